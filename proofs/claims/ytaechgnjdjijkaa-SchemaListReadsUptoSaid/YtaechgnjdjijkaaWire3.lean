/- Wire3: Df1, Df2, Df3. -/
import Derived.Test.YtaechgnjdjijkaaWire2
/- The document's reader: what it is in memory; Left, form. -/
namespace Go.Proofs.Ytaechgnjdjijkaa
open Go.RowKit Go.Lib

/-- The document's reader of bytes that were there at the start, so many of them read. -/
structure Df (W0 W : World) (d : Nat) (A : Option Addr) (m cap : Nat) (bs : List UInt8) (at_ : Nat) : Prop where
  blk : Bk W d 82 #[.slice A m cap, .int .i64 (at_ : Int)]
  rd : Rd W0 (.slice A m cap) m (bc bs)
  len : bs.length = m
  le : at_ ≤ m
  bel : Below W0.heap.size W0 W
  hd : W0.heap.size ≤ d
section
variable {W0 W W' : World} {d : Nat} {A : Option Addr} {m cap : Nat} {bs : List UInt8} {at_ : Nat}
theorem Df.below (h : Df W0 W d A m cap bs at_) (hb : Below W.heap.size W W') : Df W0 W' d A m cap bs at_ := ⟨h.blk.below hb, h.rd, h.len, h.le, h.bel.trans (hb.mono h.bel.size), h.hd⟩
theorem Df.step (h : Df W0 W d A m cap bs at_) (n : Nat) (hn : n ≤ m) : Df W0 (W.setCell ⟨d, 1, none⟩ (.int .i64 (n : Int))) d A m cap bs n := ⟨h.blk.set 1 _, h.rd, h.len, hn, h.bel.setCell (p := ⟨d, 1, none⟩) h.hd _, h.hd⟩
theorem Df.now (h : Df W0 W d A m cap bs at_) : Rd W (.slice A m cap) m (bc bs) := h.rd.below h.bel
theorem Df.caps (h : Df W0 W d A m cap bs at_) : m ≤ cap ∧ cap ≤ maxLen := by obtain ⟨_, _, hv, h1, h2, _⟩ := h.rd; cases hv; exact ⟨h1, h2⟩
set_option maxRecDepth 100000 in
theorem dLeft_any (h : Df W0 W d A m cap bs at_) : Calls Try.prog 66 #[.pointer (some ⟨d, 0, none⟩)] W fun e w' => e = .returned (.int .i64 ((m - at_ : Nat) : Int)) ∧ Below W.heap.size W w' := by
  have x0 : W.cell? ⟨d, 0, none⟩ = some (.slice A m cap) := h.blk.cell 0
  have x1 : W.cell? ⟨d, 1, none⟩ = some (.int .i64 (at_ : Int)) := h.blk.cell 1
  have hle := h.le
  obtain ⟨hc, hm⟩ := h.caps
  unfold maxLen at hm
  have hs : Hid ((m : Int) - (at_ : Int) = ((m - at_ : Nat) : Int)) := by show _ = _; omega
  clear h
  go_enter Try.func66, Try.ntmps66
  go_wp2
  go_region
  all_goals go_wp2
  all_goals go_ret
  all_goals exact ⟨ret_int hs.out, below_drew _⟩
set_option maxRecDepth 100000 in
theorem form_any (A : Option Addr) (k cap : Nat) (l : List UInt8) (W : World) (hr : Rd W (.slice A k cap) k (bc l)) (hl : l.length = k) :
    Calls Try.prog 67 #[.slice A k cap] W fun e w' => e = .returned (.tuple #[.int .u64 ((rdN 0 0 l).1 : Int), .int .i64 ((rdN 0 0 l).2.1 : Int), .int .i64 ((rdN 0 0 l).2.2 : Int)]) ∧ W = w' := by
  have HR := Lib.hid hr
  have HL := Lib.hid hl
  have hcm : k ≤ cap ∧ cap ≤ maxLen := by obtain ⟨_, _, hv, h1, h2, _⟩ := hr; cases hv; exact ⟨h1, h2⟩
  obtain ⟨hcm1, hcm2⟩ := hcm
  unfold maxLen at hcm2
  obtain ⟨RES, hRES⟩ : ∃ RES, RES = rdN 0 0 l := ⟨_, rfl⟩
  have HRES := Lib.hid hRES
  rw [← hRES]
  clear hr hl hRES
  go_enter Try.func67, Try.ntmps67
  go_wp2
  go_loopw [5, 6] (fun p q wr => ∃ (x i : Nat), p = .int .u64 (x : Int) ∧ q = .int .i64 i ∧ i ≤ k ∧ i ≤ 9 ∧ x < 128 ^ i ∧ rdN i x (l.drop i) = RES ∧ wr = W) (fun _ q _ => k - (intOf q).toNat)
  case atStart => exact ⟨0, 0, rfl, rfl, Nat.zero_le _, by decide, by decide, by rw [List.drop_zero]; exact HRES.out.symm, rfl⟩
  case round =>
    obtain ⟨x, i, rfl, rfl, hi, hi9, hx, hres, rfl⟩ := hrel
    have HX := Lib.hid hx
    have HS := Lib.hid hres
    clear hx hres
    by_cases hik : i < k
    · obtain ⟨_, _, hv, -, -, hx⟩ := HR.out
      cases hv
      obtain ⟨g, off, rfl, hgl, hx⟩ := hx (by omega)
      obtain ⟨b, hb⟩ : ∃ b, l[i]? = some b := ⟨_, List.getElem?_eq_getElem (by have := HL.out; omega)⟩
      have z0 : wr.cell? ⟨g, off + i, none⟩ = some (.int .u8 (b.toNat : Int)) := hx i _ (bc_at hb)
      have hdrop : l.drop i = b :: l.drop (i + 1) := by
        have hil := (List.getElem?_eq_some_iff.1 hb).1
        rw [List.drop_eq_getElem_cons hil]
        congr 1
        have := List.getElem?_eq_getElem hil
        rw [hb] at this
        exact (Option.some.inj this).symm
      have HD := Lib.hid hdrop
      clear hx hb hdrop
      have hbl : b.toNat < 256 := b.toNat_lt
      have hres : RES = rdN i x (b :: l.drop (i + 1)) := by rw [← HD.out]; exact HS.out.symm
      have hpw := pow128_le hi9
      have hval : ¬ (i = 9 ∧ b.toNat ≠ 1) → IntKind.u64.wrap ((x : Int) + IntKind.u64.wrap ((b.toNat : Int) % 128 * 2 ^ (7 * i))) = ((x + b.toNat % 128 * 128 ^ i : Nat) : Int) := fun h9 => by
        have hp : (2 : Int) ^ (7 * i) = ((128 ^ i : Nat) : Int) := by rw [Int.pow_mul]; push_cast; rfl
        have hlt : b.toNat % 128 * 128 ^ i < 9223372036854775809 := by
          by_cases h : i = 9
          · subst h
            have : b.toNat = 1 := Classical.byContradiction fun h => h9 ⟨rfl, h⟩
            rw [this]; decide
          · have h1 := Nat.pow_le_pow_right (n := 128) (by decide) (show i ≤ 8 by omega)
            have h2 : b.toNat % 128 < 128 := Nat.mod_lt _ (by decide)
            have h3 : b.toNat % 128 * 128 ^ i ≤ 127 * 128 ^ 8 := Nat.mul_le_mul (by omega) h1
            exact Nat.lt_of_le_of_lt h3 (by decide)
        have hx := HX.out
        rw [hp, show (b.toNat : Int) % 128 = ((b.toNat % 128 : Nat) : Int) by omega, ← Int.natCast_mul]
        generalize b.toNat % 128 * 128 ^ i = y at *
        rw [show IntKind.u64.wrap ((y : Nat) : Int) = (y : Int) from IntWalk.u64_in _ (by omega), ← Int.natCast_add]
        exact IntWalk.u64_in _ (by omega)
      have HVAL := Lib.hid hval
      clear hval
      by_cases h9 : i = 9
      · subst h9
        by_cases hb1 : b.toNat = 1
        · have v1 := HVAL.out (fun h => h.2 hb1)
          rw [show (2 : Int) ^ (7 * 9) = 9223372036854775808 from rfl] at v1
          have hr2 : RES = (x + b.toNat % 128 * 128 ^ 9, 9 + 1, 0) := by rw [hres, rdN, if_neg (fun h => h.2 hb1), if_neg (by omega), if_neg (by omega)]
          have HR2 := Lib.hid hr2
          have f1 : (((b.toNat : Int)) != 1) = false := by simp [hb1]
          have f2 : decide ((128 : Int) ≤ (b.toNat : Int)) = false := by simp; omega
          have f3 : (((b.toNat : Int)) == 0) = false := by simp; omega
          have HB1 := Lib.hid hb1
          clear hr2 hres hb1
          generalize x + b.toNat % 128 * 128 ^ 9 = y at *
          go_wp2
          go_ret3
          exact ⟨by rw [HR2.out]; rfl, rfl⟩
        · have hr2 : RES = (0, 0, 111) := by rw [hres, rdN, if_pos ⟨rfl, hb1⟩]
          have HR2 := Lib.hid hr2
          have f1 : (((b.toNat : Int)) != 1) = true := by simp; omega
          clear hr2 hres hb1
          go_wp2
          go_ret3
          exact ⟨by rw [HR2.out]; rfl, rfl⟩
      · have v1 := HVAL.out (fun h => h9 h.1)
        have f0 : ((i : Int) == 9) = false := by simp; omega
        by_cases hb8 : 128 ≤ b.toNat
        · have hr2 : rdN (i + 1) (x + b.toNat % 128 * 128 ^ i) (l.drop (i + 1)) = RES := by rw [hres, rdN, if_neg (fun h => h9 h.1), if_pos hb8]
          have HR2 := Lib.hid hr2
          have HGR := Lib.hid (or_grow (y := b.toNat) HX.out)
          have f2 : decide ((128 : Int) ≤ (b.toNat : Int)) = true := by simp; omega
          have hi8 : i < 9 := by omega
          clear hr2 hres h9 hb8
          generalize x + b.toNat % 128 * 128 ^ i = y at *
          go_wp2
          go_roundw
          case rel => exact ⟨y, i + 1, rfl, by go_num, by omega, by omega, HGR.out, HR2.out, by first | rfl | trivial⟩
          case measure => simp [intOf]; omega
        · have f2 : decide ((128 : Int) ≤ (b.toNat : Int)) = false := by simp; omega
          by_cases hi0 : i = 0
          · subst hi0
            rw [show (2 : Int) ^ (7 * 0) = 1 from rfl, Int.mul_one, show IntKind.u64.wrap ((b.toNat : Int) % 128) = (b.toNat : Int) % 128 from IntWalk.u64_in _ (by omega)] at v1
            rw [Nat.add_zero] at z0
            have hr2 : RES = (x + b.toNat % 128 * 128 ^ 0, 0 + 1, 0) := by rw [hres, rdN, if_neg (fun h => h9 h.1), if_neg hb8, if_neg (fun h => by have := h.1; omega)]
            have HR2 := Lib.hid hr2
            clear hr2 hres h9 hb8
            generalize x + b.toNat % 128 * 128 ^ 0 = y at *
            go_wp2
            go_ret3
            exact ⟨by rw [HR2.out]; rfl, rfl⟩
          · have f4 : decide ((0 : Int) < (i : Int)) = true := by simp; omega
            have f5 : decide (0 < i) = true := by simp; omega
            by_cases hb0 : b.toNat = 0
            · have hr2 : RES = (0, 0, 111) := by rw [hres, rdN, if_neg (fun h => h9 h.1), if_neg hb8, if_pos ⟨by omega, hb0⟩]
              have HR2 := Lib.hid hr2
              have f3 : (((b.toNat : Int)) == 0) = true := by simp [hb0]
              clear hr2 hres h9 hb8 hb0 hi0
              go_wp2
              go_ret3
              exact ⟨by rw [HR2.out]; rfl, rfl⟩
            · have hr2 : RES = (x + b.toNat % 128 * 128 ^ i, i + 1, 0) := by rw [hres, rdN, if_neg (fun h => h9 h.1), if_neg hb8, if_neg (fun h => hb0 h.2)]
              have HR2 := Lib.hid hr2
              have f3 : (((b.toNat : Int)) == 0) = false := by simp; omega
              clear hr2 hres h9 hb8 hb0 hi0
              generalize x + b.toNat % 128 * 128 ^ i = y at *
              go_wp2
              go_ret3
              exact ⟨by rw [HR2.out]; rfl, rfl⟩
    · obtain rfl : i = k := by omega
      have hr2 : RES = (0, 0, 110) := by rw [← HS.out, List.drop_eq_nil_of_le (by rw [HL.out]; exact Nat.le_refl _)]; rfl
      have HR2 := Lib.hid hr2
      clear hr2
      go_wp2
      go_ret3
      exact ⟨by rw [HR2.out]; rfl, rfl⟩
end
end Go.Proofs.Ytaechgnjdjijkaa

/- The document's reader: Number, Signed, length, Byte, Raw, Fixed. -/
namespace Go.Proofs.Ytaechgnjdjijkaa
open Go.RowKit Go.Lib

/-- A cut of bytes from a place on, run. -/
theorem run_rd_from {w : World} {a : Option Addr} {m cap : Nat} {l : List UInt8} (h : Rd w (.slice a m cap) m (bc l)) (hl : l.length = m) (f : Nat) (hf : f ≤ m) :
    ∃ A c, (∀ W : World, (Instr.sliceAt 25 (.slice a m cap) (some (.int .i64 (f : Int))) none none).run Try.prog W = .ok (.slice A (m - f) c) W) ∧ Rd w (.slice A (m - f) c) (m - f) (bc (l.drop f)) := by
  have hp := rd_part h f m hf (Nat.le_refl _)
  rw [List.take_of_length_le (by omega)] at hp
  obtain ⟨_, _, hv, h1, h2, _⟩ := h
  cases hv
  refine ⟨_, _, fun W => ?_, hp⟩
  rw [run_sliceAt_slice _ _ _ _ _ _ u8Sl, run_slice_l _ _ _ _ _ u8Sl _ _ (by omega) (by omega)]
  simp only [Int.toNat_natCast, u8Sz, Result.andThen_ok]
  rfl

section
variable {W0 w : World} {d : Nat} {A : Option Addr} {m cap : Nat} {bs : List UInt8} {at_ : Nat}
theorem Df.stepTo (h : Df W0 w d A m cap bs at_) (n : Nat) (hn : n ≤ m) : Df W0 (w.setCell ⟨d, 1, none⟩ (.int .i64 (n : Int))) d A m cap bs n ∧ w.grownBy (w.setCell ⟨d, 1, none⟩ (.int .i64 (n : Int))) (some d) :=
  ⟨h.step n hn, grownBy_set w ⟨d, 1, none⟩ _⟩
set_option maxRecDepth 100000 in
theorem dNumber_g (h : Df W0 w d A m cap bs at_) :
    Calls Try.prog 43 #[.pointer (some ⟨d, 0, none⟩)] w fun e w' => e = .returned (.tuple #[.int .u64 ((rdAt bs at_).1 : Int), .int .i64 ((rdAt bs at_).2.2 : Int)]) ∧ Df W0 w' d A m cap bs (at_ + (rdAt bs at_).2.1) ∧ w.grownBy w' (some d) := by
  have x0 : w.cell? ⟨d, 0, none⟩ = some (.slice A m cap) := h.blk.cell 0
  have x1 : w.cell? ⟨d, 1, none⟩ = some (.int .i64 (at_ : Int)) := h.blk.cell 1
  obtain ⟨A2, c2, hsl, hrd⟩ := run_rd_from h.now h.len at_ h.le
  have HF := Lib.hid (form_any A2 (m - at_) c2 _ w.drew hrd (by rw [List.length_drop, h.len]))
  have hle := h.le
  have hfa := (rdAt_facts bs at_ (by rw [h.len]; exact hle)).2.1
  rw [h.len] at hfa
  have hm := h.caps
  obtain ⟨hm1, hm2⟩ := hm
  unfold maxLen at hm2
  have HD := Lib.hid (h.below (below_drew w))
  have HG := Lib.hid (only_of_below (below_drew w) (some d))
  have f1 : w.frozen? ⟨d, 1, none⟩ = false := h.blk.frozen 1
  rw [show rdN 0 0 (bs.drop at_) = rdAt bs at_ from rfl] at HF
  clear h hrd
  generalize rdAt bs at_ = R at *
  obtain ⟨x, n, z⟩ := R
  have hfa : at_ + n ≤ m := hfa
  go_enter Try.func43, Try.ntmps43
  go_wp2
  go_region_held3 (fun W1 => W1.cell? ⟨d, 0, none⟩ = some (.slice A m cap) ∧ W1.cell? ⟨d, 1, none⟩ = some (.int .i64 (at_ : Int)))
    (first | exact ⟨x0, x1⟩)
    ((go_at_call 67; (with_reducible refine HF.out.mono ?_); rintro e w1 ⟨rfl, rfl⟩))
  go_wp2
  go_ret2
  obtain ⟨h1, h2⟩ := HD.out.stepTo (at_ + n) hfa
  exact ⟨rfl, h1, only_step HG.out h2 (fun b e => .inl e)⟩
/-- A length that is read, 0 if it is refused. -/
def lnX (mo : Nat) (R : Nat × Nat × Nat) : Nat := if hdE mo R = 0 then R.1 else 0
set_option maxRecDepth 100000 in
theorem dlength_neg (n : Int) (hn : n < 0) (o : Addr) (w : World) : Calls Try.prog 65 #[.pointer (some o), .int .i64 n] w fun e w' => e = .returned (.tuple #[.int .u64 0, .int .i64 2]) ∧ w = w' := by
  have h1 : decide (n < 0) = true := by simp; omega
  go_enter Try.func65, Try.ntmps65
  go_wp2
  go_ret2
  exact ⟨rfl, rfl⟩
set_option maxRecDepth 100000 in
theorem dlength_g (mo : Nat) (hmo : mo ≤ 9223372036854775807) (h : Df W0 w d A m cap bs at_) :
    Calls Try.prog 65 #[.pointer (some ⟨d, 0, none⟩), .int .i64 (mo : Int)] w fun e w' => e = .returned (.tuple #[.int .u64 (lnX mo (rdAt bs at_) : Int), .int .i64 (hdE mo (rdAt bs at_) : Int)]) ∧ Df W0 w' d A m cap bs (at_ + (rdAt bs at_).2.1) ∧ w.grownBy w' (some d) := by
  have HN := Lib.hid (dNumber_g h)
  have hwr : IntKind.u64.wrap (mo : Int) = (mo : Int) := IntWalk.u64_in _ (by omega)
  have h0 : decide ((mo : Int) < 0) = false := by simp
  clear h
  have HX : Hid (lnX mo (rdAt bs at_) = if hdE mo (rdAt bs at_) = 0 then (rdAt bs at_).1 else 0) := rfl
  have HD : Hid (hdE mo (rdAt bs at_) = (if (rdAt bs at_).2.2 = 0 then (if mo < (rdAt bs at_).1 then 3 else 0) else (rdAt bs at_).2.2)) := rfl
  generalize lnX mo (rdAt bs at_) = X at *
  generalize hdE mo (rdAt bs at_) = E at *
  generalize rdAt bs at_ = R at *
  obtain ⟨x, n, z⟩ := R
  by_cases hz : z = 0
  · have hz2 : ((z : Int) != 0) = false := by simp [hz]
    by_cases hx : mo < x
    · have hE : E = 3 := by rw [HD.out]; simp [hx, hz]
      have hX : X = 0 := by rw [HX.out, hE]; simp
      subst hE hX
      have h2 : decide (mo < x) = true := by simp [hx]
      clear hx hz
      go_enter Try.func65, Try.ntmps65
      go_wp2_with (first
        | (go_at_call 43; (with_reducible refine HN.out.mono ?_); rintro e w1 ⟨rfl, h1, h2⟩; have H1 := Lib.hid h1; have H2 := Lib.hid h2; clear h1 h2))
      go_ret2
      exact ⟨rfl, H1.out, H2.out⟩
    · have hE : E = 0 := by rw [HD.out]; simp [hx, hz]
      have hX : X = x := by rw [HX.out, hE]; simp
      subst hE hX
      have h2 : decide (mo < X) = false := by simp; omega
      clear hx hz
      go_enter Try.func65, Try.ntmps65
      go_wp2_with (first
        | (go_at_call 43; (with_reducible refine HN.out.mono ?_); rintro e w1 ⟨rfl, h1, h2⟩; have H1 := Lib.hid h1; have H2 := Lib.hid h2; clear h1 h2))
      go_ret2
      exact ⟨rfl, H1.out, H2.out⟩
  · have hE : E = z := by rw [HD.out]; simp [hz]
    have hX : X = 0 := by rw [HX.out, hE]; simp [hz]
    subst hE hX
    have h3 : ((E : Int) == 0) = false := by simp; omega
    have h4 : ((E : Int) != 0) = true := by simp; omega
    clear hz
    go_enter Try.func65, Try.ntmps65
    go_wp2_with (first
      | (go_at_call 43; (with_reducible refine HN.out.mono ?_); rintro e w1 ⟨rfl, h1, h2⟩; have H1 := Lib.hid h1; have H2 := Lib.hid h2; clear h1 h2))
    go_ret2
    exact ⟨rfl, H1.out, H2.out⟩
end
end Go.Proofs.Ytaechgnjdjijkaa

/- The document's reader: Fixed, Text. -/
namespace Go.Proofs.Ytaechgnjdjijkaa
open Go.RowKit Go.Lib

section
variable {W0 w w' : World} {d : Nat} {A : Option Addr} {m cap : Nat} {bs : List UInt8} {at_ : Nat}
theorem Df.grown {row : Option Nat} (h : Df W0 w d A m cap bs at_) (hg : w.grownBy w' row) (hr : ∀ b, row = some b → W0.heap.size ≤ b ∧ b ≠ d) : Df W0 w' d A m cap bs at_ :=
  ⟨h.blk.grown hg (fun e => (hr d e).2 rfl), h.rd, h.len, h.le, h.bel.grown hg h.bel.size (fun r e => (hr r e).1), h.hd⟩
set_option maxRecDepth 100000 in
theorem dText_neg (n : Int) (hn : n < 0) (h : Df W0 w d A m cap bs at_) : Calls Try.prog 42 #[.pointer (some ⟨d, 0, none⟩), .int .i64 n] w fun e w' => e = .returned (.tuple #[.string ⟨#[]⟩, .int .i64 2]) ∧ Df W0 w' d A m cap bs at_ ∧ w.grownBy w' (some d) := by
  have x1 : w.cell? ⟨d, 1, none⟩ = some (.int .i64 (at_ : Int)) := h.blk.cell 1
  have f1 := h.blk.frozen 1
  have HS := Lib.hid (h.stepTo at_ h.le)
  have HL := Lib.hid (dlength_neg n hn ⟨d, 0, none⟩ w)
  clear h hn
  go_enter Try.func42, Try.ntmps42
  go_wp2_with (first
    | (go_at_call 65; (with_reducible refine HL.out.mono ?_); rintro e w1 ⟨rfl, rfl⟩))
  go_ret2
  exact ⟨rfl, HS.out.1, HS.out.2⟩
set_option maxRecDepth 100000 in
theorem dText_bad (mo : Nat) (hmo : mo ≤ 9223372036854775807) (h : Df W0 w d A m cap bs at_) (he : txE mo bs at_ ≠ 0) :
    Calls Try.prog 42 #[.pointer (some ⟨d, 0, none⟩), .int .i64 (mo : Int)] w fun e w' => e = .returned (.tuple #[.string ⟨#[]⟩, .int .i64 (txE mo bs at_ : Int)]) ∧ Df W0 w' d A m cap bs at_ ∧ w.grownBy w' (some d) := by
  have x1 : w.cell? ⟨d, 1, none⟩ = some (.int .i64 (at_ : Int)) := h.blk.cell 1
  have HLN := Lib.hid (dlength_g mo hmo h)
  have HLE : Hid (at_ ≤ m) := h.le
  have hmm := h.caps.2
  have hcm := h.caps.1
  unfold maxLen at hmm
  have hX : Hid (lnX mo (rdAt bs at_) = if hdE mo (rdAt bs at_) = 0 then (rdAt bs at_).1 else 0) := rfl
  have hT : Hid (txE mo bs at_ = if hdE mo (rdAt bs at_) = 0 then (if m - (at_ + (rdAt bs at_).2.1) < (rdAt bs at_).1 then 110 else 0) else hdE mo (rdAt bs at_)) := by show _ = _; unfold txE; rw [h.len]
  clear h
  generalize txE mo bs at_ = T at *
  generalize lnX mo (rdAt bs at_) = X at *
  generalize hdE mo (rdAt bs at_) = E at *
  generalize rdAt bs at_ = R at *
  obtain ⟨x, n, z⟩ := R
  by_cases h0 : E = 0
  · subst h0
    have hXx : X = x := by rw [hX.out, if_pos rfl]
    subst hXx
    have hlt : m - (at_ + n) < X := by
      have := hT.out
      rw [if_pos rfl] at this
      change T = (if m - (at_ + n) < X then 110 else 0) at this
      rcases Nat.lt_or_ge (m - (at_ + n)) X with h | h
      · exact h
      · rw [if_neg (by omega)] at this; exact absurd this he
    have hTT : T = 110 := by have := hT.out; rw [if_pos rfl] at this; change T = (if m - (at_ + n) < X then 110 else 0) at this; rw [if_pos hlt] at this; exact this
    subst hTT
    have hd2 : decide (m - (at_ + n) < X) = true := by simpa using hlt
    have hwr : IntKind.u64.wrap ((m - (at_ + n) : Nat) : Int) = ((m - (at_ + n) : Nat) : Int) := IntWalk.u64_in _ (by omega)
    clear hlt he hX hT
    go_enter Try.func42, Try.ntmps42
    go_wp2_with (first
      | (go_at_call 65; (with_reducible refine HLN.out.mono ?_); rintro e w1 ⟨rfl, h1, h2⟩
         have HL1 := Lib.hid (dLeft_any h1); have H1 := Lib.hid h1; have H2 := Lib.hid h2; clear h1 h2
         generalize m - (at_ + n) = L at *)
      | (go_at_call 66; (with_reducible refine HL1.out.mono ?_); rintro e w2 ⟨rfl, hb⟩
         have hh := H1.out.below hb
         have f2 := hh.blk.frozen 1
         have y1 : w2.cell? ⟨d, 1, none⟩ = some (.int .i64 ((at_ + n : Nat) : Int)) := hh.blk.cell 1
         have HS := Lib.hid (hh.stepTo at_ HLE.out)
         have HG := Lib.hid (only_step H2.out (below_grown hb none) (fun b e => by cases e)); clear hh hb))
    go_ret2
    exact ⟨rfl, HS.out.1, only_step HG.out HS.out.2 (fun b e => .inl e)⟩
  · have hXx : X = 0 := by rw [hX.out, if_neg h0]
    have hTT : T = E := by have := hT.out; rw [if_neg h0] at this; exact this
    subst hXx hTT
    have h1 : ((T : Int) == 0) = false := by simp; omega
    have h2 : ((T : Int) != 0) = true := by simp; omega
    clear he hX hT h0
    go_enter Try.func42, Try.ntmps42
    go_wp2_with (first
      | (go_at_call 65; (with_reducible refine HLN.out.mono ?_); rintro e w1 ⟨rfl, h1, h2⟩
         have f2 := h1.blk.frozen 1
         have y1 : w1.cell? ⟨d, 1, none⟩ = some (.int .i64 ((at_ + n : Nat) : Int)) := h1.blk.cell 1
         have HS := Lib.hid (h1.stepTo at_ HLE.out); have H2 := Lib.hid h2; clear h1 h2))
    go_ret2
    exact ⟨rfl, HS.out.1, only_step H2.out HS.out.2 (fun b e => .inl e)⟩
set_option maxRecDepth 100000 in
theorem dText_ok (mo : Nat) (hmo : mo ≤ 9223372036854775807) (h : Df W0 w d A m cap bs at_) (he : txE mo bs at_ = 0) :
    Calls Try.prog 42 #[.pointer (some ⟨d, 0, none⟩), .int .i64 (mo : Int)] w fun e w' => e = .returned (.tuple #[.string ⟨(cut bs (at_ + (rdAt bs at_).2.1) (rdAt bs at_).1).toArray⟩, .int .i64 0]) ∧ Df W0 w' d A m cap bs (at_ + (rdAt bs at_).2.1 + (rdAt bs at_).1) ∧ w.grownBy w' (some d) := by
  have x1 : w.cell? ⟨d, 1, none⟩ = some (.int .i64 (at_ : Int)) := h.blk.cell 1
  have HLN := Lib.hid (dlength_g mo hmo h)
  have hmm := h.caps.2
  have hcm := h.caps.1
  unfold maxLen at hmm
  obtain ⟨hx, -, -⟩ := text_again bs mo at_ (by rw [h.len]; exact h.le) he
  rw [h.len] at hx
  have h0 : hdE mo (rdAt bs at_) = 0 := by
    unfold txE at he
    rcases Nat.decEq (hdE mo (rdAt bs at_)) 0 with h | h
    · rw [if_neg h] at he; exact absurd he h
    · exact h
  have hX : lnX mo (rdAt bs at_) = (rdAt bs at_).1 := by unfold lnX; rw [if_pos h0]
  have hrd := h.rd
  obtain ⟨A', c', hsl, hrd2⟩ := run_rd_part hrd (at_ + (rdAt bs at_).2.1) (at_ + (rdAt bs at_).2.1 + (rdAt bs at_).1) (Nat.le_add_right _ _) hx
  have HCL : Hid ((cut bs (at_ + (rdAt bs at_).2.1) (rdAt bs at_).1).length = (rdAt bs at_).1) := cut_length _ _ _ (by rw [h.len]; exact hx)
  rw [hX, h0] at HLN
  have hrd2 : Rd W0 (.slice A' (at_ + (rdAt bs at_).2.1 + (rdAt bs at_).1 - (at_ + (rdAt bs at_).2.1)) c') (at_ + (rdAt bs at_).2.1 + (rdAt bs at_).1 - (at_ + (rdAt bs at_).2.1)) (bc (cut bs (at_ + (rdAt bs at_).2.1) (rdAt bs at_).1)) := hrd2
  clear h h0 hX he hrd
  generalize cut bs (at_ + (rdAt bs at_).2.1) (rdAt bs at_).1 = C at *
  generalize rdAt bs at_ = R at *
  obtain ⟨x, n, z⟩ := R
  rw [show ((x, n, z) : Nat × Nat × Nat).1 = x from rfl, show ((x, n, z) : Nat × Nat × Nat).2.1 = n from rfl] at *
  rw [show ((at_ + n + x : Nat) : Int) = ((at_ + n : Nat) : Int) + (x : Int) by omega, show at_ + n + x - (at_ + n) = x by omega] at hsl
  rw [show at_ + n + x - (at_ + n) = x by omega] at hrd2
  have HRD := Lib.hid hrd2
  have hx' := hx
  obtain ⟨p, hp⟩ : ∃ p, at_ + n = p := ⟨_, rfl⟩
  rw [hp] at hsl hx HLN ⊢
  have hd2 : decide (m - p < x) = false := by simp; omega
  have hwr0 : IntKind.u64.wrap ((m - p : Nat) : Int) = ((m - p : Nat) : Int) := IntWalk.u64_in _ (by omega)
  have hwx : IntKind.i64.wrap (x : Int) = (x : Int) := IntWalk.i64_in _ (by omega)
  have hwr : IntKind.i64.wrap ((p : Int) + (x : Int) - (x : Int)) = (p : Int) := by rw [Int.add_sub_cancel]; exact IntWalk.i64_in _ (by omega)
  have hwr2 : IntKind.i64.wrap (p : Int) = (p : Int) := IntWalk.i64_in _ (by omega)
  have hHX := Lib.hid hx
  clear hp hrd2 hx'
  go_enter Try.func42, Try.ntmps42
  go_wp2_with (first
    | (go_at_call 65; (with_reducible refine HLN.out.mono ?_); rintro e w1 ⟨rfl, h1, h2⟩
       have HL1 := Lib.hid (dLeft_any h1); have H1 := Lib.hid h1; have H2 := Lib.hid h2; clear h1 h2
       generalize m - p = L at *)
    | (go_at_call 66; (with_reducible refine HL1.out.mono ?_); rintro e w2 ⟨rfl, hb⟩
       have hh1 := H1.out.below hb
       have x1 : w2.cell? ⟨d, 1, none⟩ = some (.int .i64 (p : Int)) := hh1.blk.cell 1
       have f1 := hh1.blk.frozen 1
       obtain ⟨hh2, hg2⟩ := hh1.stepTo (p + x) hHX.out
       have HH2 := Lib.hid hh2
       have HG2 := Lib.hid (only_step (only_step H2.out (below_grown hb none) (fun b e => by cases e)) hg2 (fun b e => .inl e))
       clear hb hh1 hh2 hg2))
  have hh2 := HH2.out
  have hg2 := HG2.out
  rw [show ((p + x : Nat) : Int) = (p : Int) + (x : Int) by omega] at hh2 hg2
  clear x1 f1 HH2 HG2
  generalize w2.setCell ⟨d, 1, none⟩ (.int .i64 ((p : Int) + (x : Int))) = W2 at *
  have x0 : W2.cell? ⟨d, 0, none⟩ = some (.slice A m cap) := hh2.blk.cell 0
  have x1 : W2.cell? ⟨d, 1, none⟩ = some (.int .i64 ((p + x : Nat) : Int)) := hh2.blk.cell 1
  rw [show ((p + x : Nat) : Int) = (p : Int) + (x : Int) by omega] at x1
  have hcv : ∀ k, (convert 25 9 (.slice A' x c')).run Try.prog (W2.drewN k) = .ok (.string ⟨C.toArray⟩) (W2.drewN k) := fun k => conv_rd _ A' x c' C (HRD.out.below (below_drewN hh2.bel k)) HCL.out
  have hcv0 := hcv 0
  have hcv1 := hcv 1
  have HH2 := Lib.hid (hh2.below (below_drew W2))
  have HG2 := Lib.hid (only_step hg2 (below_grown (below_drew W2) none) (fun b e => by cases e))
  clear hh2 hg2 hcv
  go_region_held3 (fun W1 => W1.cell? ⟨d, 0, none⟩ = some (.slice A m cap) ∧ W1.cell? ⟨d, 1, none⟩ = some (.int .i64 ((p : Int) + (x : Int))) ∧ (convert 25 9 (.slice A' x c')).run Try.prog W1 = .ok (.string ⟨C.toArray⟩) W1)
    (first | exact ⟨x0, x1, hcv1⟩ | exact ⟨x0, x1, hcv0⟩) (fail)
  go_wp2
  go_ret2
  exact ⟨rfl, HH2.out, HG2.out⟩
end
end Go.Proofs.Ytaechgnjdjijkaa
