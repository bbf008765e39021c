/- The document's reader: what it is in memory; Left, form. -/
import Derived.Test.YtmcgagjjgomkeaaRis3
namespace Go.Proofs.Ytmcgagjjgomkeaa
open Go.RowKit Go.Lib

/-- The document's reader of bytes that were there at the start, so many of them read. -/
structure Df (W0 W : World) (d : Nat) (A : Option Addr) (m cap : Nat) (bs : List UInt8) (at_ : Nat) : Prop where
  blk : Bk W d 64 #[.slice A m cap, .int .i64 (at_ : Int)]
  rd : Rd W0 (.slice A m cap) m (bc bs)
  len : bs.length = m
  le : at_ ≤ m
  bel : Below W0.heap.size W0 W
  hd : W0.heap.size ≤ d
section
variable {W0 W W' : World} {d : Nat} {A : Option Addr} {m cap : Nat} {bs : List UInt8} {at_ : Nat}
theorem Df.below (h : Df W0 W d A m cap bs at_) (hb : Below W.heap.size W W') : Df W0 W' d A m cap bs at_ := ⟨h.blk.below hb, h.rd, h.len, h.le, h.bel.trans (hb.mono h.bel.size), h.hd⟩
theorem Df.step (h : Df W0 W d A m cap bs at_) (n : Nat) (hn : n ≤ m) : Df W0 (W.setCell ⟨d, 1, none⟩ (.int .i64 (n : Int))) d A m cap bs n := ⟨h.blk.set 1 _, h.rd, h.len, hn, h.bel.setCell (p := ⟨d, 1, none⟩) h.hd _, h.hd⟩
theorem Df.now (h : Df W0 W d A m cap bs at_) : Rd W (.slice A m cap) m (bc bs) := h.rd.below h.bel
theorem Df.caps (h : Df W0 W d A m cap bs at_) : m ≤ cap ∧ cap ≤ maxLen := by obtain ⟨_, _, hv, h1, h2, _⟩ := h.rd; cases hv; exact ⟨h1, h2⟩
set_option maxRecDepth 100000 in
theorem dLeft_any (h : Df W0 W d A m cap bs at_) : Calls Try.prog 31 #[.pointer (some ⟨d, 0, none⟩)] W fun e w' => e = .returned (.int .i64 ((m - at_ : Nat) : Int)) ∧ Below W.heap.size W w' := by
  have x0 : W.cell? ⟨d, 0, none⟩ = some (.slice A m cap) := h.blk.cell 0
  have x1 : W.cell? ⟨d, 1, none⟩ = some (.int .i64 (at_ : Int)) := h.blk.cell 1
  have hle := h.le
  obtain ⟨hc, hm⟩ := h.caps
  unfold maxLen at hm
  have hs : Hid ((m : Int) - (at_ : Int) = ((m - at_ : Nat) : Int)) := by show _ = _; omega
  clear h
  go_enter Try.func31, Try.ntmps31
  go_wp2
  go_region
  all_goals go_wp2
  all_goals go_ret
  all_goals exact ⟨ret_int hs.out, below_drew _⟩
set_option maxRecDepth 100000 in
theorem form_any (A : Option Addr) (k cap : Nat) (l : List UInt8) (W : World) (hr : Rd W (.slice A k cap) k (bc l)) (hl : l.length = k) :
    Calls Try.prog 68 #[.slice A k cap] W fun e w' => e = .returned (.tuple #[.int .u64 ((rdN 0 0 l).1 : Int), .int .i64 ((rdN 0 0 l).2.1 : Int), .int .i64 ((rdN 0 0 l).2.2 : Int)]) ∧ W = w' := by
  have HR := Lib.hid hr
  have HL := Lib.hid hl
  have hcm : k ≤ cap ∧ cap ≤ maxLen := by obtain ⟨_, _, hv, h1, h2, _⟩ := hr; cases hv; exact ⟨h1, h2⟩
  obtain ⟨hcm1, hcm2⟩ := hcm
  unfold maxLen at hcm2
  obtain ⟨RES, hRES⟩ : ∃ RES, RES = rdN 0 0 l := ⟨_, rfl⟩
  have HRES := Lib.hid hRES
  rw [← hRES]
  clear hr hl hRES
  go_enter Try.func68, Try.ntmps68
  go_wp2
  go_loopw [5, 6] (fun p q wr => ∃ (x i : Nat), p = .int .u64 (x : Int) ∧ q = .int .i64 i ∧ i ≤ k ∧ i ≤ 9 ∧ x < 128 ^ i ∧ rdN i x (l.drop i) = RES ∧ wr = W) (fun _ q _ => k - (intOf q).toNat)
  case atStart => exact ⟨0, 0, rfl, rfl, Nat.zero_le _, by decide, by decide, by rw [List.drop_zero]; exact HRES.out.symm, rfl⟩
  case round =>
    obtain ⟨x, i, rfl, rfl, hi, hi9, hx, hres, rfl⟩ := hrel
    have HX := Lib.hid hx
    have HS := Lib.hid hres
    clear hx hres
    by_cases hik : i < k
    · obtain ⟨_, _, hv, -, -, hx⟩ := HR.out
      cases hv
      obtain ⟨g, off, rfl, hgl, hx⟩ := hx (by omega)
      obtain ⟨b, hb⟩ : ∃ b, l[i]? = some b := ⟨_, List.getElem?_eq_getElem (by have := HL.out; omega)⟩
      have z0 : wr.cell? ⟨g, off + i, none⟩ = some (.int .u8 (b.toNat : Int)) := hx i _ (bc_at hb)
      have hdrop : l.drop i = b :: l.drop (i + 1) := by
        have hil := (List.getElem?_eq_some_iff.1 hb).1
        rw [List.drop_eq_getElem_cons hil]
        congr 1
        have := List.getElem?_eq_getElem hil
        rw [hb] at this
        exact (Option.some.inj this).symm
      have HD := Lib.hid hdrop
      clear hx hb hdrop
      have hbl : b.toNat < 256 := b.toNat_lt
      have hres : RES = rdN i x (b :: l.drop (i + 1)) := by rw [← HD.out]; exact HS.out.symm
      have hpw := pow128_le hi9
      have hval : ¬ (i = 9 ∧ b.toNat ≠ 1) → IntKind.u64.wrap ((x : Int) + IntKind.u64.wrap ((b.toNat : Int) % 128 * 2 ^ (7 * i))) = ((x + b.toNat % 128 * 128 ^ i : Nat) : Int) := fun h9 => by
        have hp : (2 : Int) ^ (7 * i) = ((128 ^ i : Nat) : Int) := by rw [Int.pow_mul]; push_cast; rfl
        have hlt : b.toNat % 128 * 128 ^ i < 9223372036854775809 := by
          by_cases h : i = 9
          · subst h
            have : b.toNat = 1 := Classical.byContradiction fun h => h9 ⟨rfl, h⟩
            rw [this]; decide
          · have h1 := Nat.pow_le_pow_right (n := 128) (by decide) (show i ≤ 8 by omega)
            have h2 : b.toNat % 128 < 128 := Nat.mod_lt _ (by decide)
            have h3 : b.toNat % 128 * 128 ^ i ≤ 127 * 128 ^ 8 := Nat.mul_le_mul (by omega) h1
            exact Nat.lt_of_le_of_lt h3 (by decide)
        have hx := HX.out
        rw [hp, show (b.toNat : Int) % 128 = ((b.toNat % 128 : Nat) : Int) by omega, ← Int.natCast_mul]
        generalize b.toNat % 128 * 128 ^ i = y at *
        rw [show IntKind.u64.wrap ((y : Nat) : Int) = (y : Int) from IntWalk.u64_in _ (by omega), ← Int.natCast_add]
        exact IntWalk.u64_in _ (by omega)
      have HVAL := Lib.hid hval
      clear hval
      by_cases h9 : i = 9
      · subst h9
        by_cases hb1 : b.toNat = 1
        · have v1 := HVAL.out (fun h => h.2 hb1)
          rw [show (2 : Int) ^ (7 * 9) = 9223372036854775808 from rfl] at v1
          have hr2 : RES = (x + b.toNat % 128 * 128 ^ 9, 9 + 1, 0) := by rw [hres, rdN, if_neg (fun h => h.2 hb1), if_neg (by omega), if_neg (by omega)]
          have HR2 := Lib.hid hr2
          have f1 : (((b.toNat : Int)) != 1) = false := by simp [hb1]
          have f2 : decide ((128 : Int) ≤ (b.toNat : Int)) = false := by simp; omega
          have f3 : (((b.toNat : Int)) == 0) = false := by simp; omega
          have HB1 := Lib.hid hb1
          clear hr2 hres hb1
          generalize x + b.toNat % 128 * 128 ^ 9 = y at *
          go_wp2
          go_ret3
          exact ⟨by rw [HR2.out]; rfl, rfl⟩
        · have hr2 : RES = (0, 0, 111) := by rw [hres, rdN, if_pos ⟨rfl, hb1⟩]
          have HR2 := Lib.hid hr2
          have f1 : (((b.toNat : Int)) != 1) = true := by simp; omega
          clear hr2 hres hb1
          go_wp2
          go_ret3
          exact ⟨by rw [HR2.out]; rfl, rfl⟩
      · have v1 := HVAL.out (fun h => h9 h.1)
        have f0 : ((i : Int) == 9) = false := by simp; omega
        by_cases hb8 : 128 ≤ b.toNat
        · have hr2 : rdN (i + 1) (x + b.toNat % 128 * 128 ^ i) (l.drop (i + 1)) = RES := by rw [hres, rdN, if_neg (fun h => h9 h.1), if_pos hb8]
          have HR2 := Lib.hid hr2
          have HGR := Lib.hid (or_grow (y := b.toNat) HX.out)
          have f2 : decide ((128 : Int) ≤ (b.toNat : Int)) = true := by simp; omega
          have hi8 : i < 9 := by omega
          clear hr2 hres h9 hb8
          generalize x + b.toNat % 128 * 128 ^ i = y at *
          go_wp2
          go_roundw
          case rel => exact ⟨y, i + 1, rfl, by go_num, by omega, by omega, HGR.out, HR2.out, by first | rfl | trivial⟩
          case measure => simp [intOf]; omega
        · have f2 : decide ((128 : Int) ≤ (b.toNat : Int)) = false := by simp; omega
          by_cases hi0 : i = 0
          · subst hi0
            rw [show (2 : Int) ^ (7 * 0) = 1 from rfl, Int.mul_one, show IntKind.u64.wrap ((b.toNat : Int) % 128) = (b.toNat : Int) % 128 from IntWalk.u64_in _ (by omega)] at v1
            rw [Nat.add_zero] at z0
            have hr2 : RES = (x + b.toNat % 128 * 128 ^ 0, 0 + 1, 0) := by rw [hres, rdN, if_neg (fun h => h9 h.1), if_neg hb8, if_neg (fun h => by have := h.1; omega)]
            have HR2 := Lib.hid hr2
            clear hr2 hres h9 hb8
            generalize x + b.toNat % 128 * 128 ^ 0 = y at *
            go_wp2
            go_ret3
            exact ⟨by rw [HR2.out]; rfl, rfl⟩
          · have f4 : decide ((0 : Int) < (i : Int)) = true := by simp; omega
            have f5 : decide (0 < i) = true := by simp; omega
            by_cases hb0 : b.toNat = 0
            · have hr2 : RES = (0, 0, 111) := by rw [hres, rdN, if_neg (fun h => h9 h.1), if_neg hb8, if_pos ⟨by omega, hb0⟩]
              have HR2 := Lib.hid hr2
              have f3 : (((b.toNat : Int)) == 0) = true := by simp [hb0]
              clear hr2 hres h9 hb8 hb0 hi0
              go_wp2
              go_ret3
              exact ⟨by rw [HR2.out]; rfl, rfl⟩
            · have hr2 : RES = (x + b.toNat % 128 * 128 ^ i, i + 1, 0) := by rw [hres, rdN, if_neg (fun h => h9 h.1), if_neg hb8, if_neg (fun h => hb0 h.2)]
              have HR2 := Lib.hid hr2
              have f3 : (((b.toNat : Int)) == 0) = false := by simp; omega
              clear hr2 hres h9 hb8 hb0 hi0
              generalize x + b.toNat % 128 * 128 ^ i = y at *
              go_wp2
              go_ret3
              exact ⟨by rw [HR2.out]; rfl, rfl⟩
    · obtain rfl : i = k := by omega
      have hr2 : RES = (0, 0, 110) := by rw [← HS.out, List.drop_eq_nil_of_le (by rw [HL.out]; exact Nat.le_refl _)]; rfl
      have HR2 := Lib.hid hr2
      clear hr2
      go_wp2
      go_ret3
      exact ⟨by rw [HR2.out]; rfl, rfl⟩
end
end Go.Proofs.Ytmcgagjjgomkeaa
