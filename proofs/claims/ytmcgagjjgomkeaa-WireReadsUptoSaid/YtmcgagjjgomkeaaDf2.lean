/- The document's reader: Number, Signed, length, Byte, Raw, Fixed. -/
import Derived.Test.YtmcgagjjgomkeaaDf1
namespace Go.Proofs.Ytmcgagjjgomkeaa
open Go.RowKit Go.Lib

/-- A cut of bytes from a place on, run. -/
theorem run_rd_from {w : World} {a : Option Addr} {m cap : Nat} {l : List UInt8} (h : Rd w (.slice a m cap) m (bc l)) (hl : l.length = m) (f : Nat) (hf : f ≤ m) :
    ∃ A c, (∀ W : World, (Instr.sliceAt 29 (.slice a m cap) (some (.int .i64 (f : Int))) none none).run Try.prog W = .ok (.slice A (m - f) c) W) ∧ Rd w (.slice A (m - f) c) (m - f) (bc (l.drop f)) := by
  have hp := rd_part h f m hf (Nat.le_refl _)
  rw [List.take_of_length_le (by omega)] at hp
  obtain ⟨_, _, hv, h1, h2, _⟩ := h
  cases hv
  refine ⟨_, _, fun W => ?_, hp⟩
  rw [run_sliceAt_slice _ _ _ _ _ _ u8Sl, run_slice_l _ _ _ _ _ u8Sl _ _ (by omega) (by omega)]
  simp only [Int.toNat_natCast, u8Sz, Result.andThen_ok]
  rfl

section
variable {W0 w : World} {d : Nat} {A : Option Addr} {m cap : Nat} {bs : List UInt8} {at_ : Nat}
theorem Df.stepTo (h : Df W0 w d A m cap bs at_) (n : Nat) (hn : n ≤ m) : Df W0 (w.setCell ⟨d, 1, none⟩ (.int .i64 (n : Int))) d A m cap bs n ∧ w.grownBy (w.setCell ⟨d, 1, none⟩ (.int .i64 (n : Int))) (some d) :=
  ⟨h.step n hn, grownBy_set w ⟨d, 1, none⟩ _⟩
set_option maxRecDepth 100000 in
theorem dNumber_g (h : Df W0 w d A m cap bs at_) :
    Calls Try.prog 61 #[.pointer (some ⟨d, 0, none⟩)] w fun e w' => e = .returned (.tuple #[.int .u64 ((rdAt bs at_).1 : Int), .int .i64 ((rdAt bs at_).2.2 : Int)]) ∧ Df W0 w' d A m cap bs (at_ + (rdAt bs at_).2.1) ∧ w.grownBy w' (some d) := by
  have x0 : w.cell? ⟨d, 0, none⟩ = some (.slice A m cap) := h.blk.cell 0
  have x1 : w.cell? ⟨d, 1, none⟩ = some (.int .i64 (at_ : Int)) := h.blk.cell 1
  obtain ⟨A2, c2, hsl, hrd⟩ := run_rd_from h.now h.len at_ h.le
  have HF := Lib.hid (form_any A2 (m - at_) c2 _ w.drew hrd (by rw [List.length_drop, h.len]))
  have hle := h.le
  have hfa := (rdAt_facts bs at_ (by rw [h.len]; exact hle)).2.1
  rw [h.len] at hfa
  have hm := h.caps
  obtain ⟨hm1, hm2⟩ := hm
  unfold maxLen at hm2
  have HD := Lib.hid (h.below (below_drew w))
  have HG := Lib.hid (only_of_below (below_drew w) (some d))
  have f1 : w.frozen? ⟨d, 1, none⟩ = false := h.blk.frozen 1
  rw [show rdN 0 0 (bs.drop at_) = rdAt bs at_ from rfl] at HF
  clear h hrd
  generalize rdAt bs at_ = R at *
  obtain ⟨x, n, z⟩ := R
  have hfa : at_ + n ≤ m := hfa
  go_enter Try.func61, Try.ntmps61
  go_wp2
  go_region_held3 (fun W1 => W1.cell? ⟨d, 0, none⟩ = some (.slice A m cap) ∧ W1.cell? ⟨d, 1, none⟩ = some (.int .i64 (at_ : Int)))
    (first | exact ⟨x0, x1⟩)
    ((go_at_call 68; (with_reducible refine HF.out.mono ?_); rintro e w1 ⟨rfl, rfl⟩))
  go_wp2
  go_ret2
  obtain ⟨h1, h2⟩ := HD.out.stepTo (at_ + n) hfa
  exact ⟨rfl, h1, only_step HG.out h2 (fun b e => .inl e)⟩
set_option maxRecDepth 100000 in
theorem dSigned_g (h : Df W0 w d A m cap bs at_) :
    Calls Try.prog 62 #[.pointer (some ⟨d, 0, none⟩)] w fun e w' => e = .returned (.tuple #[.int .i64 (sgAt bs at_), .int .i64 ((rdAt bs at_).2.2 : Int)]) ∧ Df W0 w' d A m cap bs (at_ + (rdAt bs at_).2.1) ∧ w.grownBy w' (some d) := by
  have HN := Lib.hid (dNumber_g h)
  have hlt := (rdAt_facts bs at_ (by rw [h.len]; exact h.le)).1
  have HU := Lib.hid (fun w => refUnfold_any (rdAt bs at_).1 w hlt)
  have HSG : Hid (sgAt bs at_ = if (rdAt bs at_).2.2 = 0 then unz (rdAt bs at_).1 else 0) := rfl
  clear h hlt
  generalize rdAt bs at_ = R at *
  obtain ⟨x, n, z⟩ := R
  generalize sgAt bs at_ = s at *
  by_cases hz : z = 0
  · have hz1 : ((z : Int) == 0) = true := by simp [hz]
    have hz2 : ((z : Int) != 0) = false := by simp [hz]
    have hs : s = unz x := by rw [HSG.out, if_pos hz]
    subst hs
    go_enter Try.func62, Try.ntmps62
    go_wp2_with (first
      | (go_at_call 61; (with_reducible refine HN.out.mono ?_); rintro e w1 ⟨rfl, h1, h2⟩; have H1 := Lib.hid h1; have H2 := Lib.hid h2; clear h1 h2)
      | (go_at_call 69; (with_reducible refine (HU.out _).mono ?_); rintro e w2 ⟨rfl, rfl⟩))
    go_ret2
    exact ⟨by subst hz; rfl, H1.out, H2.out⟩
  · have hz1 : ((z : Int) == 0) = false := by simp; omega
    have hz2 : ((z : Int) != 0) = true := by simp; omega
    have hs : s = 0 := by rw [HSG.out, if_neg hz]
    subst hs
    go_enter Try.func62, Try.ntmps62
    go_wp2_with (first
      | (go_at_call 61; (with_reducible refine HN.out.mono ?_); rintro e w1 ⟨rfl, h1, h2⟩; have H1 := Lib.hid h1; have H2 := Lib.hid h2; clear h1 h2))
    go_ret2
    exact ⟨rfl, H1.out, H2.out⟩
/-- A length that is read, 0 if it is refused. -/
def lnX (mo : Nat) (R : Nat × Nat × Nat) : Nat := if hdE mo R = 0 then R.1 else 0
set_option maxRecDepth 100000 in
theorem dlength_neg (n : Int) (hn : n < 0) (o : Addr) (w : World) : Calls Try.prog 70 #[.pointer (some o), .int .i64 n] w fun e w' => e = .returned (.tuple #[.int .u64 0, .int .i64 2]) ∧ w = w' := by
  have h1 : decide (n < 0) = true := by simp; omega
  go_enter Try.func70, Try.ntmps70
  go_wp2
  go_ret2
  exact ⟨rfl, rfl⟩
set_option maxRecDepth 100000 in
theorem dlength_g (mo : Nat) (hmo : mo ≤ 9223372036854775807) (h : Df W0 w d A m cap bs at_) :
    Calls Try.prog 70 #[.pointer (some ⟨d, 0, none⟩), .int .i64 (mo : Int)] w fun e w' => e = .returned (.tuple #[.int .u64 (lnX mo (rdAt bs at_) : Int), .int .i64 (hdE mo (rdAt bs at_) : Int)]) ∧ Df W0 w' d A m cap bs (at_ + (rdAt bs at_).2.1) ∧ w.grownBy w' (some d) := by
  have HN := Lib.hid (dNumber_g h)
  have hwr : IntKind.u64.wrap (mo : Int) = (mo : Int) := IntWalk.u64_in _ (by omega)
  have h0 : decide ((mo : Int) < 0) = false := by simp
  clear h
  have HX : Hid (lnX mo (rdAt bs at_) = if hdE mo (rdAt bs at_) = 0 then (rdAt bs at_).1 else 0) := rfl
  have HD : Hid (hdE mo (rdAt bs at_) = (if (rdAt bs at_).2.2 = 0 then (if mo < (rdAt bs at_).1 then 3 else 0) else (rdAt bs at_).2.2)) := rfl
  generalize lnX mo (rdAt bs at_) = X at *
  generalize hdE mo (rdAt bs at_) = E at *
  generalize rdAt bs at_ = R at *
  obtain ⟨x, n, z⟩ := R
  by_cases hz : z = 0
  · have hz2 : ((z : Int) != 0) = false := by simp [hz]
    by_cases hx : mo < x
    · have hE : E = 3 := by rw [HD.out]; simp [hx, hz]
      have hX : X = 0 := by rw [HX.out, hE]; simp
      subst hE hX
      have h2 : decide (mo < x) = true := by simp [hx]
      clear hx hz
      go_enter Try.func70, Try.ntmps70
      go_wp2_with (first
        | (go_at_call 61; (with_reducible refine HN.out.mono ?_); rintro e w1 ⟨rfl, h1, h2⟩; have H1 := Lib.hid h1; have H2 := Lib.hid h2; clear h1 h2))
      go_ret2
      exact ⟨rfl, H1.out, H2.out⟩
    · have hE : E = 0 := by rw [HD.out]; simp [hx, hz]
      have hX : X = x := by rw [HX.out, hE]; simp
      subst hE hX
      have h2 : decide (mo < X) = false := by simp; omega
      clear hx hz
      go_enter Try.func70, Try.ntmps70
      go_wp2_with (first
        | (go_at_call 61; (with_reducible refine HN.out.mono ?_); rintro e w1 ⟨rfl, h1, h2⟩; have H1 := Lib.hid h1; have H2 := Lib.hid h2; clear h1 h2))
      go_ret2
      exact ⟨rfl, H1.out, H2.out⟩
  · have hE : E = z := by rw [HD.out]; simp [hz]
    have hX : X = 0 := by rw [HX.out, hE]; simp [hz]
    subst hE hX
    have h3 : ((E : Int) == 0) = false := by simp; omega
    have h4 : ((E : Int) != 0) = true := by simp; omega
    clear hz
    go_enter Try.func70, Try.ntmps70
    go_wp2_with (first
      | (go_at_call 61; (with_reducible refine HN.out.mono ?_); rintro e w1 ⟨rfl, h1, h2⟩; have H1 := Lib.hid h1; have H2 := Lib.hid h2; clear h1 h2))
    go_ret2
    exact ⟨rfl, H1.out, H2.out⟩
set_option maxRecDepth 100000 in
theorem dByte_end (h : Df W0 w d A m cap bs at_) (he : m ≤ at_) : Calls Try.prog 60 #[.pointer (some ⟨d, 0, none⟩)] w fun e w' => e = .returned (.tuple #[.int .u8 0, .int .i64 110]) ∧ Below w.heap.size w w' := by
  have HL := Lib.hid (dLeft_any h)
  rw [show m - at_ = 0 by omega] at HL
  clear h he
  go_enter Try.func60, Try.ntmps60
  go_wp2_with (first
    | (go_at_call 31; (with_reducible refine HL.out.mono ?_); rintro e w1 ⟨rfl, hb⟩; have HB := Lib.hid hb; clear hb))
  go_ret2
  exact ⟨rfl, HB.out⟩
set_option maxRecDepth 100000 in
theorem dByte_ok (b : UInt8) (h : Df W0 w d A m cap bs at_) (hb : bs[at_]? = some b) : Calls Try.prog 60 #[.pointer (some ⟨d, 0, none⟩)] w fun e w' => e = .returned (.tuple #[.int .u8 (b.toNat : Int), .int .i64 0]) ∧ Df W0 w' d A m cap bs (at_ + 1) ∧ w.grownBy w' (some d) := by
  have hlt : at_ < m := by rw [← h.len]; exact (List.getElem?_eq_some_iff.1 hb).1
  have HL := Lib.hid (dLeft_any h)
  have hk0 : (((m - at_ : Nat) : Int) == 0) = false := by simp; omega
  obtain ⟨hm1, hm2⟩ := h.caps
  unfold maxLen at hm2
  have HH := Lib.hid h
  have HBB := Lib.hid hb
  have hab : (at_ : Int) + 1 ≤ 9223372036854775807 := by omega
  have hnn : (0 : Int) ≤ (at_ : Int) := by omega
  have hlti : (at_ : Int) < (m : Int) := by omega
  have hsub : IntKind.i64.wrap ((at_ : Int) + 1 - 1) = (at_ : Int) := by rw [Int.add_sub_cancel]; exact IntWalk.i64_in _ (by omega)
  have hwr2 : IntKind.i64.wrap (at_ : Int) = (at_ : Int) := IntWalk.i64_in _ (by omega)
  clear h hb
  generalize m - at_ = k at *
  go_enter Try.func60, Try.ntmps60
  go_wp2_with (first
    | (go_at_call 31; (with_reducible refine HL.out.mono ?_); rintro e w1 ⟨rfl, hb⟩
       have hh1 := HH.out.below hb
       have x1 : w1.cell? ⟨d, 1, none⟩ = some (.int .i64 (at_ : Int)) := hh1.blk.cell 1
       have f1 := hh1.blk.frozen 1
       obtain ⟨hh2, hg2⟩ := hh1.stepTo (at_ + 1) hlt
       have HH2 := Lib.hid hh2
       have HG2 := Lib.hid (only_step (only_of_below hb (some d)) hg2 (fun b e => .inl e))
       clear hb hh1 hh2 hg2))
  have hh2 := HH2.out
  have hg2 := HG2.out
  rw [show ((at_ + 1 : Nat) : Int) = (at_ : Int) + 1 by omega] at hh2 hg2
  clear x1 f1 HH2 HG2
  generalize w1.setCell ⟨d, 1, none⟩ (.int .i64 ((at_ : Int) + 1)) = W2 at *
  have x0 : W2.cell? ⟨d, 0, none⟩ = some (.slice A m cap) := hh2.blk.cell 0
  have x1 : W2.cell? ⟨d, 1, none⟩ = some (.int .i64 ((at_ + 1 : Nat) : Int)) := hh2.blk.cell 1
  rw [show ((at_ + 1 : Nat) : Int) = (at_ : Int) + 1 by omega] at x1
  obtain ⟨_, _, hv, -, -, hx⟩ := hh2.now
  cases hv
  obtain ⟨q, off, rfl, -, hx⟩ := hx (by omega)
  have z0 : W2.cell? ⟨q, off + at_, none⟩ = some (.int .u8 (b.toNat : Int)) := hx at_ _ (bc_at HBB.out)
  have HH2 := Lib.hid (hh2.below (below_drew W2))
  have HG2 := Lib.hid (only_step hg2 (below_grown (below_drew W2) none) (fun b e => by cases e))
  clear hh2 hg2 hx
  go_region_held3 (fun W1 => W1.cell? ⟨d, 0, none⟩ = some (.slice (some ⟨q, off, none⟩) m cap) ∧ W1.cell? ⟨d, 1, none⟩ = some (.int .i64 ((at_ : Int) + 1)) ∧ W1.cell? ⟨q, off + at_, none⟩ = some (.int .u8 (b.toNat : Int)))
    (first | exact ⟨x0, x1, z0⟩) (fail)
  go_wp2
  go_ret2
  exact ⟨rfl, HH2.out, HG2.out⟩
set_option maxRecDepth 100000 in
theorem dRaw_neg (o : Addr) (n : Int) (hn : n < 0) (w : World) : Calls Try.prog 66 #[.pointer (some o), .int .i64 n] w fun e w' => e = .returned (.tuple #[.slice none 0 0, .int .i64 2]) ∧ w = w' := by
  have h1 : decide (n < 0) = true := by simp; omega
  go_enter Try.func66, Try.ntmps66
  go_wp2
  go_ret2
  exact ⟨rfl, rfl⟩
set_option maxRecDepth 100000 in
theorem dRaw_more (n : Int) (h : Df W0 w d A m cap bs at_) (hn : ((m - at_ : Nat) : Int) < n) : Calls Try.prog 66 #[.pointer (some ⟨d, 0, none⟩), .int .i64 n] w fun e w' => e = .returned (.tuple #[.slice none 0 0, .int .i64 110]) ∧ Below w.heap.size w w' := by
  have HL := Lib.hid (dLeft_any h)
  have h1 : decide (n < 0) = false := by simp; omega
  have h2 : decide (((m - at_ : Nat) : Int) < n) = true := by simp; omega
  clear h hn
  generalize m - at_ = k at *
  go_enter Try.func66, Try.ntmps66
  go_wp2_with (first
    | (go_at_call 31; (with_reducible refine HL.out.mono ?_); rintro e w1 ⟨rfl, hb⟩; have HB := Lib.hid hb; clear hb))
  go_ret2
  exact ⟨rfl, HB.out⟩
set_option maxRecDepth 100000 in
theorem dRaw_ok (n : Nat) (h : Df W0 w d A m cap bs at_) (hn : at_ + n ≤ m) : Calls Try.prog 66 #[.pointer (some ⟨d, 0, none⟩), .int .i64 (n : Int)] w fun e w' => ∃ A' c', e = .returned (.tuple #[.slice A' n c', .int .i64 0]) ∧ Df W0 w' d A m cap bs (at_ + n) ∧ w.grownBy w' (some d) ∧ Rd W0 (.slice A' n c') n (bc (cut bs at_ n)) := by
  have HL := Lib.hid (dLeft_any h)
  have HH := Lib.hid h
  have h1 : decide ((n : Int) < 0) = false := by simp
  have h2 : decide (m - at_ < n) = false := by simp; omega
  have HN := Lib.hid hn
  obtain ⟨hm1, hm2⟩ := h.caps
  unfold maxLen at hm2
  have hrd := h.rd
  obtain ⟨A', c', hsl, hrd2⟩ := run_rd_part hrd at_ (at_ + n) (Nat.le_add_right _ _) hn
  rw [show ((at_ + n : Nat) : Int) = (at_ : Int) + (n : Int) by omega, show at_ + n - at_ = n by omega] at hsl
  rw [show at_ + n - at_ = n by omega] at hrd2
  have HRD := Lib.hid hrd2
  have hwr : IntKind.i64.wrap ((at_ : Int) + (n : Int) - (n : Int)) = (at_ : Int) := by rw [Int.add_sub_cancel]; exact IntWalk.i64_in _ (by omega)
  have hnat : at_ + n ≤ 9223372036854775807 := by omega
  have hwr2 : IntKind.i64.wrap (at_ : Int) = (at_ : Int) := IntWalk.i64_in _ (by omega)
  clear h hn hrd hrd2
  generalize m - at_ = k at *
  go_enter Try.func66, Try.ntmps66
  go_wp2_with (first
    | (go_at_call 31; (with_reducible refine HL.out.mono ?_); rintro e w1 ⟨rfl, hb⟩
       have hh1 := HH.out.below hb
       have x1 : w1.cell? ⟨d, 1, none⟩ = some (.int .i64 (at_ : Int)) := hh1.blk.cell 1
       have f1 := hh1.blk.frozen 1
       obtain ⟨hh2, hg2⟩ := hh1.stepTo (at_ + n) HN.out
       have HH2 := Lib.hid hh2
       have HG2 := Lib.hid (only_step (only_of_below hb (some d)) hg2 (fun b e => .inl e))
       clear hb hh1 hh2 hg2))
  have hh2 := HH2.out
  have hg2 := HG2.out
  rw [show ((at_ + n : Nat) : Int) = (at_ : Int) + (n : Int) by omega] at hh2 hg2
  clear x1 f1 HH2 HG2
  generalize w1.setCell ⟨d, 1, none⟩ (.int .i64 ((at_ : Int) + (n : Int))) = W2 at *
  have x0 : W2.cell? ⟨d, 0, none⟩ = some (.slice A m cap) := hh2.blk.cell 0
  have x1 : W2.cell? ⟨d, 1, none⟩ = some (.int .i64 ((at_ + n : Nat) : Int)) := hh2.blk.cell 1
  rw [show ((at_ + n : Nat) : Int) = (at_ : Int) + (n : Int) by omega] at x1
  have HH2 := Lib.hid (hh2.below (below_drew W2))
  have HG2 := Lib.hid (only_step hg2 (below_grown (below_drew W2) none) (fun b e => by cases e))
  clear hh2 hg2
  go_region_held3 (fun W1 => W1.cell? ⟨d, 0, none⟩ = some (.slice A m cap) ∧ W1.cell? ⟨d, 1, none⟩ = some (.int .i64 ((at_ : Int) + (n : Int))))
    (first | exact ⟨x0, x1⟩) (fail)
  go_wp2
  go_ret2
  exact ⟨_, _, rfl, HH2.out, HG2.out, HRD.out⟩
end
end Go.Proofs.Ytmcgagjjgomkeaa
