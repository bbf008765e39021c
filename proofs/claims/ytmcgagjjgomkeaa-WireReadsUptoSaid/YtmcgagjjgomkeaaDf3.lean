/- The document's reader: Fixed, Text. -/
import Derived.Test.YtmcgagjjgomkeaaDf2
import Derived.Test.YtmcgagjjgomkeaaPlain
namespace Go.Proofs.Ytmcgagjjgomkeaa
open Go.RowKit Go.Lib

section
variable {W0 w w' : World} {d : Nat} {A : Option Addr} {m cap : Nat} {bs : List UInt8} {at_ : Nat}
theorem Df.grown {row : Option Nat} (h : Df W0 w d A m cap bs at_) (hg : w.grownBy w' row) (hr : ∀ b, row = some b → W0.heap.size ≤ b ∧ b ≠ d) : Df W0 w' d A m cap bs at_ :=
  ⟨h.blk.grown hg (fun e => (hr d e).2 rfl), h.rd, h.len, h.le, h.bel.grown hg h.bel.size (fun r e => (hr r e).1), h.hd⟩
theorem dRaw_okz (n : Nat) (h : Df W0 w d A m cap bs at_) (z : Int) (hz : z = (n : Int)) (hn : at_ + n ≤ m) : Calls Try.prog 66 #[.pointer (some ⟨d, 0, none⟩), .int .i64 z] w fun e w' => ∃ A' c', e = .returned (.tuple #[.slice A' n c', .int .i64 0]) ∧ Df W0 w' d A m cap bs (at_ + n) ∧ w.grownBy w' (some d) ∧ Rd W0 (.slice A' n c') n (bc (cut bs at_ n)) := by
  subst hz
  exact dRaw_ok n h hn
theorem u32_sum (a b c e : UInt8) : IntKind.u32.wrap (IntKind.u32.wrap (IntKind.u32.wrap (IntKind.u32.wrap (a.toNat : Int) + IntKind.u32.wrap (IntKind.u32.wrap (b.toNat : Int) * 256)) + IntKind.u32.wrap (IntKind.u32.wrap (c.toNat : Int) * 65536)) + IntKind.u32.wrap (IntKind.u32.wrap (e.toNat : Int) * 16777216)) = (fx4 a b c e : Int) := by
  have ha := a.toNat_lt
  have hb := b.toNat_lt
  have hc := c.toNat_lt
  have hd := e.toNat_lt
  unfold fx4
  simp only [IntKind.wrap_u32]
  omega
set_option maxRecDepth 100000 in
theorem dFixed_end (h : Df W0 w d A m cap bs at_) (hb : m - at_ < 4) : Calls Try.prog 64 #[.pointer (some ⟨d, 0, none⟩)] w fun e w' => e = .returned (.tuple #[.int .u32 0, .int .i64 110]) ∧ Below w.heap.size w w' := by
  have HR := Lib.hid (dRaw_more 4 h (by omega))
  clear h
  go_enter Try.func64, Try.ntmps64
  go_wp2_with (first
    | (go_at_call 66; (with_reducible refine HR.out.mono ?_); rintro e w1 ⟨rfl, hb1⟩; have HB1 := Lib.hid hb1; clear hb1))
  go_ret2
  exact ⟨rfl, HB1.out⟩
set_option maxRecDepth 100000 in
theorem dFixed_ok (a b c0 c1 : UInt8) (h : Df W0 w d A m cap bs at_) (hb : (bs.take (at_ + 4)).drop at_ = [a, b, c0, c1]) (hn : at_ + 4 ≤ m) : Calls Try.prog 64 #[.pointer (some ⟨d, 0, none⟩)] w fun e w' => e = .returned (.tuple #[.int .u32 (fx4 a b c0 c1 : Int), .int .i64 0]) ∧ Df W0 w' d A m cap bs (at_ + 4) ∧ w.grownBy w' (some d) := by
  have HR := Lib.hid (dRaw_okz 4 h 4 rfl hn)
  rw [show cut bs at_ 4 = [a, b, c0, c1] from hb] at HR
  have HZ := Lib.hid (u32_sum a b c0 c1)
  have ha8 := a.toNat_lt
  have hb8 := b.toNat_lt
  have hc8 := c0.toNat_lt
  have hd8 := c1.toNat_lt
  clear h hb
  go_enter Try.func64, Try.ntmps64
  go_wp2_with (first
    | (go_at_call 66; (with_reducible refine HR.out.mono ?_); rintro e w1 ⟨A', c', rfl, hr1, hg1, hrd⟩
       obtain ⟨_, _, hv, hc1, hc2, hx⟩ := hrd.below hr1.bel
       cases hv
       obtain ⟨q, off, rfl, -, hx⟩ := hx (by decide)
       unfold maxLen at hc2
       have z0 : w1.cell? ⟨q, off, none⟩ = some (.int .u8 (a.toNat : Int)) := hx 0 _ rfl
       have z1 : w1.cell? ⟨q, off + 1, none⟩ = some (.int .u8 (b.toNat : Int)) := hx 1 _ rfl
       have z2 : w1.cell? ⟨q, off + 2, none⟩ = some (.int .u8 (c0.toNat : Int)) := hx 2 _ rfl
       have z3 : w1.cell? ⟨q, off + 3, none⟩ = some (.int .u8 (c1.toNat : Int)) := hx 3 _ rfl
       have HR1 := Lib.hid (hr1.below (below_drew _))
       have HG1 := Lib.hid (only_step hg1 (below_grown (below_drew w1) none) (fun b e => by cases e))
       clear hr1 hg1 hrd hx))
  go_region_held3 (fun W1 => W1.cell? ⟨q, off, none⟩ = some (.int .u8 (a.toNat : Int)) ∧ W1.cell? ⟨q, off + 1, none⟩ = some (.int .u8 (b.toNat : Int)) ∧ W1.cell? ⟨q, off + 2, none⟩ = some (.int .u8 (c0.toNat : Int)) ∧ W1.cell? ⟨q, off + 3, none⟩ = some (.int .u8 (c1.toNat : Int)))
    (first | exact ⟨z0, z1, z2, z3⟩) (fail)
  go_wp2
  go_ret2
  exact ⟨ret_u32_ok HZ.out, HR1.out, HG1.out⟩
set_option maxRecDepth 100000 in
theorem dText_neg (n : Int) (hn : n < 0) (h : Df W0 w d A m cap bs at_) : Calls Try.prog 63 #[.pointer (some ⟨d, 0, none⟩), .int .i64 n] w fun e w' => e = .returned (.tuple #[.string ⟨#[]⟩, .int .i64 2]) ∧ Df W0 w' d A m cap bs at_ ∧ w.grownBy w' (some d) := by
  have x1 : w.cell? ⟨d, 1, none⟩ = some (.int .i64 (at_ : Int)) := h.blk.cell 1
  have f1 := h.blk.frozen 1
  have HS := Lib.hid (h.stepTo at_ h.le)
  have HL := Lib.hid (dlength_neg n hn ⟨d, 0, none⟩ w)
  clear h hn
  go_enter Try.func63, Try.ntmps63
  go_wp2_with (first
    | (go_at_call 70; (with_reducible refine HL.out.mono ?_); rintro e w1 ⟨rfl, rfl⟩))
  go_ret2
  exact ⟨rfl, HS.out.1, HS.out.2⟩
set_option maxRecDepth 100000 in
theorem dText_bad (mo : Nat) (hmo : mo ≤ 9223372036854775807) (h : Df W0 w d A m cap bs at_) (he : txE mo bs at_ ≠ 0) :
    Calls Try.prog 63 #[.pointer (some ⟨d, 0, none⟩), .int .i64 (mo : Int)] w fun e w' => e = .returned (.tuple #[.string ⟨#[]⟩, .int .i64 (txE mo bs at_ : Int)]) ∧ Df W0 w' d A m cap bs at_ ∧ w.grownBy w' (some d) := by
  have x1 : w.cell? ⟨d, 1, none⟩ = some (.int .i64 (at_ : Int)) := h.blk.cell 1
  have HLN := Lib.hid (dlength_g mo hmo h)
  have HLE : Hid (at_ ≤ m) := h.le
  have hmm := h.caps.2
  have hcm := h.caps.1
  unfold maxLen at hmm
  have hX : Hid (lnX mo (rdAt bs at_) = if hdE mo (rdAt bs at_) = 0 then (rdAt bs at_).1 else 0) := rfl
  have hT : Hid (txE mo bs at_ = if hdE mo (rdAt bs at_) = 0 then (if m - (at_ + (rdAt bs at_).2.1) < (rdAt bs at_).1 then 110 else 0) else hdE mo (rdAt bs at_)) := by show _ = _; unfold txE; rw [h.len]
  clear h
  generalize txE mo bs at_ = T at *
  generalize lnX mo (rdAt bs at_) = X at *
  generalize hdE mo (rdAt bs at_) = E at *
  generalize rdAt bs at_ = R at *
  obtain ⟨x, n, z⟩ := R
  by_cases h0 : E = 0
  · subst h0
    have hXx : X = x := by rw [hX.out, if_pos rfl]
    subst hXx
    have hlt : m - (at_ + n) < X := by
      have := hT.out
      rw [if_pos rfl] at this
      change T = (if m - (at_ + n) < X then 110 else 0) at this
      rcases Nat.lt_or_ge (m - (at_ + n)) X with h | h
      · exact h
      · rw [if_neg (by omega)] at this; exact absurd this he
    have hTT : T = 110 := by have := hT.out; rw [if_pos rfl] at this; change T = (if m - (at_ + n) < X then 110 else 0) at this; rw [if_pos hlt] at this; exact this
    subst hTT
    have hd2 : decide (m - (at_ + n) < X) = true := by simpa using hlt
    have hwr : IntKind.u64.wrap ((m - (at_ + n) : Nat) : Int) = ((m - (at_ + n) : Nat) : Int) := IntWalk.u64_in _ (by omega)
    clear hlt he hX hT
    go_enter Try.func63, Try.ntmps63
    go_wp2_with (first
      | (go_at_call 70; (with_reducible refine HLN.out.mono ?_); rintro e w1 ⟨rfl, h1, h2⟩
         have HL1 := Lib.hid (dLeft_any h1); have H1 := Lib.hid h1; have H2 := Lib.hid h2; clear h1 h2
         generalize m - (at_ + n) = L at *)
      | (go_at_call 31; (with_reducible refine HL1.out.mono ?_); rintro e w2 ⟨rfl, hb⟩
         have hh := H1.out.below hb
         have f2 := hh.blk.frozen 1
         have y1 : w2.cell? ⟨d, 1, none⟩ = some (.int .i64 ((at_ + n : Nat) : Int)) := hh.blk.cell 1
         have HS := Lib.hid (hh.stepTo at_ HLE.out)
         have HG := Lib.hid (only_step H2.out (below_grown hb none) (fun b e => by cases e)); clear hh hb))
    go_ret2
    exact ⟨rfl, HS.out.1, only_step HG.out HS.out.2 (fun b e => .inl e)⟩
  · have hXx : X = 0 := by rw [hX.out, if_neg h0]
    have hTT : T = E := by have := hT.out; rw [if_neg h0] at this; exact this
    subst hXx hTT
    have h1 : ((T : Int) == 0) = false := by simp; omega
    have h2 : ((T : Int) != 0) = true := by simp; omega
    clear he hX hT h0
    go_enter Try.func63, Try.ntmps63
    go_wp2_with (first
      | (go_at_call 70; (with_reducible refine HLN.out.mono ?_); rintro e w1 ⟨rfl, h1, h2⟩
         have f2 := h1.blk.frozen 1
         have y1 : w1.cell? ⟨d, 1, none⟩ = some (.int .i64 ((at_ + n : Nat) : Int)) := h1.blk.cell 1
         have HS := Lib.hid (h1.stepTo at_ HLE.out); have H2 := Lib.hid h2; clear h1 h2))
    go_ret2
    exact ⟨rfl, HS.out.1, only_step H2.out HS.out.2 (fun b e => .inl e)⟩
set_option maxRecDepth 100000 in
theorem dText_ok (mo : Nat) (hmo : mo ≤ 9223372036854775807) (h : Df W0 w d A m cap bs at_) (he : txE mo bs at_ = 0) :
    Calls Try.prog 63 #[.pointer (some ⟨d, 0, none⟩), .int .i64 (mo : Int)] w fun e w' => e = .returned (.tuple #[.string ⟨(cut bs (at_ + (rdAt bs at_).2.1) (rdAt bs at_).1).toArray⟩, .int .i64 0]) ∧ Df W0 w' d A m cap bs (at_ + (rdAt bs at_).2.1 + (rdAt bs at_).1) ∧ w.grownBy w' (some d) := by
  have x1 : w.cell? ⟨d, 1, none⟩ = some (.int .i64 (at_ : Int)) := h.blk.cell 1
  have HLN := Lib.hid (dlength_g mo hmo h)
  have hmm := h.caps.2
  have hcm := h.caps.1
  unfold maxLen at hmm
  obtain ⟨hx, -, -⟩ := text_again bs mo at_ (by rw [h.len]; exact h.le) he
  rw [h.len] at hx
  have h0 : hdE mo (rdAt bs at_) = 0 := by
    unfold txE at he
    rcases Nat.decEq (hdE mo (rdAt bs at_)) 0 with h | h
    · rw [if_neg h] at he; exact absurd he h
    · exact h
  have hX : lnX mo (rdAt bs at_) = (rdAt bs at_).1 := by unfold lnX; rw [if_pos h0]
  have hrd := h.rd
  obtain ⟨A', c', hsl, hrd2⟩ := run_rd_part hrd (at_ + (rdAt bs at_).2.1) (at_ + (rdAt bs at_).2.1 + (rdAt bs at_).1) (Nat.le_add_right _ _) hx
  have HCL : Hid ((cut bs (at_ + (rdAt bs at_).2.1) (rdAt bs at_).1).length = (rdAt bs at_).1) := cut_length _ _ _ (by rw [h.len]; exact hx)
  rw [hX, h0] at HLN
  have hrd2 : Rd W0 (.slice A' (at_ + (rdAt bs at_).2.1 + (rdAt bs at_).1 - (at_ + (rdAt bs at_).2.1)) c') (at_ + (rdAt bs at_).2.1 + (rdAt bs at_).1 - (at_ + (rdAt bs at_).2.1)) (bc (cut bs (at_ + (rdAt bs at_).2.1) (rdAt bs at_).1)) := hrd2
  clear h h0 hX he hrd
  generalize cut bs (at_ + (rdAt bs at_).2.1) (rdAt bs at_).1 = C at *
  generalize rdAt bs at_ = R at *
  obtain ⟨x, n, z⟩ := R
  rw [show ((x, n, z) : Nat × Nat × Nat).1 = x from rfl, show ((x, n, z) : Nat × Nat × Nat).2.1 = n from rfl] at *
  rw [show ((at_ + n + x : Nat) : Int) = ((at_ + n : Nat) : Int) + (x : Int) by omega, show at_ + n + x - (at_ + n) = x by omega] at hsl
  rw [show at_ + n + x - (at_ + n) = x by omega] at hrd2
  have HRD := Lib.hid hrd2
  have hx' := hx
  obtain ⟨p, hp⟩ : ∃ p, at_ + n = p := ⟨_, rfl⟩
  rw [hp] at hsl hx HLN ⊢
  have hd2 : decide (m - p < x) = false := by simp; omega
  have hwr0 : IntKind.u64.wrap ((m - p : Nat) : Int) = ((m - p : Nat) : Int) := IntWalk.u64_in _ (by omega)
  have hwx : IntKind.i64.wrap (x : Int) = (x : Int) := IntWalk.i64_in _ (by omega)
  have hwr : IntKind.i64.wrap ((p : Int) + (x : Int) - (x : Int)) = (p : Int) := by rw [Int.add_sub_cancel]; exact IntWalk.i64_in _ (by omega)
  have hwr2 : IntKind.i64.wrap (p : Int) = (p : Int) := IntWalk.i64_in _ (by omega)
  have hHX := Lib.hid hx
  clear hp hrd2 hx'
  go_enter Try.func63, Try.ntmps63
  go_wp2_with (first
    | (go_at_call 70; (with_reducible refine HLN.out.mono ?_); rintro e w1 ⟨rfl, h1, h2⟩
       have HL1 := Lib.hid (dLeft_any h1); have H1 := Lib.hid h1; have H2 := Lib.hid h2; clear h1 h2
       generalize m - p = L at *)
    | (go_at_call 31; (with_reducible refine HL1.out.mono ?_); rintro e w2 ⟨rfl, hb⟩
       have hh1 := H1.out.below hb
       have x1 : w2.cell? ⟨d, 1, none⟩ = some (.int .i64 (p : Int)) := hh1.blk.cell 1
       have f1 := hh1.blk.frozen 1
       obtain ⟨hh2, hg2⟩ := hh1.stepTo (p + x) hHX.out
       have HH2 := Lib.hid hh2
       have HG2 := Lib.hid (only_step (only_step H2.out (below_grown hb none) (fun b e => by cases e)) hg2 (fun b e => .inl e))
       clear hb hh1 hh2 hg2))
  have hh2 := HH2.out
  have hg2 := HG2.out
  rw [show ((p + x : Nat) : Int) = (p : Int) + (x : Int) by omega] at hh2 hg2
  clear x1 f1 HH2 HG2
  generalize w2.setCell ⟨d, 1, none⟩ (.int .i64 ((p : Int) + (x : Int))) = W2 at *
  have x0 : W2.cell? ⟨d, 0, none⟩ = some (.slice A m cap) := hh2.blk.cell 0
  have x1 : W2.cell? ⟨d, 1, none⟩ = some (.int .i64 ((p + x : Nat) : Int)) := hh2.blk.cell 1
  rw [show ((p + x : Nat) : Int) = (p : Int) + (x : Int) by omega] at x1
  have hcv : ∀ k, (convert 29 9 (.slice A' x c')).run Try.prog (W2.drewN k) = .ok (.string ⟨C.toArray⟩) (W2.drewN k) := fun k => conv_rd _ A' x c' C (HRD.out.below (below_drewN hh2.bel k)) HCL.out
  have hcv0 := hcv 0
  have hcv1 := hcv 1
  have HH2 := Lib.hid (hh2.below (below_drew W2))
  have HG2 := Lib.hid (only_step hg2 (below_grown (below_drew W2) none) (fun b e => by cases e))
  clear hh2 hg2 hcv
  go_region_held3 (fun W1 => W1.cell? ⟨d, 0, none⟩ = some (.slice A m cap) ∧ W1.cell? ⟨d, 1, none⟩ = some (.int .i64 ((p : Int) + (x : Int))) ∧ (convert 29 9 (.slice A' x c')).run Try.prog W1 = .ok (.string ⟨C.toArray⟩) W1)
    (first | exact ⟨x0, x1, hcv1⟩ | exact ⟨x0, x1, hcv0⟩) (fail)
  go_wp2
  go_ret2
  exact ⟨rfl, HH2.out, HG2.out⟩
end
end Go.Proofs.Ytmcgagjjgomkeaa
