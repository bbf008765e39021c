/- The walk of puts: bytes, and what is no kind. -/
import Derived.Test.YtmcgagjjgomkeaaPut1
namespace Go.Proofs.Ytmcgagjjgomkeaa
open Go.RowKit Go.Lib

theorem Wch.spoil {W w w' : World} {g q : Nat} {v v' : Value} (h : Wch W w g v v') (hg : w.grownBy w' (some q)) (hq : W.heap.size ≤ q) : Wch W w' g v v' :=
  ⟨hg.os.trans h.os, hg.tape.trans h.tape, hg.output.trans h.output, Nat.le_trans h.size hg.size, fun k hk h1 h2 => (hg.block k (Nat.lt_of_lt_of_le hk h.size) (fun e => by cases e; omega)).trans (h.block k hk h1 h2), h.at_⟩
theorem Wr.spoil {w w' : World} {B g q : Nat} {v : Value} {bs : List UInt8} (h : Wr w B g v bs) (hg : w.grownBy w' (some q)) (h1 : q ≠ g) (h2 : v.ownBlock ≠ some q) : Wr w' B g v bs :=
  ⟨h.blk.grown hg (fun e => by cases e; exact h1 rfl), h.own.kept hg (.inr h2)⟩
set_option maxRecDepth 100000 in
theorem puts_no (B g x : Nat) (kind : Int) (v : Value) (bs : List UInt8) (text : ByteArray) (A : Option Addr) (m c : Nat) (A2 : Option Addr) (m2 c2 : Nat) (W : World) (hw : Wr W B g v bs) (h1 : kind ≠ 1) (h2 : kind ≠ 2) (h3 : kind ≠ 3) (h4 : kind ≠ 4) (h5 : kind ≠ 5) (h6 : kind ≠ 6) :
    Calls Try.prog 13 #[.pointer (some ⟨g, 0, none⟩), .agg (ptv kind x text A m c A2 m2 c2)] W fun e w' => e = .returned (.tuple #[.slice none 0 0, .bool true]) ∧ Wr w' B g v bs ∧ Wch W w' g v v := by
  have HAL := Lib.hid (below_alloc W (.cells (ptv kind x text A m c A2 m2 c2) 39))
  have HW := Lib.hid hw
  have k1 : (kind == 1) = false := by simpa using h1
  have k2 : (kind == 2) = false := by simpa using h2
  have k3 : (kind == 3) = false := by simpa using h3
  have k4 : (kind == 4) = false := by simpa using h4
  have k5 : (kind == 5) = false := by simpa using h5
  have k6 : (kind == 6) = false := by simpa using h6
  clear hw h1 h2 h3 h4 h5 h6
  unfold ptv at *
  go_enter Try.func13, Try.ntmps13
  go_wp2
  go_ret2
  exact ⟨rfl, HW.out.below HAL.out, Wch.of_below HAL.out g v⟩
set_option maxRecDepth 100000 in
set_option maxHeartbeats 1000000 in
theorem puts_1 (W0 : World) (B g x : Nat) (v : Value) (bs b : List UInt8) (text : ByteArray) (A : Option Addr) (m c : Nat) (A2 : Option Addr) (m2 c2 : Nat) (W : World) (hw : Wr W B g v bs) (hB : B ≤ W.heap.size) (hn : bs.length + m + 20 ≤ 140737488355328)
    (h0 : Below W0.heap.size W0 W) (hg0 : W0.heap.size ≤ g) (hB0 : W0.heap.size ≤ B) (hrb : Rd W0 (.slice A m c) m (bc b)) (hbm : b.length = m) :
    Calls Try.prog 13 #[.pointer (some ⟨g, 0, none⟩), .agg (ptv 1 x text A m c A2 m2 c2)] W fun e w' => ∃ v', e = .returned (.tuple #[.slice A m c, .bool true]) ∧ Wr w' B g v' (bs ++ b) ∧ Wch W w' g v v' := by
  obtain ⟨W1, hW1⟩ : ∃ W1, W1 = W.alloc (.cells (ptv 1 x text A m c A2 m2 c2) 39) := ⟨_, rfl⟩
  have hal : Below W.heap.size W W1 := by rw [hW1]; exact below_alloc _ _
  have hbx : Bk W1 W.heap.size 39 (ptv 1 x text A m c A2 m2 c2) := by rw [hW1]; exact Bk.new _ _ _
  have HP0 : Hid (Pp W1 W1 B g W.heap.size v v bs (ptv 1 x text A m c A2 m2 c2)) := ⟨hw.below hal, Wch.refl _ _ _, hbx⟩
  have HG : Hid (g < W1.heap.size) := Nat.lt_of_lt_of_le hw.blk.lt hal.size
  have HV : Hid (∀ r, v.ownBlock = some r → r < W1.heap.size) := fun r e => Nat.lt_of_lt_of_le (own_lt hw.own e).2 hal.size
  have HV0 : Hid (∀ r, v.ownBlock = some r → W0.heap.size ≤ r) := fun r e => Nat.le_trans hB0 (own_lt hw.own e).1
  have h01 : Below W0.heap.size W0 W1 := h0.trans (hal.mono (by have := h0.size; omega))
  have HL := Lib.hid (lent_any A m c b W1 (hrb.below h01) hbm (by omega))
  have HBY := Lib.hid (fun w q cc (h : Wr w B g v bs) (hBw : B ≤ w.heap.size) (hr : Rd w (.slice (some ⟨q, 0, none⟩) m cc) m (bc b)) => Byte_any B g m cc (some ⟨q, 0, none⟩) v bs b w h hBw hbm hr (by omega))
  have HB1 : Hid (B ≤ W1.heap.size) := Nat.le_trans hB hal.size
  have HAL := Lib.hid hal
  have H01 := Lib.hid h01
  have HRB := Lib.hid hrb
  have HBM := Lib.hid hbm
  have HG0 := Lib.hid hg0
  have HN : Hid (m + 2 ≤ 140737488355328) := by show _ ≤ _; omega
  have y0 : W1.cell? ⟨W.heap.size, 0, none⟩ = some (.int .i64 1) := hbx.cell 0
  have y3 : W1.cell? ⟨W.heap.size, 3, none⟩ = some (.slice A m c) := hbx.cell 3
  have hcm : m ≤ c ∧ c ≤ maxLen := by obtain ⟨_, _, hv, h1, h2, _⟩ := hrb; cases hv; exact ⟨h1, h2⟩
  obtain ⟨hcm1, hcm2⟩ := hcm
  have hmb : m ≤ 140737488355328 := by omega
  clear hw hal hbx h0 hg0 hB0 hrb hbm h01 hn hB
  unfold ptv at *
  have HW1 : Hid (_ = W1) := hW1.symm
  clear hW1
  go_enter Try.func13, Try.ntmps13
  go_wp2_with (first
    | (go_at_call 18; rw [HW1.out]; (with_reducible refine HL.out.mono ?_); rintro e w2 ⟨q, qc, rfl, hqc, hb2, ho2⟩
       have HP2 := Lib.hid (HP0.out.below hb2)
       have HO2 := Lib.hid ho2
       have HQC := Lib.hid hqc
       have HRD := Lib.hid (lent_rd HBM.out hqc ho2)
       have HZ2 : Hid (B ≤ w2.heap.size) := Nat.le_trans HB1.out hb2.size
       clear hb2 ho2)
    | (go_at_call 32; (with_reducible refine (HBY.out _ q qc HP2.out.wr HZ2.out HRD.out).mono ?_); rintro e w3 ⟨rfl, v3, hw3, hc3⟩
       have hp3 := HP2.out.write hw3 hc3
       have ho3 := own_write HO2.out hc3 HG.out HV.out
       have hb3 : Below W0.heap.size W0 w3 := H01.out.trans (hp3.ch.below H01.out.size HG0.out HV0.out)
       have hq1 := (own_lt HO2.out (g := q) rfl)
       have HNE : Hid (v3.ownBlock ≠ some q) := fun e => by
         rcases hc3.at_ q e with h | h
         · have := HV.out q h; omega
         · omega
       have HQ : Hid (W1.heap.size ≤ q) := hq1.1
       have HLF := Lib.hid (left_any A m c q qc W1.heap.size b w3 (HRB.out.below hb3) HBM.out HQC.out ho3 HN.out)
       have z3 : w3.cell? ⟨W.heap.size, 3, none⟩ = some (.slice A m c) := hp3.bx.cell 3
       have HP3 := Lib.hid hp3
       have HO3 := Lib.hid ho3
       clear hp3 ho3 hw3 hc3 hb3 hq1)
    | (go_at_call 20; (with_reducible refine (num_any _ _).mono ?_); rintro e wn ⟨rfl, rfl⟩)
    | (go_at_call 29; (with_reducible refine HLF.out.mono ?_); rintro e wn ⟨rfl, rfl⟩))
  go_loopw [8] (fun p wr => ∃ (k : Nat) (xs : List Value), p = .int .i64 k ∧ k ≤ m ∧ w3.grownBy wr (some q) ∧ wr.ownsRow W1.heap.size 5 1 (.slice (some ⟨q, 0, none⟩) (m + 2) qc) (m + 2) xs) (fun p _ => m - (intOf p).toNat)
  case atStart => exact ⟨0, _, rfl, Nat.zero_le _, only_refl _ _, HO3.out⟩
  case round =>
    obtain ⟨k, xs, rfl, hk, hg, ho⟩ := hrel
    have HGR := Lib.hid hg
    have HOW := Lib.hid ho
    by_cases hkm : k < m
    · obtain ⟨g0, hg0, _, _, _, _, hcells, hfr⟩ := ownsRow_at ho (by omega)
      cases hg0
      obtain ⟨u, hu⟩ := ownsRow_cell ho (j := k) (by omega)
      have zk : wr.cell? ⟨q, k, none⟩ = some u := hcells k u hu
      have fk := hfr k
      clear hg ho hcells hfr hu
      go_wp2
      go_roundw
      case rel => exact ⟨k + 1, _, by go_num, by omega, only_set HGR.out ⟨q, k, none⟩ _ (.inl rfl), ownsRow_set HOW.out _⟩
      case measure => simp [intOf]; omega
    · obtain rfl : k = m := by omega
      have zz : wr.cell? ⟨W.heap.size, 3, none⟩ = some (.slice A k c) := (HP3.out.bx.grown hg (fun e => by cases e; exact (own_bk_ne HO3.out HP3.out.bx (by decide)) rfl)).cell 3
      clear hg ho
      go_wp2
      go_ret2
      exact ⟨v3, rfl, HP3.out.wr.spoil HGR.out (fun e => by have := HG.out; have := HQ.out; omega) HNE.out, ((Wch.of_below HAL.out g v).trans HP3.out.ch).spoil HGR.out (Nat.le_trans HAL.out.size HQ.out)⟩
end Go.Proofs.Ytmcgagjjgomkeaa
