/- The walk of puts: lists. -/
import Derived.Test.YtmcgagjjgomkeaaPut3
namespace Go.Proofs.Ytmcgagjjgomkeaa
open Go.RowKit Go.Lib

set_option maxRecDepth 100000 in
set_option maxHeartbeats 2000000 in
theorem puts_6no (W0 : World) (B g x : Nat) (v : Value) (bs : List UInt8) (l : List Int) (text : ByteArray) (A : Option Addr) (m c : Nat) (A2 : Option Addr) (m2 c2 : Nat) (W : World) (hw : Wr W B g v bs) (hB : B ≤ W.heap.size) (hn : bs.length + 10 * m2 + 40 ≤ 140737488355328) (hm2 : m2 ≤ 1099511627776)
    (h0 : Below W0.heap.size W0 W) (hg0 : W0.heap.size ≤ g) (hB0 : W0.heap.size ≤ B) (hrl : Rd W0 (.slice A2 m2 c2) m2 (ic l)) (hlm : l.length = m2) (hI : ∀ a ∈ l, I64 a) (hR : ¬ Rises l) :
    Calls Try.prog 13 #[.pointer (some ⟨g, 0, none⟩), .agg (ptv 6 x text A m c A2 m2 c2)] W fun e w' => e = .returned (.tuple #[.slice none 0 0, .bool true]) ∧ ∃ v', Wr w' B g v' bs ∧ Wch W w' g v v' := by
  obtain ⟨W1, hW1⟩ : ∃ W1, W1 = W.alloc (.cells (ptv 6 x text A m c A2 m2 c2) 39) := ⟨_, rfl⟩
  have hal : Below W.heap.size W W1 := by rw [hW1]; exact below_alloc _ _
  have hbx : Bk W1 W.heap.size 39 (ptv 6 x text A m c A2 m2 c2) := by rw [hW1]; exact Bk.new _ _ _
  have HP0 : Hid (Pp W1 W1 B g W.heap.size v v bs (ptv 6 x text A m c A2 m2 c2)) := ⟨hw.below hal, Wch.refl _ _ _, hbx⟩
  have HG : Hid (g < W1.heap.size) := Nat.lt_of_lt_of_le hw.blk.lt hal.size
  have HV : Hid (∀ r, v.ownBlock = some r → r < W1.heap.size) := fun r e => Nat.lt_of_lt_of_le (own_lt hw.own e).2 hal.size
  have HV0 : Hid (∀ r, v.ownBlock = some r → W0.heap.size ≤ r) := fun r e => Nat.le_trans hB0 (own_lt hw.own e).1
  have h01 : Below W0.heap.size W0 W1 := h0.trans (hal.mono (by have := h0.size; omega))
  have HL := Lib.hid (lentList_any A2 m2 c2 l W1 (hrl.below h01) hlm hm2)
  have HRS := Lib.hid (fun w q cc (h : Wr w B g v bs) (hBw : B ≤ w.heap.size) (hr : Rd w (.slice (some ⟨q, 0, none⟩) m2 cc) m2 (ic l)) (hq : v.ownBlock ≠ some q) => Rising_any B g m2 cc (some ⟨q, 0, none⟩) v bs l w h hBw hr hlm (fun q' off e => by cases e; exact hq) hI hn)
  have HB1 : Hid (B ≤ W1.heap.size) := Nat.le_trans hB hal.size
  have HAL := Lib.hid hal
  have H01 := Lib.hid h01
  have HRL := Lib.hid hrl
  have HLM := Lib.hid hlm
  have HG0 := Lib.hid hg0
  have HRR := Lib.hid hR
  have HI := Lib.hid hI
  have HM2 := Lib.hid hm2
  have y0 : W1.cell? ⟨W.heap.size, 0, none⟩ = some (.int .i64 6) := hbx.cell 0
  have y4 : W1.cell? ⟨W.heap.size, 4, none⟩ = some (.slice A2 m2 c2) := hbx.cell 4
  have hcm : m2 ≤ c2 ∧ c2 ≤ maxLen := by obtain ⟨_, _, hv, h1, h2, _⟩ := hrl; cases hv; exact ⟨h1, h2⟩
  obtain ⟨hcm1, hcm2⟩ := hcm
  have hmb : m2 ≤ 140737488355328 := by omega
  clear hw hal hbx h0 hg0 hB0 hrl hlm h01 hn hB hR hI
  unfold ptv at *
  have HW1 : Hid (_ = W1) := hW1.symm
  clear hW1
  go_enter Try.func13, Try.ntmps13
  go_wp2_with (first
    | (go_at_call 41; rw [HW1.out]; (with_reducible refine HL.out.mono ?_); rintro e w2 ⟨q, qc, rfl, hqc, hb2, ho2⟩
       have HP2 := Lib.hid (HP0.out.below hb2)
       have HO2 := Lib.hid ho2
       have HQC := Lib.hid hqc
       have HRD := Lib.hid (lentList_rd HLM.out hqc ho2)
       have HZ2 : Hid (B ≤ w2.heap.size) := Nat.le_trans HB1.out hb2.size
       have hq1 := (own_lt ho2 (g := q) rfl)
       have HVQ : Hid (v.ownBlock ≠ some q) := fun e => by have := HV.out q e; omega
       have HQ : Hid (W1.heap.size ≤ q) := hq1.1
       clear hb2 ho2 hq1)
    | (go_at_call 25; (with_reducible refine (HRS.out _ q qc HP2.out.wr HZ2.out HRD.out HVQ.out).mono ?_); rintro e w3 ⟨_, hk⟩; obtain ⟨rfl, hw3, hc3⟩ := hk HRR.out; clear hk
       have hp3 := HP2.out.write hw3 hc3
       have ho3 := own_write HO2.out hc3 HG.out HV.out
       have hb3 : Below W0.heap.size W0 w3 := H01.out.trans (hp3.ch.below H01.out.size HG0.out HV0.out)
       have HB3 := Lib.hid hb3
       have z4 : w3.cell? ⟨W.heap.size, 4, none⟩ = some (.slice A2 m2 c2) := hp3.bx.cell 4
       have HRI := Lib.hid (refRises_any A2 m2 c2 l w3 (HRL.out.below hb3) HLM.out)
       have HP3 := Lib.hid hp3
       have HO3 := Lib.hid ho3
       clear hp3 ho3 hw3 hc3 hb3)
    | (go_at_call 42; (with_reducible refine HRI.out.mono ?_); rintro e w4 ⟨hb4, hyes, hno⟩; obtain rfl := hno HRR.out
       have hb4' : Below W0.heap.size W0 w4 := HB3.out.trans (hb4.mono HB3.out.size)
       have HLF := Lib.hid (leftList_any A2 m2 c2 q qc W1.heap.size l w4 (HRL.out.below hb4') HLM.out HQC.out (own_below HO3.out hb4) HM2.out)
       have HP4 := Lib.hid (HP3.out.below hb4)
       have HO4 := Lib.hid (own_below HO3.out hb4)
       have HB4 := Lib.hid hb4'
       have x4 : w4.cell? ⟨W.heap.size, 4, none⟩ = some (.slice A2 m2 c2) := (HP3.out.below hb4).bx.cell 4
       clear hb4 hb4' hyes hno)
    | (go_at_call 20; (with_reducible refine (num_any _ _).mono ?_); rintro e wn ⟨rfl, rfl⟩)
    | (go_at_call 43; (with_reducible refine HLF.out.mono ?_); rintro e w5 ⟨rfl, hb5⟩
       have HP5 := Lib.hid (HP4.out.below hb5)
       have HO5 := Lib.hid (own_below HO4.out hb5)
       have HB5 := Lib.hid (HB4.out.trans (hb5.mono HB4.out.size))
       clear hb5))
  go_ret2
  exact ⟨rfl, v, HP5.out.wr, (Wch.of_below HAL.out g v).trans HP5.out.ch⟩
set_option maxRecDepth 100000 in
set_option maxHeartbeats 2000000 in
theorem puts_6yes (W0 : World) (B g x : Nat) (v : Value) (bs : List UInt8) (l : List Int) (text : ByteArray) (A : Option Addr) (m c : Nat) (A2 : Option Addr) (m2 c2 : Nat) (W : World) (hw : Wr W B g v bs) (hB : B ≤ W.heap.size) (hn : bs.length + 10 * m2 + 40 ≤ 140737488355328) (hm2 : m2 ≤ 1099511627776)
    (h0 : Below W0.heap.size W0 W) (hg0 : W0.heap.size ≤ g) (hB0 : W0.heap.size ≤ B) (hrl : Rd W0 (.slice A2 m2 c2) m2 (ic l)) (hlm : l.length = m2) (hI : ∀ a ∈ l, I64 a) (hR : Rises l) :
    Calls Try.prog 13 #[.pointer (some ⟨g, 0, none⟩), .agg (ptv 6 x text A m c A2 m2 c2)] W fun e w' => ∃ rv v', e = .returned (.tuple #[rv, .bool true]) ∧ Wr w' B g v' (bs ++ ris l) ∧ Wch W w' g v v' ∧ w'.ownsRow W.heap.size 5 1 rv (ris l).length (bc (ris l)) := by
  obtain ⟨W1, hW1⟩ : ∃ W1, W1 = W.alloc (.cells (ptv 6 x text A m c A2 m2 c2) 39) := ⟨_, rfl⟩
  have hal : Below W.heap.size W W1 := by rw [hW1]; exact below_alloc _ _
  have hbx : Bk W1 W.heap.size 39 (ptv 6 x text A m c A2 m2 c2) := by rw [hW1]; exact Bk.new _ _ _
  have HP0 : Hid (Pp W1 W1 B g W.heap.size v v bs (ptv 6 x text A m c A2 m2 c2)) := ⟨hw.below hal, Wch.refl _ _ _, hbx⟩
  have HG : Hid (g < W1.heap.size) := Nat.lt_of_lt_of_le hw.blk.lt hal.size
  have HV : Hid (∀ r, v.ownBlock = some r → r < W1.heap.size) := fun r e => Nat.lt_of_lt_of_le (own_lt hw.own e).2 hal.size
  have HV0 : Hid (∀ r, v.ownBlock = some r → W0.heap.size ≤ r) := fun r e => Nat.le_trans hB0 (own_lt hw.own e).1
  have h01 : Below W0.heap.size W0 W1 := h0.trans (hal.mono (by have := h0.size; omega))
  have HL := Lib.hid (lentList_any A2 m2 c2 l W1 (hrl.below h01) hlm hm2)
  have HRS := Lib.hid (fun w q cc (h : Wr w B g v bs) (hBw : B ≤ w.heap.size) (hr : Rd w (.slice (some ⟨q, 0, none⟩) m2 cc) m2 (ic l)) (hq : v.ownBlock ≠ some q) => Rising_any B g m2 cc (some ⟨q, 0, none⟩) v bs l w h hBw hr hlm (fun q' off e => by cases e; exact hq) hI hn)
  have HB1 : Hid (B ≤ W1.heap.size) := Nat.le_trans hB hal.size
  have HAL := Lib.hid hal
  have H01 := Lib.hid h01
  have HRL := Lib.hid hrl
  have HLM := Lib.hid hlm
  have HG0 := Lib.hid hg0
  have HRR := Lib.hid hR
  have HI := Lib.hid hI
  have HM2 := Lib.hid hm2
  have y0 : W1.cell? ⟨W.heap.size, 0, none⟩ = some (.int .i64 6) := hbx.cell 0
  have y4 : W1.cell? ⟨W.heap.size, 4, none⟩ = some (.slice A2 m2 c2) := hbx.cell 4
  have hcm : m2 ≤ c2 ∧ c2 ≤ maxLen := by obtain ⟨_, _, hv, h1, h2, _⟩ := hrl; cases hv; exact ⟨h1, h2⟩
  obtain ⟨hcm1, hcm2⟩ := hcm
  have hmb : m2 ≤ 140737488355328 := by omega
  clear hw hal hbx h0 hg0 hB0 hrl hlm h01 hn hB hR hI
  unfold ptv at *
  have HW1 : Hid (_ = W1) := hW1.symm
  clear hW1
  go_enter Try.func13, Try.ntmps13
  go_wp2_with (first
    | (go_at_call 41; rw [HW1.out]; (with_reducible refine HL.out.mono ?_); rintro e w2 ⟨q, qc, rfl, hqc, hb2, ho2⟩
       have HP2 := Lib.hid (HP0.out.below hb2)
       have HO2 := Lib.hid ho2
       have HQC := Lib.hid hqc
       have HRD := Lib.hid (lentList_rd HLM.out hqc ho2)
       have HZ2 : Hid (B ≤ w2.heap.size) := Nat.le_trans HB1.out hb2.size
       have hq1 := (own_lt ho2 (g := q) rfl)
       have HVQ : Hid (v.ownBlock ≠ some q) := fun e => by have := HV.out q e; omega
       have HQ : Hid (W1.heap.size ≤ q) := hq1.1
       clear hb2 ho2 hq1)
    | (go_at_call 25; (with_reducible refine (HRS.out _ q qc HP2.out.wr HZ2.out HRD.out HVQ.out).mono ?_); rintro e w3 ⟨hk, _⟩; obtain ⟨rfl, v3, hw3, hc3⟩ := hk HRR.out; clear hk
       have hp3 := HP2.out.write hw3 hc3
       have ho3 := own_write HO2.out hc3 HG.out HV.out
       have hb3 : Below W0.heap.size W0 w3 := H01.out.trans (hp3.ch.below H01.out.size HG0.out HV0.out)
       have HB3 := Lib.hid hb3
       have z4 : w3.cell? ⟨W.heap.size, 4, none⟩ = some (.slice A2 m2 c2) := hp3.bx.cell 4
       have HRI := Lib.hid (refRises_any A2 m2 c2 l w3 (HRL.out.below hb3) HLM.out)
       have HP3 := Lib.hid hp3
       have HO3 := Lib.hid ho3
       clear hp3 ho3 hw3 hc3 hb3)
    | (go_at_call 42; (with_reducible refine HRI.out.mono ?_); rintro e w4 ⟨hb4, hyes, hno⟩; obtain rfl := hyes HRR.out
       have hb4' : Below W0.heap.size W0 w4 := HB3.out.trans (hb4.mono HB3.out.size)
       have HLF := Lib.hid (leftList_any A2 m2 c2 q qc W1.heap.size l w4 (HRL.out.below hb4') HLM.out HQC.out (own_below HO3.out hb4) HM2.out)
       have HP4 := Lib.hid (HP3.out.below hb4)
       have HO4 := Lib.hid (own_below HO3.out hb4)
       have HB4 := Lib.hid hb4'
       have x4 : w4.cell? ⟨W.heap.size, 4, none⟩ = some (.slice A2 m2 c2) := (HP3.out.below hb4).bx.cell 4
       clear hb4 hb4' hyes hno)
    | (go_at_call 20; (with_reducible refine (num_any _ _).mono ?_); rintro e wn ⟨rfl, rfl⟩)
    | (go_at_call 43; (with_reducible refine HLF.out.mono ?_); rintro e w5 ⟨rfl, hb5⟩
       have HP5 := Lib.hid (HP4.out.below hb5)
       have HO5 := Lib.hid (own_below HO4.out hb5)
       have HB5 := Lib.hid (HB4.out.trans (hb5.mono HB4.out.size))
       clear hb5))
  go_loopw [12] (fun p wr => ∃ (k : Nat) (xs : List Value), p = .int .i64 k ∧ k ≤ m2 ∧ w5.grownBy wr (some q) ∧ wr.ownsRow W1.heap.size 2 1 (.slice (some ⟨q, 0, none⟩) (m2 + 1) qc) (m2 + 1) xs) (fun p _ => m2 - (intOf p).toNat)
  case atStart => exact ⟨0, _, rfl, Nat.zero_le _, only_refl _ _, HO5.out⟩
  case round =>
    obtain ⟨k, xs, rfl, hk, hg, ho⟩ := hrel
    have HGR := Lib.hid hg
    have HOW := Lib.hid ho
    by_cases hkm : k < m2
    · obtain ⟨g0, hg0, _, _, _, _, hcells, hfr⟩ := ownsRow_at ho (by omega)
      cases hg0
      obtain ⟨u, hu⟩ := ownsRow_cell ho (j := k) (by omega)
      have zk : wr.cell? ⟨q, k, none⟩ = some u := hcells k u hu
      have fk := hfr k
      clear hg ho hcells hfr hu
      go_wp2
      go_roundw
      case rel => exact ⟨k + 1, _, by go_num, by omega, only_set HGR.out ⟨q, k, none⟩ _ (.inl rfl), ownsRow_set HOW.out _⟩
      case measure => simp [intOf]; omega
    · obtain rfl : k = m2 := by omega
      have hbw : Below W0.heap.size W0 wr := HB5.out.trans (only_below hg HB5.out.size (fun b e => by cases e; exact Nat.le_trans H01.out.size HQ.out))
      have HRG := Lib.hid (refRising_any A2 k c2 l wr (HRL.out.below hbw) HLM.out HRR.out HI.out HM2.out)
      have zz : wr.cell? ⟨W.heap.size, 4, none⟩ = some (.slice A2 k c2) := (HP5.out.bx.grown hg (fun e => by cases e; exact (own_bk_ne HO5.out HP5.out.bx (by decide)) rfl)).cell 4
      have hpw : Wr wr B g v3 (bs ++ ris l) := HP5.out.wr.spoil hg (fun e => by have := HG.out; have := HQ.out; omega) (fun e => by
        rcases own_own_ne HP5.out.wr.own HO5.out (by decide) with h1 | h1
        · rw [e] at h1; cases h1
        · exact h1 e)
      have HPW := Lib.hid hpw
      have HCW := Lib.hid (((Wch.of_below HAL.out g v).trans HP5.out.ch).spoil hg (Nat.le_trans HAL.out.size HQ.out))
      clear hg ho hpw hbw
      go_wp2_with (first
        | (go_at_call 44; (with_reducible refine HRG.out.mono ?_); rintro e w6 ⟨rv, rfl, hb6, ho6⟩
           obtain ⟨a6, c6, rfl, _, _⟩ := ownsRow_shape ho6
           have HB6 := Lib.hid hb6
           have HO6 := Lib.hid ho6
           clear hb6 ho6))
      go_ret2
      exact ⟨_, v3, rfl, HPW.out.below HB6.out, HCW.out.trans (Wch.of_below HB6.out g v3), own_mono HO6.out HCW.out.size⟩
end Go.Proofs.Ytmcgagjjgomkeaa
