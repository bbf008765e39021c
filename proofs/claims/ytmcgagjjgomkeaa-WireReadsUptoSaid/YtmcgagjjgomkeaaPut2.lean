/- The walk of puts: numbers, signed numbers, texts, fixed numbers. -/
import Derived.Test.YtmcgagjjgomkeaaPut1
namespace Go.Proofs.Ytmcgagjjgomkeaa
open Go.RowKit Go.Lib

set_option maxRecDepth 100000 in
set_option maxHeartbeats 4000000 in
theorem puts_2 (B g x : Nat) (v : Value) (bs : List UInt8) (text : ByteArray) (A : Option Addr) (m c : Nat) (A2 : Option Addr) (m2 c2 : Nat) (W : World) (hw : Wr W B g v bs) (hB : B ≤ W.heap.size) (hx : x < 18446744073709551616) (hn : bs.length + 20 ≤ 140737488355328) :
    Calls Try.prog 13 #[.pointer (some ⟨g, 0, none⟩), .agg (ptv 2 x text A m c A2 m2 c2)] W fun e w' => ∃ rv v', e = .returned (.tuple #[rv, .bool true]) ∧ Wr w' B g v' (bs ++ (num7 x)) ∧ Wch W w' g v v' ∧ w'.ownsRow W.heap.size 5 1 rv (num7 x).length (bc (num7 x)) := by
  obtain ⟨W1, hW1⟩ : ∃ W1, W1 = W.alloc (.cells (ptv 2 x text A m c A2 m2 c2) 39) := ⟨_, rfl⟩
  have hal : Below W.heap.size W W1 := by rw [hW1]; exact below_alloc _ _
  have hbx : Bk W1 W.heap.size 39 (ptv 2 x text A m c A2 m2 c2) := by rw [hW1]; exact Bk.new _ _ _
  have HP0 : Hid (Pp W1 W1 B g W.heap.size v v bs (ptv 2 x text A m c A2 m2 c2)) := ⟨hw.below hal, Wch.refl _ _ _, hbx⟩
  have HG : Hid (g < W1.heap.size) := Nat.lt_of_lt_of_le hw.blk.lt hal.size
  have HV : Hid (∀ r, v.ownBlock = some r → r < W1.heap.size) := fun r e => Nat.lt_of_lt_of_le (own_lt hw.own e).2 hal.size
  have HF := Lib.hid (fun w => refNumber_any x w hx)
  have HWN := Lib.hid (fun w (h : Wr w B g v bs) (hB : B ≤ w.heap.size) => Number_any B g x v bs w h hB hx hn)
  have HB1 : Hid (∀ w v', Wch W1 w g v v' → B ≤ w.heap.size ∧ W1.heap.size ≤ w.heap.size) := fun w v' h => ⟨Nat.le_trans hB (Nat.le_trans hal.size h.size), h.size⟩
  have HAL := Lib.hid hal
  have HS1 : Hid (W.heap.size ≤ W1.heap.size) := hal.size
  have y0 : W1.cell? ⟨W.heap.size, 0, none⟩ = some (.int .i64 2) := hbx.cell 0
  have y1 : W1.cell? ⟨W.heap.size, 1, none⟩ = some (.int .u64 (x : Int)) := hbx.cell 1
  clear hw hal hbx hx hn hB
  generalize num7 x = F at *
  unfold ptv at *
  have HW1 : Hid (_ = W1) := hW1.symm
  clear hW1
  go_enter Try.func13, Try.ntmps13
  go_wp2
  rw [HW1.out]
  go_region_held3 (fun W1 => W1.cell? ⟨W.heap.size, 1, none⟩ = some (.int .u64 (x : Int)))
    (first
      | exact y1
      | exact HPb.out.bx.cell 1
      | exact HPd.out.bx.cell 1
      | exact HPa.out.bx.cell 1
      | exact HPc.out.bx.cell 1)
    (((first
        | (go_at_call 21; (with_reducible refine (HWN.out _ HPa.out.wr (HB1.out _ _ HPa.out.ch).1).mono ?_); rintro e wb ⟨rfl, v2, hw2, hc2⟩
           have HPb := Lib.hid (HPa.out.write hw2 hc2)
           have HRwb := Lib.hid (own_write HRwa.out hc2 HG.out HV.out)
           clear hw2 hc2)
        | (go_at_call 21; (with_reducible refine (HWN.out _ (HPa.out.below (below_drew _)).wr (HB1.out _ _ (HPa.out.below (below_drew _)).ch).1).mono ?_); rintro e wb ⟨rfl, v2, hw2, hc2⟩
           have HPb := Lib.hid ((HPa.out.below (below_drew _)).write hw2 hc2)
           have HRwb := Lib.hid (own_write HRwa.out hc2 HG.out HV.out)
           clear hw2 hc2)
        | (go_at_call 21; (with_reducible refine (HWN.out _ ((HPa.out.below (below_drew _)).below (below_drew _)).wr (HB1.out _ _ ((HPa.out.below (below_drew _)).below (below_drew _)).ch).1).mono ?_); rintro e wb ⟨rfl, v2, hw2, hc2⟩
           have HPb := Lib.hid (((HPa.out.below (below_drew _)).below (below_drew _)).write hw2 hc2)
           have HRwb := Lib.hid (own_write HRwa.out hc2 HG.out HV.out)
           clear hw2 hc2)
        | (go_at_call 21; (with_reducible refine (HWN.out _ (((HPa.out.below (below_drew _)).below (below_drew _)).below (below_drew _)).wr (HB1.out _ _ (((HPa.out.below (below_drew _)).below (below_drew _)).below (below_drew _)).ch).1).mono ?_); rintro e wb ⟨rfl, v2, hw2, hc2⟩
           have HPb := Lib.hid ((((HPa.out.below (below_drew _)).below (below_drew _)).below (below_drew _)).write hw2 hc2)
           have HRwb := Lib.hid (own_write HRwa.out hc2 HG.out HV.out)
           clear hw2 hc2)
        | (go_at_call 37; (with_reducible refine (HF.out _).mono ?_); rintro e wd ⟨rvd, rfl, hb, ho⟩
           have HPd := Lib.hid (HPc.out.below hb)
           obtain ⟨arvd, crvd, rfl, _, _⟩ := ownsRow_shape ho
           have HRwd := Lib.hid (own_mono ho (HPc.out.ch.size))
           clear hb ho)
        | (go_at_call 37; (with_reducible refine (HF.out _).mono ?_); rintro e wd ⟨rvd, rfl, hb, ho⟩
           have HPd := Lib.hid (HPc.out.below (below_trans (below_drew _) hb))
           obtain ⟨arvd, crvd, rfl, _, _⟩ := ownsRow_shape ho
           have HRwd := Lib.hid (own_mono ho (HPc.out.ch.size))
           clear hb ho)
        | (go_at_call 37; (with_reducible refine (HF.out _).mono ?_); rintro e wd ⟨rvd, rfl, hb, ho⟩
           have HPd := Lib.hid (HPc.out.below (below_trans (below_drew _) (below_trans (below_drew _) hb)))
           obtain ⟨arvd, crvd, rfl, _, _⟩ := ownsRow_shape ho
           have HRwd := Lib.hid (own_mono ho (HPc.out.ch.size))
           clear hb ho)
        | (go_at_call 37; (with_reducible refine (HF.out _).mono ?_); rintro e wd ⟨rvd, rfl, hb, ho⟩
           have HPd := Lib.hid (HPc.out.below (below_trans (below_drew _) (below_trans (below_drew _) (below_trans (below_drew _) hb))))
           obtain ⟨arvd, crvd, rfl, _, _⟩ := ownsRow_shape ho
           have HRwd := Lib.hid (own_mono ho (HPc.out.ch.size))
           clear hb ho)
        | (go_at_call 37; (with_reducible refine (HF.out _).mono ?_); rintro e wa ⟨rva, rfl, hb, ho⟩
           have HPa := Lib.hid (HP0.out.below hb)
           obtain ⟨arva, crva, rfl, _, _⟩ := ownsRow_shape ho
           have HRwa := Lib.hid (own_mono ho (HP0.out.ch.size))
           clear hb ho)
        | (go_at_call 37; (with_reducible refine (HF.out _).mono ?_); rintro e wa ⟨rva, rfl, hb, ho⟩
           have HPa := Lib.hid (HP0.out.below (below_trans (below_drew _) hb))
           obtain ⟨arva, crva, rfl, _, _⟩ := ownsRow_shape ho
           have HRwa := Lib.hid (own_mono ho (HP0.out.ch.size))
           clear hb ho)
        | (go_at_call 37; (with_reducible refine (HF.out _).mono ?_); rintro e wa ⟨rva, rfl, hb, ho⟩
           have HPa := Lib.hid (HP0.out.below (below_trans (below_drew _) (below_trans (below_drew _) hb)))
           obtain ⟨arva, crva, rfl, _, _⟩ := ownsRow_shape ho
           have HRwa := Lib.hid (own_mono ho (HP0.out.ch.size))
           clear hb ho)
        | (go_at_call 37; (with_reducible refine (HF.out _).mono ?_); rintro e wa ⟨rva, rfl, hb, ho⟩
           have HPa := Lib.hid (HP0.out.below (below_trans (below_drew _) (below_trans (below_drew _) (below_trans (below_drew _) hb))))
           obtain ⟨arva, crva, rfl, _, _⟩ := ownsRow_shape ho
           have HRwa := Lib.hid (own_mono ho (HP0.out.ch.size))
           clear hb ho)
        | (go_at_call 21; (with_reducible refine (HWN.out _ HP0.out.wr (HB1.out _ _ HP0.out.ch).1).mono ?_); rintro e wc ⟨rfl, v2, hw2, hc2⟩
           have HPc := Lib.hid (HP0.out.write hw2 hc2)
           clear hw2 hc2)
        | (go_at_call 21; (with_reducible refine (HWN.out _ (HP0.out.below (below_drew _)).wr (HB1.out _ _ (HP0.out.below (below_drew _)).ch).1).mono ?_); rintro e wc ⟨rfl, v2, hw2, hc2⟩
           have HPc := Lib.hid ((HP0.out.below (below_drew _)).write hw2 hc2)
           clear hw2 hc2)
        | (go_at_call 21; (with_reducible refine (HWN.out _ ((HP0.out.below (below_drew _)).below (below_drew _)).wr (HB1.out _ _ ((HP0.out.below (below_drew _)).below (below_drew _)).ch).1).mono ?_); rintro e wc ⟨rfl, v2, hw2, hc2⟩
           have HPc := Lib.hid (((HP0.out.below (below_drew _)).below (below_drew _)).write hw2 hc2)
           clear hw2 hc2)
        | (go_at_call 21; (with_reducible refine (HWN.out _ (((HP0.out.below (below_drew _)).below (below_drew _)).below (below_drew _)).wr (HB1.out _ _ (((HP0.out.below (below_drew _)).below (below_drew _)).below (below_drew _)).ch).1).mono ?_); rintro e wc ⟨rfl, v2, hw2, hc2⟩
           have HPc := Lib.hid ((((HP0.out.below (below_drew _)).below (below_drew _)).below (below_drew _)).write hw2 hc2)
           clear hw2 hc2)
        | (go_at_call 20; (with_reducible refine (num_any _ _).mono ?_); rintro e wn ⟨rfl, rfl⟩))))
  all_goals go_wp2
  all_goals go_ret2
  all_goals first
    | exact ⟨_, _, rfl, HPb.out.wr, (Wch.of_below HAL.out g v).trans HPb.out.ch, own_mono HRwb.out HS1.out⟩
    | exact ⟨_, _, rfl, HPd.out.wr, (Wch.of_below HAL.out g v).trans HPd.out.ch, own_mono HRwd.out HS1.out⟩

set_option maxRecDepth 100000 in
set_option maxHeartbeats 4000000 in
theorem puts_3 (B g x : Nat) (v : Value) (bs : List UInt8) (text : ByteArray) (A : Option Addr) (m c : Nat) (A2 : Option Addr) (m2 c2 : Nat) (W : World) (hw : Wr W B g v bs) (hB : B ≤ W.heap.size) (hx : x < 18446744073709551616) (hn : bs.length + 20 ≤ 140737488355328) :
    Calls Try.prog 13 #[.pointer (some ⟨g, 0, none⟩), .agg (ptv 3 x text A m c A2 m2 c2)] W fun e w' => ∃ rv v', e = .returned (.tuple #[rv, .bool true]) ∧ Wr w' B g v' (bs ++ (num7 (zig (i64of x)))) ∧ Wch W w' g v v' ∧ w'.ownsRow W.heap.size 5 1 rv (num7 (zig (i64of x))).length (bc (num7 (zig (i64of x)))) := by
  obtain ⟨W1, hW1⟩ : ∃ W1, W1 = W.alloc (.cells (ptv 3 x text A m c A2 m2 c2) 39) := ⟨_, rfl⟩
  have hal : Below W.heap.size W W1 := by rw [hW1]; exact below_alloc _ _
  have hbx : Bk W1 W.heap.size 39 (ptv 3 x text A m c A2 m2 c2) := by rw [hW1]; exact Bk.new _ _ _
  have HP0 : Hid (Pp W1 W1 B g W.heap.size v v bs (ptv 3 x text A m c A2 m2 c2)) := ⟨hw.below hal, Wch.refl _ _ _, hbx⟩
  have HG : Hid (g < W1.heap.size) := Nat.lt_of_lt_of_le hw.blk.lt hal.size
  have HV : Hid (∀ r, v.ownBlock = some r → r < W1.heap.size) := fun r e => Nat.lt_of_lt_of_le (own_lt hw.own e).2 hal.size
  have HF := Lib.hid (fun w => refNumber_any (zig (i64of x)) w (zig_lt (i64of_I64 hx).1 (i64of_I64 hx).2))
  have HWN := Lib.hid (fun w (h : Wr w B g v bs) (hB : B ≤ w.heap.size) => Signed_any B g (i64of x) v bs w h hB (i64of_I64 hx).1 (i64of_I64 hx).2 hn)
  have HB1 : Hid (∀ w v', Wch W1 w g v v' → B ≤ w.heap.size ∧ W1.heap.size ≤ w.heap.size) := fun w v' h => ⟨Nat.le_trans hB (Nat.le_trans hal.size h.size), h.size⟩
  have HAL := Lib.hid hal
  have HS1 : Hid (W.heap.size ≤ W1.heap.size) := hal.size
  have y0 : W1.cell? ⟨W.heap.size, 0, none⟩ = some (.int .i64 3) := hbx.cell 0
  have y1 : W1.cell? ⟨W.heap.size, 1, none⟩ = some (.int .u64 (x : Int)) := hbx.cell 1
  have hwx : IntKind.i64.wrap (x : Int) = i64of x := i64of_wrap hx
  have hwx2 : wrap64 (x : Int) = i64of x := by unfold wrap64 i64of; split <;> omega
  have HFO := Lib.hid (fun w => refFold_any (i64of x) w (i64of_I64 hx).1 (i64of_I64 hx).2)
  clear hw hal hbx hx hn hB
  generalize num7 (zig (i64of x)) = F at *
  unfold ptv at *
  have HW1 : Hid (_ = W1) := hW1.symm
  clear hW1
  go_enter Try.func13, Try.ntmps13
  go_wp2
  rw [HW1.out]
  go_region_held3 (fun W1 => W1.cell? ⟨W.heap.size, 1, none⟩ = some (.int .u64 (x : Int)))
    (first
      | exact y1
      | exact HPb.out.bx.cell 1
      | exact HPd.out.bx.cell 1
      | exact HPa.out.bx.cell 1
      | exact HPc.out.bx.cell 1)
    (((first
        | (go_at_call 38; (with_reducible refine (HFO.out _).mono ?_); rintro e wf ⟨rfl, rfl⟩)
        | (go_at_call 33; (with_reducible refine (HWN.out _ HPa.out.wr (HB1.out _ _ HPa.out.ch).1).mono ?_); rintro e wb ⟨rfl, v2, hw2, hc2⟩
           have HPb := Lib.hid (HPa.out.write hw2 hc2)
           have HRwb := Lib.hid (own_write HRwa.out hc2 HG.out HV.out)
           clear hw2 hc2)
        | (go_at_call 33; (with_reducible refine (HWN.out _ (HPa.out.below (below_drew _)).wr (HB1.out _ _ (HPa.out.below (below_drew _)).ch).1).mono ?_); rintro e wb ⟨rfl, v2, hw2, hc2⟩
           have HPb := Lib.hid ((HPa.out.below (below_drew _)).write hw2 hc2)
           have HRwb := Lib.hid (own_write HRwa.out hc2 HG.out HV.out)
           clear hw2 hc2)
        | (go_at_call 33; (with_reducible refine (HWN.out _ ((HPa.out.below (below_drew _)).below (below_drew _)).wr (HB1.out _ _ ((HPa.out.below (below_drew _)).below (below_drew _)).ch).1).mono ?_); rintro e wb ⟨rfl, v2, hw2, hc2⟩
           have HPb := Lib.hid (((HPa.out.below (below_drew _)).below (below_drew _)).write hw2 hc2)
           have HRwb := Lib.hid (own_write HRwa.out hc2 HG.out HV.out)
           clear hw2 hc2)
        | (go_at_call 33; (with_reducible refine (HWN.out _ (((HPa.out.below (below_drew _)).below (below_drew _)).below (below_drew _)).wr (HB1.out _ _ (((HPa.out.below (below_drew _)).below (below_drew _)).below (below_drew _)).ch).1).mono ?_); rintro e wb ⟨rfl, v2, hw2, hc2⟩
           have HPb := Lib.hid ((((HPa.out.below (below_drew _)).below (below_drew _)).below (below_drew _)).write hw2 hc2)
           have HRwb := Lib.hid (own_write HRwa.out hc2 HG.out HV.out)
           clear hw2 hc2)
        | (go_at_call 37; (with_reducible refine (HF.out _).mono ?_); rintro e wd ⟨rvd, rfl, hb, ho⟩
           have HPd := Lib.hid (HPc.out.below hb)
           obtain ⟨arvd, crvd, rfl, _, _⟩ := ownsRow_shape ho
           have HRwd := Lib.hid (own_mono ho (HPc.out.ch.size))
           clear hb ho)
        | (go_at_call 37; (with_reducible refine (HF.out _).mono ?_); rintro e wd ⟨rvd, rfl, hb, ho⟩
           have HPd := Lib.hid (HPc.out.below (below_trans (below_drew _) hb))
           obtain ⟨arvd, crvd, rfl, _, _⟩ := ownsRow_shape ho
           have HRwd := Lib.hid (own_mono ho (HPc.out.ch.size))
           clear hb ho)
        | (go_at_call 37; (with_reducible refine (HF.out _).mono ?_); rintro e wd ⟨rvd, rfl, hb, ho⟩
           have HPd := Lib.hid (HPc.out.below (below_trans (below_drew _) (below_trans (below_drew _) hb)))
           obtain ⟨arvd, crvd, rfl, _, _⟩ := ownsRow_shape ho
           have HRwd := Lib.hid (own_mono ho (HPc.out.ch.size))
           clear hb ho)
        | (go_at_call 37; (with_reducible refine (HF.out _).mono ?_); rintro e wd ⟨rvd, rfl, hb, ho⟩
           have HPd := Lib.hid (HPc.out.below (below_trans (below_drew _) (below_trans (below_drew _) (below_trans (below_drew _) hb))))
           obtain ⟨arvd, crvd, rfl, _, _⟩ := ownsRow_shape ho
           have HRwd := Lib.hid (own_mono ho (HPc.out.ch.size))
           clear hb ho)
        | (go_at_call 37; (with_reducible refine (HF.out _).mono ?_); rintro e wa ⟨rva, rfl, hb, ho⟩
           have HPa := Lib.hid (HP0.out.below hb)
           obtain ⟨arva, crva, rfl, _, _⟩ := ownsRow_shape ho
           have HRwa := Lib.hid (own_mono ho (HP0.out.ch.size))
           clear hb ho)
        | (go_at_call 37; (with_reducible refine (HF.out _).mono ?_); rintro e wa ⟨rva, rfl, hb, ho⟩
           have HPa := Lib.hid (HP0.out.below (below_trans (below_drew _) hb))
           obtain ⟨arva, crva, rfl, _, _⟩ := ownsRow_shape ho
           have HRwa := Lib.hid (own_mono ho (HP0.out.ch.size))
           clear hb ho)
        | (go_at_call 37; (with_reducible refine (HF.out _).mono ?_); rintro e wa ⟨rva, rfl, hb, ho⟩
           have HPa := Lib.hid (HP0.out.below (below_trans (below_drew _) (below_trans (below_drew _) hb)))
           obtain ⟨arva, crva, rfl, _, _⟩ := ownsRow_shape ho
           have HRwa := Lib.hid (own_mono ho (HP0.out.ch.size))
           clear hb ho)
        | (go_at_call 37; (with_reducible refine (HF.out _).mono ?_); rintro e wa ⟨rva, rfl, hb, ho⟩
           have HPa := Lib.hid (HP0.out.below (below_trans (below_drew _) (below_trans (below_drew _) (below_trans (below_drew _) hb))))
           obtain ⟨arva, crva, rfl, _, _⟩ := ownsRow_shape ho
           have HRwa := Lib.hid (own_mono ho (HP0.out.ch.size))
           clear hb ho)
        | (go_at_call 33; (with_reducible refine (HWN.out _ HP0.out.wr (HB1.out _ _ HP0.out.ch).1).mono ?_); rintro e wc ⟨rfl, v2, hw2, hc2⟩
           have HPc := Lib.hid (HP0.out.write hw2 hc2)
           clear hw2 hc2)
        | (go_at_call 33; (with_reducible refine (HWN.out _ (HP0.out.below (below_drew _)).wr (HB1.out _ _ (HP0.out.below (below_drew _)).ch).1).mono ?_); rintro e wc ⟨rfl, v2, hw2, hc2⟩
           have HPc := Lib.hid ((HP0.out.below (below_drew _)).write hw2 hc2)
           clear hw2 hc2)
        | (go_at_call 33; (with_reducible refine (HWN.out _ ((HP0.out.below (below_drew _)).below (below_drew _)).wr (HB1.out _ _ ((HP0.out.below (below_drew _)).below (below_drew _)).ch).1).mono ?_); rintro e wc ⟨rfl, v2, hw2, hc2⟩
           have HPc := Lib.hid (((HP0.out.below (below_drew _)).below (below_drew _)).write hw2 hc2)
           clear hw2 hc2)
        | (go_at_call 33; (with_reducible refine (HWN.out _ (((HP0.out.below (below_drew _)).below (below_drew _)).below (below_drew _)).wr (HB1.out _ _ (((HP0.out.below (below_drew _)).below (below_drew _)).below (below_drew _)).ch).1).mono ?_); rintro e wc ⟨rfl, v2, hw2, hc2⟩
           have HPc := Lib.hid ((((HP0.out.below (below_drew _)).below (below_drew _)).below (below_drew _)).write hw2 hc2)
           clear hw2 hc2)
        | (go_at_call 20; (with_reducible refine (num_any _ _).mono ?_); rintro e wn ⟨rfl, rfl⟩))))
  all_goals go_wp2
  all_goals go_ret2
  all_goals first
    | exact ⟨_, _, rfl, HPb.out.wr, (Wch.of_below HAL.out g v).trans HPb.out.ch, own_mono HRwb.out HS1.out⟩
    | exact ⟨_, _, rfl, HPd.out.wr, (Wch.of_below HAL.out g v).trans HPd.out.ch, own_mono HRwd.out HS1.out⟩

set_option maxRecDepth 100000 in
set_option maxHeartbeats 4000000 in
theorem puts_4 (B g x : Nat) (v : Value) (bs : List UInt8) (text : ByteArray) (A : Option Addr) (m c : Nat) (A2 : Option Addr) (m2 c2 : Nat) (W : World) (hw : Wr W B g v bs) (hB : B ≤ W.heap.size)  (hn : bs.length + text.size + 20 ≤ 140737488355328) :
    Calls Try.prog 13 #[.pointer (some ⟨g, 0, none⟩), .agg (ptv 4 x text A m c A2 m2 c2)] W fun e w' => ∃ rv v', e = .returned (.tuple #[rv, .bool true]) ∧ Wr w' B g v' (bs ++ (num7 text.size ++ text.data.toList)) ∧ Wch W w' g v v' ∧ w'.ownsRow W.heap.size 5 1 rv (num7 text.size ++ text.data.toList).length (bc (num7 text.size ++ text.data.toList)) := by
  obtain ⟨W1, hW1⟩ : ∃ W1, W1 = W.alloc (.cells (ptv 4 x text A m c A2 m2 c2) 39) := ⟨_, rfl⟩
  have hal : Below W.heap.size W W1 := by rw [hW1]; exact below_alloc _ _
  have hbx : Bk W1 W.heap.size 39 (ptv 4 x text A m c A2 m2 c2) := by rw [hW1]; exact Bk.new _ _ _
  have HP0 : Hid (Pp W1 W1 B g W.heap.size v v bs (ptv 4 x text A m c A2 m2 c2)) := ⟨hw.below hal, Wch.refl _ _ _, hbx⟩
  have HG : Hid (g < W1.heap.size) := Nat.lt_of_lt_of_le hw.blk.lt hal.size
  have HV : Hid (∀ r, v.ownBlock = some r → r < W1.heap.size) := fun r e => Nat.lt_of_lt_of_le (own_lt hw.own e).2 hal.size
  have HF := Lib.hid (fun w => refText_any text w (by omega))
  have HWN := Lib.hid (fun w (h : Wr w B g v bs) (hB : B ≤ w.heap.size) => Text_any B g text v bs w h hB hn)
  have HB1 : Hid (∀ w v', Wch W1 w g v v' → B ≤ w.heap.size ∧ W1.heap.size ≤ w.heap.size) := fun w v' h => ⟨Nat.le_trans hB (Nat.le_trans hal.size h.size), h.size⟩
  have HAL := Lib.hid hal
  have HS1 : Hid (W.heap.size ≤ W1.heap.size) := hal.size
  have y0 : W1.cell? ⟨W.heap.size, 0, none⟩ = some (.int .i64 4) := hbx.cell 0
  have y1 : W1.cell? ⟨W.heap.size, 2, none⟩ = some (.string text) := hbx.cell 2
  clear hw hal hbx hn hB
  generalize num7 text.size ++ text.data.toList = F at *
  unfold ptv at *
  have HW1 : Hid (_ = W1) := hW1.symm
  clear hW1
  go_enter Try.func13, Try.ntmps13
  go_wp2
  rw [HW1.out]
  go_region_held3 (fun W1 => W1.cell? ⟨W.heap.size, 2, none⟩ = some (.string text))
    (first
      | exact y1
      | exact HPb.out.bx.cell 2
      | exact HPd.out.bx.cell 2
      | exact HPa.out.bx.cell 2
      | exact HPc.out.bx.cell 2)
    (((first
        | (go_at_call 23; (with_reducible refine (HWN.out _ HPa.out.wr (HB1.out _ _ HPa.out.ch).1).mono ?_); rintro e wb ⟨rfl, v2, hw2, hc2⟩
           have HPb := Lib.hid (HPa.out.write hw2 hc2)
           have HRwb := Lib.hid (own_write HRwa.out hc2 HG.out HV.out)
           clear hw2 hc2)
        | (go_at_call 23; (with_reducible refine (HWN.out _ (HPa.out.below (below_drew _)).wr (HB1.out _ _ (HPa.out.below (below_drew _)).ch).1).mono ?_); rintro e wb ⟨rfl, v2, hw2, hc2⟩
           have HPb := Lib.hid ((HPa.out.below (below_drew _)).write hw2 hc2)
           have HRwb := Lib.hid (own_write HRwa.out hc2 HG.out HV.out)
           clear hw2 hc2)
        | (go_at_call 23; (with_reducible refine (HWN.out _ ((HPa.out.below (below_drew _)).below (below_drew _)).wr (HB1.out _ _ ((HPa.out.below (below_drew _)).below (below_drew _)).ch).1).mono ?_); rintro e wb ⟨rfl, v2, hw2, hc2⟩
           have HPb := Lib.hid (((HPa.out.below (below_drew _)).below (below_drew _)).write hw2 hc2)
           have HRwb := Lib.hid (own_write HRwa.out hc2 HG.out HV.out)
           clear hw2 hc2)
        | (go_at_call 23; (with_reducible refine (HWN.out _ (((HPa.out.below (below_drew _)).below (below_drew _)).below (below_drew _)).wr (HB1.out _ _ (((HPa.out.below (below_drew _)).below (below_drew _)).below (below_drew _)).ch).1).mono ?_); rintro e wb ⟨rfl, v2, hw2, hc2⟩
           have HPb := Lib.hid ((((HPa.out.below (below_drew _)).below (below_drew _)).below (below_drew _)).write hw2 hc2)
           have HRwb := Lib.hid (own_write HRwa.out hc2 HG.out HV.out)
           clear hw2 hc2)
        | (go_at_call 39; (with_reducible refine (HF.out _).mono ?_); rintro e wd ⟨rvd, rfl, hb, ho⟩
           have HPd := Lib.hid (HPc.out.below hb)
           obtain ⟨arvd, crvd, rfl, _, _⟩ := ownsRow_shape ho
           have HRwd := Lib.hid (own_mono ho (HPc.out.ch.size))
           clear hb ho)
        | (go_at_call 39; (with_reducible refine (HF.out _).mono ?_); rintro e wd ⟨rvd, rfl, hb, ho⟩
           have HPd := Lib.hid (HPc.out.below (below_trans (below_drew _) hb))
           obtain ⟨arvd, crvd, rfl, _, _⟩ := ownsRow_shape ho
           have HRwd := Lib.hid (own_mono ho (HPc.out.ch.size))
           clear hb ho)
        | (go_at_call 39; (with_reducible refine (HF.out _).mono ?_); rintro e wd ⟨rvd, rfl, hb, ho⟩
           have HPd := Lib.hid (HPc.out.below (below_trans (below_drew _) (below_trans (below_drew _) hb)))
           obtain ⟨arvd, crvd, rfl, _, _⟩ := ownsRow_shape ho
           have HRwd := Lib.hid (own_mono ho (HPc.out.ch.size))
           clear hb ho)
        | (go_at_call 39; (with_reducible refine (HF.out _).mono ?_); rintro e wd ⟨rvd, rfl, hb, ho⟩
           have HPd := Lib.hid (HPc.out.below (below_trans (below_drew _) (below_trans (below_drew _) (below_trans (below_drew _) hb))))
           obtain ⟨arvd, crvd, rfl, _, _⟩ := ownsRow_shape ho
           have HRwd := Lib.hid (own_mono ho (HPc.out.ch.size))
           clear hb ho)
        | (go_at_call 39; (with_reducible refine (HF.out _).mono ?_); rintro e wa ⟨rva, rfl, hb, ho⟩
           have HPa := Lib.hid (HP0.out.below hb)
           obtain ⟨arva, crva, rfl, _, _⟩ := ownsRow_shape ho
           have HRwa := Lib.hid (own_mono ho (HP0.out.ch.size))
           clear hb ho)
        | (go_at_call 39; (with_reducible refine (HF.out _).mono ?_); rintro e wa ⟨rva, rfl, hb, ho⟩
           have HPa := Lib.hid (HP0.out.below (below_trans (below_drew _) hb))
           obtain ⟨arva, crva, rfl, _, _⟩ := ownsRow_shape ho
           have HRwa := Lib.hid (own_mono ho (HP0.out.ch.size))
           clear hb ho)
        | (go_at_call 39; (with_reducible refine (HF.out _).mono ?_); rintro e wa ⟨rva, rfl, hb, ho⟩
           have HPa := Lib.hid (HP0.out.below (below_trans (below_drew _) (below_trans (below_drew _) hb)))
           obtain ⟨arva, crva, rfl, _, _⟩ := ownsRow_shape ho
           have HRwa := Lib.hid (own_mono ho (HP0.out.ch.size))
           clear hb ho)
        | (go_at_call 39; (with_reducible refine (HF.out _).mono ?_); rintro e wa ⟨rva, rfl, hb, ho⟩
           have HPa := Lib.hid (HP0.out.below (below_trans (below_drew _) (below_trans (below_drew _) (below_trans (below_drew _) hb))))
           obtain ⟨arva, crva, rfl, _, _⟩ := ownsRow_shape ho
           have HRwa := Lib.hid (own_mono ho (HP0.out.ch.size))
           clear hb ho)
        | (go_at_call 23; (with_reducible refine (HWN.out _ HP0.out.wr (HB1.out _ _ HP0.out.ch).1).mono ?_); rintro e wc ⟨rfl, v2, hw2, hc2⟩
           have HPc := Lib.hid (HP0.out.write hw2 hc2)
           clear hw2 hc2)
        | (go_at_call 23; (with_reducible refine (HWN.out _ (HP0.out.below (below_drew _)).wr (HB1.out _ _ (HP0.out.below (below_drew _)).ch).1).mono ?_); rintro e wc ⟨rfl, v2, hw2, hc2⟩
           have HPc := Lib.hid ((HP0.out.below (below_drew _)).write hw2 hc2)
           clear hw2 hc2)
        | (go_at_call 23; (with_reducible refine (HWN.out _ ((HP0.out.below (below_drew _)).below (below_drew _)).wr (HB1.out _ _ ((HP0.out.below (below_drew _)).below (below_drew _)).ch).1).mono ?_); rintro e wc ⟨rfl, v2, hw2, hc2⟩
           have HPc := Lib.hid (((HP0.out.below (below_drew _)).below (below_drew _)).write hw2 hc2)
           clear hw2 hc2)
        | (go_at_call 23; (with_reducible refine (HWN.out _ (((HP0.out.below (below_drew _)).below (below_drew _)).below (below_drew _)).wr (HB1.out _ _ (((HP0.out.below (below_drew _)).below (below_drew _)).below (below_drew _)).ch).1).mono ?_); rintro e wc ⟨rfl, v2, hw2, hc2⟩
           have HPc := Lib.hid ((((HP0.out.below (below_drew _)).below (below_drew _)).below (below_drew _)).write hw2 hc2)
           clear hw2 hc2)
        | (go_at_call 20; (with_reducible refine (num_any _ _).mono ?_); rintro e wn ⟨rfl, rfl⟩))))
  all_goals go_wp2
  all_goals go_ret2
  all_goals first
    | exact ⟨_, _, rfl, HPb.out.wr, (Wch.of_below HAL.out g v).trans HPb.out.ch, own_mono HRwb.out HS1.out⟩
    | exact ⟨_, _, rfl, HPd.out.wr, (Wch.of_below HAL.out g v).trans HPd.out.ch, own_mono HRwd.out HS1.out⟩

set_option maxRecDepth 100000 in
set_option maxHeartbeats 4000000 in
theorem puts_5 (B g x : Nat) (v : Value) (bs : List UInt8) (text : ByteArray) (A : Option Addr) (m c : Nat) (A2 : Option Addr) (m2 c2 : Nat) (W : World) (hw : Wr W B g v bs) (hB : B ≤ W.heap.size) (y : Nat) (hx : x % 4294967296 = y) (hn : bs.length + 4 ≤ 140737488355328) :
    Calls Try.prog 13 #[.pointer (some ⟨g, 0, none⟩), .agg (ptv 5 x text A m c A2 m2 c2)] W fun e w' => ∃ rv v', e = .returned (.tuple #[rv, .bool true]) ∧ Wr w' B g v' (bs ++ (fix4 y)) ∧ Wch W w' g v v' ∧ w'.ownsRow W.heap.size 5 1 rv (fix4 y).length (bc (fix4 y)) := by
  obtain ⟨W1, hW1⟩ : ∃ W1, W1 = W.alloc (.cells (ptv 5 x text A m c A2 m2 c2) 39) := ⟨_, rfl⟩
  have hal : Below W.heap.size W W1 := by rw [hW1]; exact below_alloc _ _
  have hbx : Bk W1 W.heap.size 39 (ptv 5 x text A m c A2 m2 c2) := by rw [hW1]; exact Bk.new _ _ _
  have HP0 : Hid (Pp W1 W1 B g W.heap.size v v bs (ptv 5 x text A m c A2 m2 c2)) := ⟨hw.below hal, Wch.refl _ _ _, hbx⟩
  have HG : Hid (g < W1.heap.size) := Nat.lt_of_lt_of_le hw.blk.lt hal.size
  have HV : Hid (∀ r, v.ownBlock = some r → r < W1.heap.size) := fun r e => Nat.lt_of_lt_of_le (own_lt hw.own e).2 hal.size
  have HF := Lib.hid (fun w => refFixed_any y w (by omega))
  have HWN := Lib.hid (fun w (h : Wr w B g v bs) (hB : B ≤ w.heap.size) => Fixed_any B g y v bs w h hB (by omega) hn)
  have HB1 : Hid (∀ w v', Wch W1 w g v v' → B ≤ w.heap.size ∧ W1.heap.size ≤ w.heap.size) := fun w v' h => ⟨Nat.le_trans hB (Nat.le_trans hal.size h.size), h.size⟩
  have HAL := Lib.hid hal
  have HS1 : Hid (W.heap.size ≤ W1.heap.size) := hal.size
  have y0 : W1.cell? ⟨W.heap.size, 0, none⟩ = some (.int .i64 5) := hbx.cell 0
  have y1 : W1.cell? ⟨W.heap.size, 1, none⟩ = some (.int .u64 (x : Int)) := hbx.cell 1
  have hwx : IntKind.u32.wrap (x : Int) = (y : Int) := by rw [IntKind.wrap_u32]; omega
  have hwx2 : (x : Int) % 4294967296 = (y : Int) := by omega
  clear hw hal hbx hx hn hB
  generalize fix4 y = F at *
  unfold ptv at *
  have HW1 : Hid (_ = W1) := hW1.symm
  clear hW1
  go_enter Try.func13, Try.ntmps13
  go_wp2
  rw [HW1.out]
  go_region_held3 (fun W1 => W1.cell? ⟨W.heap.size, 1, none⟩ = some (.int .u64 (x : Int)))
    (first
      | exact y1
      | exact HPb.out.bx.cell 1
      | exact HPd.out.bx.cell 1
      | exact HPa.out.bx.cell 1
      | exact HPc.out.bx.cell 1)
    (((first
        | (go_at_call 34; (with_reducible refine (HWN.out _ HPa.out.wr (HB1.out _ _ HPa.out.ch).1).mono ?_); rintro e wb ⟨rfl, v2, hw2, hc2⟩
           have HPb := Lib.hid (HPa.out.write hw2 hc2)
           have HRwb := Lib.hid (own_write HRwa.out hc2 HG.out HV.out)
           clear hw2 hc2)
        | (go_at_call 34; (with_reducible refine (HWN.out _ (HPa.out.below (below_drew _)).wr (HB1.out _ _ (HPa.out.below (below_drew _)).ch).1).mono ?_); rintro e wb ⟨rfl, v2, hw2, hc2⟩
           have HPb := Lib.hid ((HPa.out.below (below_drew _)).write hw2 hc2)
           have HRwb := Lib.hid (own_write HRwa.out hc2 HG.out HV.out)
           clear hw2 hc2)
        | (go_at_call 34; (with_reducible refine (HWN.out _ ((HPa.out.below (below_drew _)).below (below_drew _)).wr (HB1.out _ _ ((HPa.out.below (below_drew _)).below (below_drew _)).ch).1).mono ?_); rintro e wb ⟨rfl, v2, hw2, hc2⟩
           have HPb := Lib.hid (((HPa.out.below (below_drew _)).below (below_drew _)).write hw2 hc2)
           have HRwb := Lib.hid (own_write HRwa.out hc2 HG.out HV.out)
           clear hw2 hc2)
        | (go_at_call 34; (with_reducible refine (HWN.out _ (((HPa.out.below (below_drew _)).below (below_drew _)).below (below_drew _)).wr (HB1.out _ _ (((HPa.out.below (below_drew _)).below (below_drew _)).below (below_drew _)).ch).1).mono ?_); rintro e wb ⟨rfl, v2, hw2, hc2⟩
           have HPb := Lib.hid ((((HPa.out.below (below_drew _)).below (below_drew _)).below (below_drew _)).write hw2 hc2)
           have HRwb := Lib.hid (own_write HRwa.out hc2 HG.out HV.out)
           clear hw2 hc2)
        | (go_at_call 40; (with_reducible refine (HF.out _).mono ?_); rintro e wd ⟨rvd, rfl, hb, ho⟩
           have HPd := Lib.hid (HPc.out.below hb)
           obtain ⟨arvd, crvd, rfl, _, _⟩ := ownsRow_shape ho
           have HRwd := Lib.hid (own_mono ho (HPc.out.ch.size))
           clear hb ho)
        | (go_at_call 40; (with_reducible refine (HF.out _).mono ?_); rintro e wd ⟨rvd, rfl, hb, ho⟩
           have HPd := Lib.hid (HPc.out.below (below_trans (below_drew _) hb))
           obtain ⟨arvd, crvd, rfl, _, _⟩ := ownsRow_shape ho
           have HRwd := Lib.hid (own_mono ho (HPc.out.ch.size))
           clear hb ho)
        | (go_at_call 40; (with_reducible refine (HF.out _).mono ?_); rintro e wd ⟨rvd, rfl, hb, ho⟩
           have HPd := Lib.hid (HPc.out.below (below_trans (below_drew _) (below_trans (below_drew _) hb)))
           obtain ⟨arvd, crvd, rfl, _, _⟩ := ownsRow_shape ho
           have HRwd := Lib.hid (own_mono ho (HPc.out.ch.size))
           clear hb ho)
        | (go_at_call 40; (with_reducible refine (HF.out _).mono ?_); rintro e wd ⟨rvd, rfl, hb, ho⟩
           have HPd := Lib.hid (HPc.out.below (below_trans (below_drew _) (below_trans (below_drew _) (below_trans (below_drew _) hb))))
           obtain ⟨arvd, crvd, rfl, _, _⟩ := ownsRow_shape ho
           have HRwd := Lib.hid (own_mono ho (HPc.out.ch.size))
           clear hb ho)
        | (go_at_call 40; (with_reducible refine (HF.out _).mono ?_); rintro e wa ⟨rva, rfl, hb, ho⟩
           have HPa := Lib.hid (HP0.out.below hb)
           obtain ⟨arva, crva, rfl, _, _⟩ := ownsRow_shape ho
           have HRwa := Lib.hid (own_mono ho (HP0.out.ch.size))
           clear hb ho)
        | (go_at_call 40; (with_reducible refine (HF.out _).mono ?_); rintro e wa ⟨rva, rfl, hb, ho⟩
           have HPa := Lib.hid (HP0.out.below (below_trans (below_drew _) hb))
           obtain ⟨arva, crva, rfl, _, _⟩ := ownsRow_shape ho
           have HRwa := Lib.hid (own_mono ho (HP0.out.ch.size))
           clear hb ho)
        | (go_at_call 40; (with_reducible refine (HF.out _).mono ?_); rintro e wa ⟨rva, rfl, hb, ho⟩
           have HPa := Lib.hid (HP0.out.below (below_trans (below_drew _) (below_trans (below_drew _) hb)))
           obtain ⟨arva, crva, rfl, _, _⟩ := ownsRow_shape ho
           have HRwa := Lib.hid (own_mono ho (HP0.out.ch.size))
           clear hb ho)
        | (go_at_call 40; (with_reducible refine (HF.out _).mono ?_); rintro e wa ⟨rva, rfl, hb, ho⟩
           have HPa := Lib.hid (HP0.out.below (below_trans (below_drew _) (below_trans (below_drew _) (below_trans (below_drew _) hb))))
           obtain ⟨arva, crva, rfl, _, _⟩ := ownsRow_shape ho
           have HRwa := Lib.hid (own_mono ho (HP0.out.ch.size))
           clear hb ho)
        | (go_at_call 34; (with_reducible refine (HWN.out _ HP0.out.wr (HB1.out _ _ HP0.out.ch).1).mono ?_); rintro e wc ⟨rfl, v2, hw2, hc2⟩
           have HPc := Lib.hid (HP0.out.write hw2 hc2)
           clear hw2 hc2)
        | (go_at_call 34; (with_reducible refine (HWN.out _ (HP0.out.below (below_drew _)).wr (HB1.out _ _ (HP0.out.below (below_drew _)).ch).1).mono ?_); rintro e wc ⟨rfl, v2, hw2, hc2⟩
           have HPc := Lib.hid ((HP0.out.below (below_drew _)).write hw2 hc2)
           clear hw2 hc2)
        | (go_at_call 34; (with_reducible refine (HWN.out _ ((HP0.out.below (below_drew _)).below (below_drew _)).wr (HB1.out _ _ ((HP0.out.below (below_drew _)).below (below_drew _)).ch).1).mono ?_); rintro e wc ⟨rfl, v2, hw2, hc2⟩
           have HPc := Lib.hid (((HP0.out.below (below_drew _)).below (below_drew _)).write hw2 hc2)
           clear hw2 hc2)
        | (go_at_call 34; (with_reducible refine (HWN.out _ (((HP0.out.below (below_drew _)).below (below_drew _)).below (below_drew _)).wr (HB1.out _ _ (((HP0.out.below (below_drew _)).below (below_drew _)).below (below_drew _)).ch).1).mono ?_); rintro e wc ⟨rfl, v2, hw2, hc2⟩
           have HPc := Lib.hid ((((HP0.out.below (below_drew _)).below (below_drew _)).below (below_drew _)).write hw2 hc2)
           clear hw2 hc2)
        | (go_at_call 20; (with_reducible refine (num_any _ _).mono ?_); rintro e wn ⟨rfl, rfl⟩))))
  all_goals go_wp2
  all_goals go_ret2
  all_goals first
    | exact ⟨_, _, rfl, HPb.out.wr, (Wch.of_below HAL.out g v).trans HPb.out.ch, own_mono HRwb.out HS1.out⟩
    | exact ⟨_, _, rfl, HPd.out.wr, (Wch.of_below HAL.out g v).trans HPd.out.ch, own_mono HRwd.out HS1.out⟩
end Go.Proofs.Ytmcgagjjgomkeaa
