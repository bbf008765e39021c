/- The walk of back: what was written is read. -/
import Derived.Test.YtmcgagjjgomkeaaPut5
import Derived.Test.YtmcgagjjgomkeaaPlain2
namespace Go.Proofs.Ytmcgagjjgomkeaa
open Go.RowKit Go.Lib

theorem St.mk' {W w1 w2 : World} {g gr : Nat} {v vr : Value} {bs rs : List UInt8} (hw : Wr w1 W.heap.size g v bs) (hg : W.heap.size ≤ g) (hb1 : Below W.heap.size W w1) (hb2 : Below w1.heap.size w1 w2) (hgr : w1.heap.size ≤ gr) (hr : Rr w2 w1.heap.size gr vr rs 0) : St W w2 g v bs gr vr rs 0 :=
  ⟨⟨hw.below hb2, ⟨hr.blk, own_mono hr.own hb1.size, hr.le⟩, by
    rcases h : vr.ownBlock with _ | q
    · exact .inl rfl
    · refine .inr (fun e => ?_)
      have h1 := (own_lt hr.own h).1
      have h2 := (own_lt hw.own e.symm).2
      omega⟩, hb1.trans (hb2.mono hb1.size), hg, Nat.le_trans hb1.size hgr⟩
set_option maxRecDepth 100000 in
set_option maxHeartbeats 1000000 in
theorem back_1 (W0 w : World) (g gr x : Nat) (v vr : Value) (bs pre post rs b : List UInt8) (l : List Int) (text : ByteArray) (A : Option Addr) (m c : Nat) (A2 : Option Addr) (m2 c2 : Nat) (h : St W0 w g v bs gr vr rs pre.length) (hmax : rs.length ≤ 70368744177664) (hb : Rd W0 (.slice A m c) m (bc b)) (hbm : b.length = m) (hrs : rs = pre ++ (b ++ post)) :
    Calls Try.prog 27 #[.pointer (some ⟨gr, 0, none⟩), .agg (ptv 1 x text A m c A2 m2 c2)] w fun e w' => e = .returned (.bool true) ∧ St W0 w' g v bs gr vr rs (pre.length + (b).length) ∧ w.grownBy w' (some gr) := by
  obtain ⟨w1, hw1⟩ : ∃ w1, w1 = w.alloc (.cells (ptv 1 x text A m c A2 m2 c2) 39) := ⟨_, rfl⟩
  have hal : Below w.heap.size w w1 := by rw [hw1]; exact below_alloc _ _
  have hbx : Bk w1 w.heap.size 39 (ptv 1 x text A m c A2 m2 c2) := by rw [hw1]; exact Bk.new _ _ _
  have hs1 := h.step hal
  have HS1 := Lib.hid hs1
  have HBX := Lib.hid hbx
  have HAL := Lib.hid hal
  have HNB : Hid (∀ t, (some gr : Option Nat) = some t → t ≠ w.heap.size) := fun t e => by cases e; exact hs1.both.rd.blk.ne hbx (by decide)
  have HBK : Hid (∀ w2, w1.grownBy w2 (some gr) → Bk w2 w.heap.size 39 (ptv 1 x text A m c A2 m2 c2)) := fun w2 hg => hbx.grown hg (fun e => HNB.out _ e rfl)
  have y0 : w1.cell? ⟨w.heap.size, 0, none⟩ = some (.int .i64 1) := hbx.cell 0
  have y3 : w1.cell? ⟨w.heap.size, 3, none⟩ = some (.slice A m c) := hbx.cell 3
  have hlr : rs.length = pre.length + (m + post.length) := by rw [hrs]; simp [hbm]
  have hcut : (rs.take (pre.length + m)).drop pre.length = b := by have := cut_mid pre b post; rw [← hrs, hbm] at this; exact this
  have HR := Lib.hid (Raw_ok W0.heap.size gr pre.length m vr rs w1 hs1.both.rd (by omega) (by omega))
  rw [hcut] at HR
  have HB := Lib.hid hb
  have HBM := Lib.hid hbm
  clear hcut
  clear h hal hbx hs1 hrs
  unfold ptv at *
  have HW1 : Hid (_ = w1) := hw1.symm
  clear hw1
  go_enter Try.func27, Try.ntmps27
  go_wp2_with (first
    | (go_at_call 50; rw [HW1.out]; (with_reducible refine HR.out.mono ?_); rintro e w2 ⟨v2, rfl, hr2, hg2, ho2⟩
       obtain ⟨a2, k2, rfl, _, _⟩ := ownsRow_shape ho2
       have hs2 := HS1.out.reads hr2 hg2
       have z3 : w2.cell? ⟨w.heap.size, 3, none⟩ = some (.slice A m c) := (HBK.out w2 hg2).cell 3
       have hsm := Same_any w2 a2 A m m k2 c b b (Rd.of_owns ho2) HBM.out (HB.out.below hs2.bel) HBM.out
       rw [show (b == b) = true from beq_self_eq_true _] at hsm
       have HSM := Lib.hid hsm
       have HS2 := Lib.hid hs2
       have HGR := Lib.hid (only_step (only_of_below HAL.out (some gr)) hg2 (fun b e => by cases e; exact .inl rfl))
       clear hr2 hg2 ho2 hs2 hsm)
    | (go_at_call 20; (with_reducible refine (num_any _ _).mono ?_); rintro e wn ⟨rfl, rfl⟩)
    | (go_at_call 16; (with_reducible refine HSM.out.mono ?_); rintro e wn ⟨rfl, rfl⟩))
  go_ret
  exact ⟨rfl, by rw [HBM.out]; exact HS2.out, HGR.out⟩
set_option maxRecDepth 100000 in
set_option maxHeartbeats 1000000 in
theorem back_2 (W0 w : World) (g gr x : Nat) (v vr : Value) (bs pre post rs b : List UInt8) (l : List Int) (text : ByteArray) (A : Option Addr) (m c : Nat) (A2 : Option Addr) (m2 c2 : Nat) (h : St W0 w g v bs gr vr rs pre.length) (hmax : rs.length ≤ 70368744177664) (hx : x < 18446744073709551616) (hrs : rs = pre ++ (num7 x ++ post)) :
    Calls Try.prog 27 #[.pointer (some ⟨gr, 0, none⟩), .agg (ptv 2 x text A m c A2 m2 c2)] w fun e w' => e = .returned (.bool true) ∧ St W0 w' g v bs gr vr rs (pre.length + (num7 x).length) ∧ w.grownBy w' (some gr) := by
  obtain ⟨w1, hw1⟩ : ∃ w1, w1 = w.alloc (.cells (ptv 2 x text A m c A2 m2 c2) 39) := ⟨_, rfl⟩
  have hal : Below w.heap.size w w1 := by rw [hw1]; exact below_alloc _ _
  have hbx : Bk w1 w.heap.size 39 (ptv 2 x text A m c A2 m2 c2) := by rw [hw1]; exact Bk.new _ _ _
  have hs1 := h.step hal
  have HS1 := Lib.hid hs1
  have HBX := Lib.hid hbx
  have HAL := Lib.hid hal
  have HNB : Hid (∀ t, (some gr : Option Nat) = some t → t ≠ w.heap.size) := fun t e => by cases e; exact hs1.both.rd.blk.ne hbx (by decide)
  have HBK : Hid (∀ w2, w1.grownBy w2 (some gr) → Bk w2 w.heap.size 39 (ptv 2 x text A m c A2 m2 c2)) := fun w2 hg => hbx.grown hg (fun e => HNB.out _ e rfl)
  have y0 : w1.cell? ⟨w.heap.size, 0, none⟩ = some (.int .i64 2) := hbx.cell 0
  have y1 : w1.cell? ⟨w.heap.size, 1, none⟩ = some (.int .u64 (x : Int)) := hbx.cell 1
  have HR := Lib.hid (RNumber_g W0.heap.size gr pre.length vr rs w1 hs1.both.rd)
  have e : rdAt rs pre.length = (x, (num7 x).length, 0) := by rw [hrs]; exact rdAt_num7 pre post x hx
  rw [e] at HR
  clear e
  clear h hal hbx hs1 hrs
  unfold ptv at *
  have HW1 : Hid (_ = w1) := hw1.symm
  clear hw1
  go_enter Try.func27, Try.ntmps27
  go_wp2_with (first
    | (go_at_call 19; rw [HW1.out]; (with_reducible refine HR.out.mono ?_); rintro e w2 ⟨rfl, hr2, hg2⟩
       have z1 : w2.cell? ⟨w.heap.size, 1, none⟩ = some (.int .u64 (x : Int)) := (HBK.out w2 hg2).cell 1
       have HS2 := Lib.hid (HS1.out.reads hr2 hg2)
       have HGR := Lib.hid (only_step (only_of_below HAL.out (some gr)) hg2 (fun b e => by cases e; exact .inl rfl))
       clear hr2 hg2)
    | (go_at_call 20; (with_reducible refine (num_any _ _).mono ?_); rintro e wn ⟨rfl, rfl⟩))
  go_ret
  exact ⟨rfl, HS2.out, HGR.out⟩
set_option maxRecDepth 100000 in
set_option maxHeartbeats 1000000 in
theorem back_3 (W0 w : World) (g gr x : Nat) (v vr : Value) (bs pre post rs b : List UInt8) (l : List Int) (text : ByteArray) (A : Option Addr) (m c : Nat) (A2 : Option Addr) (m2 c2 : Nat) (h : St W0 w g v bs gr vr rs pre.length) (hmax : rs.length ≤ 70368744177664) (hx : x < 18446744073709551616) (hrs : rs = pre ++ (num7 (zig (i64of x)) ++ post)) :
    Calls Try.prog 27 #[.pointer (some ⟨gr, 0, none⟩), .agg (ptv 3 x text A m c A2 m2 c2)] w fun e w' => e = .returned (.bool true) ∧ St W0 w' g v bs gr vr rs (pre.length + (num7 (zig (i64of x))).length) ∧ w.grownBy w' (some gr) := by
  obtain ⟨w1, hw1⟩ : ∃ w1, w1 = w.alloc (.cells (ptv 3 x text A m c A2 m2 c2) 39) := ⟨_, rfl⟩
  have hal : Below w.heap.size w w1 := by rw [hw1]; exact below_alloc _ _
  have hbx : Bk w1 w.heap.size 39 (ptv 3 x text A m c A2 m2 c2) := by rw [hw1]; exact Bk.new _ _ _
  have hs1 := h.step hal
  have HS1 := Lib.hid hs1
  have HBX := Lib.hid hbx
  have HAL := Lib.hid hal
  have HNB : Hid (∀ t, (some gr : Option Nat) = some t → t ≠ w.heap.size) := fun t e => by cases e; exact hs1.both.rd.blk.ne hbx (by decide)
  have HBK : Hid (∀ w2, w1.grownBy w2 (some gr) → Bk w2 w.heap.size 39 (ptv 3 x text A m c A2 m2 c2)) := fun w2 hg => hbx.grown hg (fun e => HNB.out _ e rfl)
  have y0 : w1.cell? ⟨w.heap.size, 0, none⟩ = some (.int .i64 3) := hbx.cell 0
  have y1 : w1.cell? ⟨w.heap.size, 1, none⟩ = some (.int .u64 (x : Int)) := hbx.cell 1
  have HR := Lib.hid (RSigned_g W0.heap.size gr pre.length vr rs w1 hs1.both.rd)
  have e : rdAt rs pre.length = (zig (i64of x), (num7 (zig (i64of x))).length, 0) := by rw [hrs]; exact rdAt_num7 pre post _ (zig_lt (i64of_I64 hx).1 (i64of_I64 hx).2)
  have e2 : sgAt rs pre.length = i64of x := by unfold sgAt; rw [e]; exact unz_zig _
  rw [e2, e] at HR
  have hwx : IntKind.i64.wrap (x : Int) = i64of x := i64of_wrap hx
  have hwx2 : wrap64 (x : Int) = i64of x := by unfold wrap64 i64of; split <;> omega
  clear e e2
  generalize num7 (zig (i64of x)) = F at *
  clear h hal hbx hs1 hrs
  unfold ptv at *
  have HW1 : Hid (_ = w1) := hw1.symm
  clear hw1
  go_enter Try.func27, Try.ntmps27
  go_wp2_with (first
    | (go_at_call 56; rw [HW1.out]; (with_reducible refine HR.out.mono ?_); rintro e w2 ⟨rfl, hr2, hg2⟩
       have z1 : w2.cell? ⟨w.heap.size, 1, none⟩ = some (.int .u64 (x : Int)) := (HBK.out w2 hg2).cell 1
       have HS2 := Lib.hid (HS1.out.reads hr2 hg2)
       have HGR := Lib.hid (only_step (only_of_below HAL.out (some gr)) hg2 (fun b e => by cases e; exact .inl rfl))
       clear hr2 hg2)
    | (go_at_call 20; (with_reducible refine (num_any _ _).mono ?_); rintro e wn ⟨rfl, rfl⟩))
  go_ret
  exact ⟨rfl, HS2.out, HGR.out⟩
set_option maxRecDepth 100000 in
set_option maxHeartbeats 1000000 in
theorem back_4 (W0 w : World) (g gr x : Nat) (v vr : Value) (bs pre post rs b : List UInt8) (l : List Int) (text : ByteArray) (A : Option Addr) (m c : Nat) (A2 : Option Addr) (m2 c2 : Nat) (h : St W0 w g v bs gr vr rs pre.length) (hmax : rs.length ≤ 70368744177664) (hx : text.size < 18446744073709551616) (hx2 : text.size ≤ 1099511627776) (hrs : rs = pre ++ ((num7 text.size ++ text.data.toList) ++ post)) :
    Calls Try.prog 27 #[.pointer (some ⟨gr, 0, none⟩), .agg (ptv 4 x text A m c A2 m2 c2)] w fun e w' => e = .returned (.bool true) ∧ St W0 w' g v bs gr vr rs (pre.length + ((num7 text.size ++ text.data.toList)).length) ∧ w.grownBy w' (some gr) := by
  obtain ⟨w1, hw1⟩ : ∃ w1, w1 = w.alloc (.cells (ptv 4 x text A m c A2 m2 c2) 39) := ⟨_, rfl⟩
  have hal : Below w.heap.size w w1 := by rw [hw1]; exact below_alloc _ _
  have hbx : Bk w1 w.heap.size 39 (ptv 4 x text A m c A2 m2 c2) := by rw [hw1]; exact Bk.new _ _ _
  have hs1 := h.step hal
  have HS1 := Lib.hid hs1
  have HBX := Lib.hid hbx
  have HAL := Lib.hid hal
  have HNB : Hid (∀ t, (some gr : Option Nat) = some t → t ≠ w.heap.size) := fun t e => by cases e; exact hs1.both.rd.blk.ne hbx (by decide)
  have HBK : Hid (∀ w2, w1.grownBy w2 (some gr) → Bk w2 w.heap.size 39 (ptv 4 x text A m c A2 m2 c2)) := fun w2 hg => hbx.grown hg (fun e => HNB.out _ e rfl)
  have y0 : w1.cell? ⟨w.heap.size, 0, none⟩ = some (.int .i64 4) := hbx.cell 0
  have y2 : w1.cell? ⟨w.heap.size, 2, none⟩ = some (.string text) := hbx.cell 2
  obtain ⟨t1, t2, t3⟩ := text_back pre post text text.size (Nat.le_refl _) hx
  rw [← hrs] at t1 t2 t3
  have HR := Lib.hid (Text_ok W0.heap.size gr pre.length text.size vr rs w1 hs1.both.rd (by omega) (by omega) t1)
  rw [t2] at HR
  rw [show (cut rs (pre.length + (text.size, (num7 text.size).length, 0).2.1) (text.size, (num7 text.size).length, 0).1) = cut rs (pre.length + (num7 text.size).length) text.size from rfl, t3] at HR
  have HL : Hid (pre.length + (num7 text.size).length + text.size = pre.length + (num7 text.size ++ text.data.toList).length) := by show _ = _; rw [List.length_append, Nat.add_assoc]; simp
  clear t1 t2 t3
  clear h hal hbx hs1 hrs
  unfold ptv at *
  have HW1 : Hid (_ = w1) := hw1.symm
  clear hw1
  go_enter Try.func27, Try.ntmps27
  go_wp2_with (first
    | (go_at_call 22; rw [HW1.out]; (with_reducible refine HR.out.mono ?_); rintro e w2 ⟨rfl, hr2, hg2⟩
       have z2 : w2.cell? ⟨w.heap.size, 2, none⟩ = some (.string text) := (HBK.out w2 hg2).cell 2
       have HS2 := Lib.hid (HS1.out.reads hr2 hg2)
       have HGR := Lib.hid (only_step (only_of_below HAL.out (some gr)) hg2 (fun b e => by cases e; exact .inl rfl))
       clear hr2 hg2)
    | (go_at_call 20; (with_reducible refine (num_any _ _).mono ?_); rintro e wn ⟨rfl, rfl⟩))
  go_ret
  exact ⟨rfl, by rw [← HL.out]; exact HS2.out, HGR.out⟩
set_option maxRecDepth 100000 in
set_option maxHeartbeats 1000000 in
theorem back_5 (W0 w : World) (g gr x : Nat) (v vr : Value) (bs pre post rs b : List UInt8) (l : List Int) (text : ByteArray) (A : Option Addr) (m c : Nat) (A2 : Option Addr) (m2 c2 : Nat) (h : St W0 w g v bs gr vr rs pre.length) (hmax : rs.length ≤ 70368744177664) (y : Nat) (hx : x % 4294967296 = y) (hrs : rs = pre ++ (fix4 y ++ post)) :
    Calls Try.prog 27 #[.pointer (some ⟨gr, 0, none⟩), .agg (ptv 5 x text A m c A2 m2 c2)] w fun e w' => e = .returned (.bool true) ∧ St W0 w' g v bs gr vr rs (pre.length + (fix4 y).length) ∧ w.grownBy w' (some gr) := by
  obtain ⟨w1, hw1⟩ : ∃ w1, w1 = w.alloc (.cells (ptv 5 x text A m c A2 m2 c2) 39) := ⟨_, rfl⟩
  have hal : Below w.heap.size w w1 := by rw [hw1]; exact below_alloc _ _
  have hbx : Bk w1 w.heap.size 39 (ptv 5 x text A m c A2 m2 c2) := by rw [hw1]; exact Bk.new _ _ _
  have hs1 := h.step hal
  have HS1 := Lib.hid hs1
  have HBX := Lib.hid hbx
  have HAL := Lib.hid hal
  have HNB : Hid (∀ t, (some gr : Option Nat) = some t → t ≠ w.heap.size) := fun t e => by cases e; exact hs1.both.rd.blk.ne hbx (by decide)
  have HBK : Hid (∀ w2, w1.grownBy w2 (some gr) → Bk w2 w.heap.size 39 (ptv 5 x text A m c A2 m2 c2)) := fun w2 hg => hbx.grown hg (fun e => HNB.out _ e rfl)
  have y0 : w1.cell? ⟨w.heap.size, 0, none⟩ = some (.int .i64 5) := hbx.cell 0
  have y1 : w1.cell? ⟨w.heap.size, 1, none⟩ = some (.int .u64 (x : Int)) := hbx.cell 1
  have hlr : rs.length = pre.length + (4 + post.length) := by rw [hrs]; simp [fix4]; omega
  have hcut : (rs.take (pre.length + 4)).drop pre.length = fix4 y := by have := cut_mid pre (fix4 y) post; rw [← hrs] at this; exact this
  have HR := Lib.hid (RFixed_ok W0.heap.size gr pre.length _ _ _ _ vr rs w1 hs1.both.rd hcut (by omega) (by omega))
  rw [fix4_back y (by omega)] at HR
  have hwx : IntKind.u32.wrap (x : Int) = (y : Int) := by rw [IntKind.wrap_u32]; omega
  have hwx2 : (x : Int) % 4294967296 = (y : Int) := by omega
  clear hcut
  clear h hal hbx hs1 hrs
  unfold ptv at *
  have HW1 : Hid (_ = w1) := hw1.symm
  clear hw1
  go_enter Try.func27, Try.ntmps27
  go_wp2_with (first
    | (go_at_call 57; rw [HW1.out]; (with_reducible refine HR.out.mono ?_); rintro e w2 ⟨rfl, hr2, hg2⟩
       have z1 : w2.cell? ⟨w.heap.size, 1, none⟩ = some (.int .u64 (x : Int)) := (HBK.out w2 hg2).cell 1
       have HS2 := Lib.hid (HS1.out.reads hr2 hg2)
       have HGR := Lib.hid (only_step (only_of_below HAL.out (some gr)) hg2 (fun b e => by cases e; exact .inl rfl))
       clear hr2 hg2)
    | (go_at_call 20; (with_reducible refine (num_any _ _).mono ?_); rintro e wn ⟨rfl, rfl⟩))
  go_ret
  exact ⟨rfl, HS2.out, HGR.out⟩
set_option maxRecDepth 100000 in
set_option maxHeartbeats 1000000 in
theorem back_6 (W0 w : World) (g gr x : Nat) (v vr : Value) (bs pre post rs b : List UInt8) (l : List Int) (text : ByteArray) (A : Option Addr) (m c : Nat) (A2 : Option Addr) (m2 c2 : Nat) (h : St W0 w g v bs gr vr rs pre.length) (hmax : rs.length ≤ 70368744177664) (hl : Rd W0 (.slice A2 m2 c2) m2 (ic l)) (hlm : l.length = m2) (hI : ∀ a ∈ l, I64 a) (hR : Rises l) (hx2 : m2 ≤ 1099511627776) (hrs : rs = pre ++ (ris l ++ post)) :
    Calls Try.prog 27 #[.pointer (some ⟨gr, 0, none⟩), .agg (ptv 6 x text A m c A2 m2 c2)] w fun e w' => e = .returned (.bool true) ∧ St W0 w' g v bs gr vr rs (pre.length + (ris l).length) ∧ w.grownBy w' (some gr) := by
  obtain ⟨w1, hw1⟩ : ∃ w1, w1 = w.alloc (.cells (ptv 6 x text A m c A2 m2 c2) 39) := ⟨_, rfl⟩
  have hal : Below w.heap.size w w1 := by rw [hw1]; exact below_alloc _ _
  have hbx : Bk w1 w.heap.size 39 (ptv 6 x text A m c A2 m2 c2) := by rw [hw1]; exact Bk.new _ _ _
  have hs1 := h.step hal
  have HS1 := Lib.hid hs1
  have HBX := Lib.hid hbx
  have HAL := Lib.hid hal
  have HNB : Hid (∀ t, (some gr : Option Nat) = some t → t ≠ w.heap.size) := fun t e => by cases e; exact hs1.both.rd.blk.ne hbx (by decide)
  have HBK : Hid (∀ w2, w1.grownBy w2 (some gr) → Bk w2 w.heap.size 39 (ptv 6 x text A m c A2 m2 c2)) := fun w2 hg => hbx.grown hg (fun e => HNB.out _ e rfl)
  have y0 : w1.cell? ⟨w.heap.size, 0, none⟩ = some (.int .i64 6) := hbx.cell 0
  have y4 : w1.cell? ⟨w.heap.size, 4, none⟩ = some (.slice A2 m2 c2) := hbx.cell 4
  obtain ⟨t1, t2, t3⟩ := ris_back pre post l m2 hI hR (by omega) (by omega)
  rw [← hrs] at t1 t2 t3
  have HR := Lib.hid (RRising_ok W0.heap.size gr pre.length m2 vr rs w1 hs1.both.rd (by omega) (.inl hx2) t1)
  rw [t2] at HR
  rw [show rgL rs (l.length, (num7 l.length).length, 0).1 (pre.length + (l.length, (num7 l.length).length, 0).2.1) [] = rgL rs l.length (pre.length + (num7 l.length).length) [] from rfl, t3] at HR
  have HL := Lib.hid hl
  have HLM := Lib.hid hlm
  clear t1 t2 t3
  clear h hal hbx hs1 hrs
  unfold ptv at *
  have HW1 : Hid (_ = w1) := hw1.symm
  clear hw1
  go_enter Try.func27, Try.ntmps27
  go_wp2_with (first
    | (go_at_call 24; rw [HW1.out]; (with_reducible refine HR.out.mono ?_); rintro e w2 ⟨v2, rfl, ho2, hr2, hg2⟩
       have ho3 : w2.ownsRow w1.heap.size 2 1 v2 m2 (ic l) := by have h := ho2; rw [show ((l, pre.length + (ris l).length, 0) : List Int × Nat × Nat).1 = l from rfl, HLM.out] at h; exact h
       obtain ⟨a2, k2, rfl, _, _⟩ := ownsRow_shape ho3
       have hs2 := HS1.out.reads hr2 hg2
       have z4 : w2.cell? ⟨w.heap.size, 4, none⟩ = some (.slice A2 m2 c2) := (HBK.out w2 hg2).cell 4
       have HSM := Lib.hid (SameList_any a2 A2 m2 k2 c2 l w2 (Rd.of_owns ho3) (HL.out.below hs2.bel) HLM.out)
       have HS2 := Lib.hid hs2
       have HGR := Lib.hid (only_step (only_of_below HAL.out (some gr)) hg2 (fun b e => by cases e; exact .inl rfl))
       clear hr2 hg2 ho2 hs2 ho3)
    | (go_at_call 20; (with_reducible refine (num_any _ _).mono ?_); rintro e wn ⟨rfl, rfl⟩)
    | (go_at_call 58; (with_reducible refine HSM.out.mono ?_); rintro e w3 ⟨rfl, hb3⟩; have HB3 := Lib.hid hb3; clear hb3))
  go_ret
  exact ⟨rfl, HS2.out.step HB3.out, only_step HGR.out (below_grown HB3.out none) (fun b e => by cases e)⟩
theorem back_any (W0 w : World) (g gr : Nat) (v vr vp : Value) (bs pre post rs : List UInt8) (p : Pt) (h : St W0 w g v bs gr vr rs pre.length) (hmax : rs.length ≤ 70368744177664) (hp : Pv W0 p vp) (hne : p.form ≠ []) (hrs : rs = pre ++ (p.form ++ post)) :
    Calls Try.prog 27 #[.pointer (some ⟨gr, 0, none⟩), vp] w fun e w' => e = .returned (.bool true) ∧ St W0 w' g v bs gr vr rs (pre.length + p.form.length) ∧ w.grownBy w' (some gr) := by
  obtain ⟨A, c, A2, c2, rfl, hb, hl, hI, hx, hs⟩ := hp
  unfold Pt.size at hs
  by_cases k1 : p.kind = 1
  · have hF : p.form = p.b := by unfold Pt.form; rw [if_pos k1]
    rw [hF] at hrs ⊢
    rw [k1]
    exact back_1 W0 w g gr p.x v vr bs pre post rs p.b p.l p.text A _ c A2 _ c2 h hmax hb rfl hrs
  by_cases k2 : p.kind = 2
  · have hF : p.form = num7 p.x := by unfold Pt.form; rw [if_neg k1, if_pos k2]
    rw [hF] at hrs ⊢
    rw [k2]
    exact back_2 W0 w g gr p.x v vr bs pre post rs p.b p.l p.text A _ c A2 _ c2 h hmax hx hrs
  by_cases k3 : p.kind = 3
  · have hF : p.form = num7 (zig (i64of p.x)) := by unfold Pt.form; rw [if_neg k1, if_neg k2, if_pos k3]
    rw [hF] at hrs ⊢
    rw [k3]
    exact back_3 W0 w g gr p.x v vr bs pre post rs p.b p.l p.text A _ c A2 _ c2 h hmax hx hrs
  by_cases k4 : p.kind = 4
  · have hF : p.form = num7 p.text.size ++ p.text.data.toList := by unfold Pt.form; rw [if_neg k1, if_neg k2, if_neg k3, if_pos k4]
    rw [hF] at hrs ⊢
    rw [k4]
    exact back_4 W0 w g gr p.x v vr bs pre post rs p.b p.l p.text A _ c A2 _ c2 h hmax (by omega) (by omega) hrs
  by_cases k5 : p.kind = 5
  · have hF : p.form = fix4 (p.x % 4294967296) := by unfold Pt.form; rw [if_neg k1, if_neg k2, if_neg k3, if_neg k4, if_pos k5]
    rw [hF] at hrs ⊢
    rw [k5]
    exact back_5 W0 w g gr p.x v vr bs pre post rs p.b p.l p.text A _ c A2 _ c2 h hmax _ rfl hrs
  by_cases k6 : p.kind = 6
  · by_cases hR : Rises p.l
    · have hF : p.form = ris p.l := by unfold Pt.form; rw [if_neg k1, if_neg k2, if_neg k3, if_neg k4, if_neg k5, if_pos k6, if_pos hR]
      rw [hF] at hrs ⊢
      rw [k6]
      exact back_6 W0 w g gr p.x v vr bs pre post rs p.b p.l p.text A _ c A2 _ c2 h hmax hl rfl hI hR (by omega) hrs
    · exact absurd (by unfold Pt.form; rw [if_neg k1, if_neg k2, if_neg k3, if_neg k4, if_neg k5, if_pos k6, if_neg hR]) hne
  · exact absurd (by unfold Pt.form; rw [if_neg k1, if_neg k2, if_neg k3, if_neg k4, if_neg k5, if_neg k6]) hne
end Go.Proofs.Ytmcgagjjgomkeaa
