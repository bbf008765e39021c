/- The walk of asks, by kind. -/
import Derived.Test.YtmcgagjjgomkeaaAsk1
namespace Go.Proofs.Ytmcgagjjgomkeaa
open Go.RowKit Go.Lib

section
variable {W0 w : World} {g d : Nat} {v : Value} {A : Option Addr} {m cap : Nat} {bs : List UInt8} {at_ : Nat}
/-- What a question leaves. -/
def AskD (W0 : World) (g d : Nat) (v : Value) (A : Option Addr) (m cap : Nat) (bs : List UInt8) (e : Ending) (w' : World) : Prop := e = .returned (.bool true) ∧ ∃ c, Tw W0 w' g d v A m cap bs c c
set_option maxRecDepth 100000 in
set_option maxHeartbeats 1000000 in
theorem asks_1 (n : Int) (h : Tw W0 w g d v A m cap bs at_ at_) (hm : bs.length ≤ 1099511627776) :
    Calls Try.prog 30 #[.pointer (some ⟨g, 0, none⟩), .pointer (some ⟨d, 0, none⟩), .agg #[.int .i64 1, .int .i64 n]] w (AskD W0 g d v A m cap bs) := by
  obtain ⟨w1, hw1⟩ : ∃ w1, w1 = w.alloc (.cells #[.int .i64 1, .int .i64 n] 67) := ⟨_, rfl⟩
  have hal : Below w.heap.size w w1 := by rw [hw1]; exact below_alloc _ _
  have hbx : Bk w1 w.heap.size 67 #[.int .i64 1, .int .i64 n] := by rw [hw1]; exact Bk.new _ _ _
  have ht := h.below hal
  have HT := Lib.hid ht
  have HBX := Lib.hid hbx
  have y0 : w1.cell? ⟨w.heap.size, 0, none⟩ = some (.int .i64 1) := hbx.cell 0
  have y1 : w1.cell? ⟨w.heap.size, 1, none⟩ = some (.int .i64 n) := hbx.cell 1
  have HK : Hid (∀ w2, w1.grownBy w2 (some g) → w2.cell? ⟨w.heap.size, 1, none⟩ = some (.int .i64 n)) := fun w2 hg => (hbx.grown hg (fun e => by cases e; exact ht.r.blk.ne hbx (by decide) rfl)).cell 1
  obtain ⟨x, E, c, hr, hd⟩ := pair_Byte (W0 := W0) (g := g) (d := d) (v := v) (A := A) (cap := cap) (bs := bs) (at_ := at_) ht.d.le ht.d.len (by omega)
  have HR := Lib.hid (hr w1 ht.r)
  have HD := Lib.hid hd
  clear hr hd
  clear h hal hbx ht
  have HW1 : Hid (_ = w1) := hw1.symm
  clear hw1
  go_enter Try.func30, Try.ntmps30
  go_wp2_with (first
    | (go_at_call 59; rw [HW1.out]; (with_reducible refine HR.out.mono ?_); rintro e w2 ⟨rfl, hr2, hg2⟩
       have HT2 := Lib.hid (HT.out.rs hr2 hg2)
       clear hr2 hg2)
    | (go_at_call 60; (with_reducible refine (HD.out _ HT2.out.d).mono ?_); rintro e w3 ⟨rfl, hd3, hg3⟩
       have HT3 := Lib.hid (HT2.out.ds hd3 hg3)
       clear hd3 hg3)
    | (go_at_call 20; (with_reducible refine (num_any _ _).mono ?_); rintro e wn ⟨rfl, rfl⟩))
  go_ret
  exact ⟨rfl, c, HT3.out⟩
set_option maxRecDepth 100000 in
set_option maxHeartbeats 1000000 in
theorem asks_2 (n : Int) (h : Tw W0 w g d v A m cap bs at_ at_) (hm : bs.length ≤ 1099511627776) :
    Calls Try.prog 30 #[.pointer (some ⟨g, 0, none⟩), .pointer (some ⟨d, 0, none⟩), .agg #[.int .i64 2, .int .i64 n]] w (AskD W0 g d v A m cap bs) := by
  obtain ⟨w1, hw1⟩ : ∃ w1, w1 = w.alloc (.cells #[.int .i64 2, .int .i64 n] 67) := ⟨_, rfl⟩
  have hal : Below w.heap.size w w1 := by rw [hw1]; exact below_alloc _ _
  have hbx : Bk w1 w.heap.size 67 #[.int .i64 2, .int .i64 n] := by rw [hw1]; exact Bk.new _ _ _
  have ht := h.below hal
  have HT := Lib.hid ht
  have HBX := Lib.hid hbx
  have y0 : w1.cell? ⟨w.heap.size, 0, none⟩ = some (.int .i64 2) := hbx.cell 0
  have y1 : w1.cell? ⟨w.heap.size, 1, none⟩ = some (.int .i64 n) := hbx.cell 1
  have HK : Hid (∀ w2, w1.grownBy w2 (some g) → w2.cell? ⟨w.heap.size, 1, none⟩ = some (.int .i64 n)) := fun w2 hg => (hbx.grown hg (fun e => by cases e; exact ht.r.blk.ne hbx (by decide) rfl)).cell 1
  obtain ⟨x, E, c, hr, hd⟩ := pair_Number (W0 := W0) (g := g) (d := d) (v := v) (A := A) (m := m) (cap := cap) (bs := bs) (at_ := at_)
  have HR := Lib.hid (hr w1 ht.r)
  have HD := Lib.hid hd
  clear hr hd
  clear h hal hbx ht
  have HW1 : Hid (_ = w1) := hw1.symm
  clear hw1
  go_enter Try.func30, Try.ntmps30
  go_wp2_with (first
    | (go_at_call 19; rw [HW1.out]; (with_reducible refine HR.out.mono ?_); rintro e w2 ⟨rfl, hr2, hg2⟩
       have HT2 := Lib.hid (HT.out.rs hr2 hg2)
       clear hr2 hg2)
    | (go_at_call 61; (with_reducible refine (HD.out _ HT2.out.d).mono ?_); rintro e w3 ⟨rfl, hd3, hg3⟩
       have HT3 := Lib.hid (HT2.out.ds hd3 hg3)
       clear hd3 hg3)
    | (go_at_call 20; (with_reducible refine (num_any _ _).mono ?_); rintro e wn ⟨rfl, rfl⟩))
  go_ret
  exact ⟨rfl, c, HT3.out⟩
set_option maxRecDepth 100000 in
set_option maxHeartbeats 1000000 in
theorem asks_3 (n : Int) (h : Tw W0 w g d v A m cap bs at_ at_) (hm : bs.length ≤ 1099511627776) :
    Calls Try.prog 30 #[.pointer (some ⟨g, 0, none⟩), .pointer (some ⟨d, 0, none⟩), .agg #[.int .i64 3, .int .i64 n]] w (AskD W0 g d v A m cap bs) := by
  obtain ⟨w1, hw1⟩ : ∃ w1, w1 = w.alloc (.cells #[.int .i64 3, .int .i64 n] 67) := ⟨_, rfl⟩
  have hal : Below w.heap.size w w1 := by rw [hw1]; exact below_alloc _ _
  have hbx : Bk w1 w.heap.size 67 #[.int .i64 3, .int .i64 n] := by rw [hw1]; exact Bk.new _ _ _
  have ht := h.below hal
  have HT := Lib.hid ht
  have HBX := Lib.hid hbx
  have y0 : w1.cell? ⟨w.heap.size, 0, none⟩ = some (.int .i64 3) := hbx.cell 0
  have y1 : w1.cell? ⟨w.heap.size, 1, none⟩ = some (.int .i64 n) := hbx.cell 1
  have HK : Hid (∀ w2, w1.grownBy w2 (some g) → w2.cell? ⟨w.heap.size, 1, none⟩ = some (.int .i64 n)) := fun w2 hg => (hbx.grown hg (fun e => by cases e; exact ht.r.blk.ne hbx (by decide) rfl)).cell 1
  obtain ⟨x, E, c, hr, hd⟩ := pair_Signed (W0 := W0) (g := g) (d := d) (v := v) (A := A) (m := m) (cap := cap) (bs := bs) (at_ := at_)
  have HR := Lib.hid (hr w1 ht.r)
  have HD := Lib.hid hd
  clear hr hd
  clear h hal hbx ht
  have HW1 : Hid (_ = w1) := hw1.symm
  clear hw1
  go_enter Try.func30, Try.ntmps30
  go_wp2_with (first
    | (go_at_call 56; rw [HW1.out]; (with_reducible refine HR.out.mono ?_); rintro e w2 ⟨rfl, hr2, hg2⟩
       have HT2 := Lib.hid (HT.out.rs hr2 hg2)
       clear hr2 hg2)
    | (go_at_call 62; (with_reducible refine (HD.out _ HT2.out.d).mono ?_); rintro e w3 ⟨rfl, hd3, hg3⟩
       have HT3 := Lib.hid (HT2.out.ds hd3 hg3)
       clear hd3 hg3)
    | (go_at_call 20; (with_reducible refine (num_any _ _).mono ?_); rintro e wn ⟨rfl, rfl⟩))
  go_ret
  exact ⟨rfl, c, HT3.out⟩
set_option maxRecDepth 100000 in
set_option maxHeartbeats 1000000 in
theorem asks_4 (n : Int) (h : Tw W0 w g d v A m cap bs at_ at_) (hm : bs.length ≤ 1099511627776) (hn : n ≤ 9223372036854775807) :
    Calls Try.prog 30 #[.pointer (some ⟨g, 0, none⟩), .pointer (some ⟨d, 0, none⟩), .agg #[.int .i64 4, .int .i64 n]] w (AskD W0 g d v A m cap bs) := by
  obtain ⟨w1, hw1⟩ : ∃ w1, w1 = w.alloc (.cells #[.int .i64 4, .int .i64 n] 67) := ⟨_, rfl⟩
  have hal : Below w.heap.size w w1 := by rw [hw1]; exact below_alloc _ _
  have hbx : Bk w1 w.heap.size 67 #[.int .i64 4, .int .i64 n] := by rw [hw1]; exact Bk.new _ _ _
  have ht := h.below hal
  have HT := Lib.hid ht
  have HBX := Lib.hid hbx
  have y0 : w1.cell? ⟨w.heap.size, 0, none⟩ = some (.int .i64 4) := hbx.cell 0
  have y1 : w1.cell? ⟨w.heap.size, 1, none⟩ = some (.int .i64 n) := hbx.cell 1
  have HK : Hid (∀ w2, w1.grownBy w2 (some g) → w2.cell? ⟨w.heap.size, 1, none⟩ = some (.int .i64 n)) := fun w2 hg => (hbx.grown hg (fun e => by cases e; exact ht.r.blk.ne hbx (by decide) rfl)).cell 1
  obtain ⟨x, E, c, hr, hd⟩ := pair_Text (W0 := W0) (g := g) (d := d) (v := v) (A := A) (m := m) (cap := cap) (bs := bs) (at_ := at_) n hn (by omega)
  have HR := Lib.hid (hr w1 ht.r)
  have HD := Lib.hid hd
  clear hr hd
  clear h hal hbx ht
  have HW1 : Hid (_ = w1) := hw1.symm
  clear hw1
  go_enter Try.func30, Try.ntmps30
  go_wp2_with (first
    | (go_at_call 22; rw [HW1.out]; (with_reducible refine HR.out.mono ?_); rintro e w2 ⟨rfl, hr2, hg2⟩
       have y2 := HK.out _ hg2
       have HT2 := Lib.hid (HT.out.rs hr2 hg2)
       clear hr2 hg2)
    | (go_at_call 63; (with_reducible refine (HD.out _ HT2.out.d).mono ?_); rintro e w3 ⟨rfl, hd3, hg3⟩
       have HT3 := Lib.hid (HT2.out.ds hd3 hg3)
       clear hd3 hg3)
    | (go_at_call 20; (with_reducible refine (num_any _ _).mono ?_); rintro e wn ⟨rfl, rfl⟩))
  go_ret
  exact ⟨rfl, c, HT3.out⟩
set_option maxRecDepth 100000 in
set_option maxHeartbeats 1000000 in
theorem asks_5 (n : Int) (h : Tw W0 w g d v A m cap bs at_ at_) (hm : bs.length ≤ 1099511627776) :
    Calls Try.prog 30 #[.pointer (some ⟨g, 0, none⟩), .pointer (some ⟨d, 0, none⟩), .agg #[.int .i64 5, .int .i64 n]] w (AskD W0 g d v A m cap bs) := by
  obtain ⟨w1, hw1⟩ : ∃ w1, w1 = w.alloc (.cells #[.int .i64 5, .int .i64 n] 67) := ⟨_, rfl⟩
  have hal : Below w.heap.size w w1 := by rw [hw1]; exact below_alloc _ _
  have hbx : Bk w1 w.heap.size 67 #[.int .i64 5, .int .i64 n] := by rw [hw1]; exact Bk.new _ _ _
  have ht := h.below hal
  have HT := Lib.hid ht
  have HBX := Lib.hid hbx
  have y0 : w1.cell? ⟨w.heap.size, 0, none⟩ = some (.int .i64 5) := hbx.cell 0
  have y1 : w1.cell? ⟨w.heap.size, 1, none⟩ = some (.int .i64 n) := hbx.cell 1
  have HK : Hid (∀ w2, w1.grownBy w2 (some g) → w2.cell? ⟨w.heap.size, 1, none⟩ = some (.int .i64 n)) := fun w2 hg => (hbx.grown hg (fun e => by cases e; exact ht.r.blk.ne hbx (by decide) rfl)).cell 1
  obtain ⟨x, E, c, hr, hd⟩ := pair_Fixed (W0 := W0) (g := g) (d := d) (v := v) (A := A) (cap := cap) (bs := bs) (at_ := at_) ht.d.le ht.d.len (by omega)
  have HR := Lib.hid (hr w1 ht.r)
  have HD := Lib.hid hd
  clear hr hd
  clear h hal hbx ht
  have HW1 : Hid (_ = w1) := hw1.symm
  clear hw1
  go_enter Try.func30, Try.ntmps30
  go_wp2_with (first
    | (go_at_call 57; rw [HW1.out]; (with_reducible refine HR.out.mono ?_); rintro e w2 ⟨rfl, hr2, hg2⟩
       have HT2 := Lib.hid (HT.out.rs hr2 hg2)
       clear hr2 hg2)
    | (go_at_call 64; (with_reducible refine (HD.out _ HT2.out.d).mono ?_); rintro e w3 ⟨rfl, hd3, hg3⟩
       have HT3 := Lib.hid (HT2.out.ds hd3 hg3)
       clear hd3 hg3)
    | (go_at_call 20; (with_reducible refine (num_any _ _).mono ?_); rintro e wn ⟨rfl, rfl⟩))
  go_ret
  exact ⟨rfl, c, HT3.out⟩
set_option maxRecDepth 100000 in
set_option maxHeartbeats 1000000 in
theorem asks_6 (n : Int) (h : Tw W0 w g d v A m cap bs at_ at_) (hm : bs.length ≤ 1099511627776) (hn : n ≤ 9223372036854775807) :
    Calls Try.prog 30 #[.pointer (some ⟨g, 0, none⟩), .pointer (some ⟨d, 0, none⟩), .agg #[.int .i64 6, .int .i64 n]] w (AskD W0 g d v A m cap bs) := by
  obtain ⟨w1, hw1⟩ : ∃ w1, w1 = w.alloc (.cells #[.int .i64 6, .int .i64 n] 67) := ⟨_, rfl⟩
  have hal : Below w.heap.size w w1 := by rw [hw1]; exact below_alloc _ _
  have hbx : Bk w1 w.heap.size 67 #[.int .i64 6, .int .i64 n] := by rw [hw1]; exact Bk.new _ _ _
  have ht := h.below hal
  have HT := Lib.hid ht
  have HBX := Lib.hid hbx
  have y0 : w1.cell? ⟨w.heap.size, 0, none⟩ = some (.int .i64 6) := hbx.cell 0
  have y1 : w1.cell? ⟨w.heap.size, 1, none⟩ = some (.int .i64 n) := hbx.cell 1
  have HK : Hid (∀ w2, w1.grownBy w2 (some g) → w2.cell? ⟨w.heap.size, 1, none⟩ = some (.int .i64 n)) := fun w2 hg => (hbx.grown hg (fun e => by cases e; exact ht.r.blk.ne hbx (by decide) rfl)).cell 1
  obtain ⟨l, E, c, hr, hd⟩ := pair_Rising (W0 := W0) (g := g) (d := d) (v := v) (A := A) (m := m) (cap := cap) (bs := bs) (at_ := at_) n hn hm
  have HR := Lib.hid (hr w1 ht.r)
  have HD := Lib.hid hd
  have HZ : Hid (w.heap.size ≤ w1.heap.size) := hal.size
  clear hr hd
  clear h hal hbx ht
  have HW1 : Hid (_ = w1) := hw1.symm
  clear hw1
  obtain ⟨L, hL⟩ : ∃ L, l.length = L := ⟨_, rfl⟩
  rw [hL] at HR HD
  have HL := Lib.hid hL
  clear hL
  go_enter Try.func30, Try.ntmps30
  go_wp2_with (first
    | (go_at_call 24; rw [HW1.out]; (with_reducible refine HR.out.mono ?_); rintro e w2 ⟨q, rfl, ho2, hr2, hg2⟩
       have y2 := HK.out _ hg2
       obtain ⟨qa, qc, rfl, hqc, hqm⟩ := ownsRow_shape ho2
       unfold maxLen at hqm
       have HO2 := Lib.hid ho2
       have HT2 := Lib.hid (HT.out.rs hr2 hg2)
       clear hr2 hg2 ho2)
    | (go_at_call 65; (with_reducible refine (HD.out _ HT2.out.d).mono ?_); rintro e w3 ⟨q3, rfl, ho3, hd3, hg3⟩
       have HO4 := Lib.hid (HO2.out.kept hg3 (.inr (own_bk_ne HO2.out HT2.out.d.blk (by decide))))
       obtain ⟨qa3, qc3, rfl, _, _⟩ := ownsRow_shape ho3
       have HT3 := Lib.hid (HT2.out.ds hd3 hg3)
       have HSM := Lib.hid (SameList_any qa qa3 L qc qc3 l w3 (Rd.of_owns HO4.out) (Rd.of_owns ho3) HL.out)
       clear hd3 hg3 ho3)
    | (go_at_call 58; (with_reducible refine HSM.out.mono ?_); rintro e w4 ⟨rfl, hb4⟩
       have HT4 := Lib.hid (HT3.out.below hb4)
       have HO5 := Lib.hid (own_below HO4.out hb4)
       clear hb4)
    | (go_at_call 20; (with_reducible refine (num_any _ _).mono ?_); rintro e wn ⟨rfl, rfl⟩))
  go_loopw [32] (fun i w6 => ∃ (k0 : Nat) (xs : List Value), i = .int .i64 k0 ∧ k0 ≤ L ∧ w6.ownsRow w1.heap.size 2 1 (.slice qa L qc) L xs ∧ Below w1.heap.size w4 w6) (fun i _ => L - (intOf i).toNat)
  case atStart => exact ⟨0, _, rfl, Nat.zero_le _, HO5.out, Below.refl _ _⟩
  case round =>
    obtain ⟨k0, xs, rfl, hk0, hox, hbw⟩ := hrel
    have HX := Lib.hid hox
    have HBW := Lib.hid hbw
    by_cases hkk : k0 < L
    · obtain ⟨qx, hqx, hqz, _, _, _, hcells, hfr⟩ := ownsRow_at hox (by omega)
      obtain ⟨u0, hu0⟩ := ownsRow_cell hox (j := k0) (by omega)
      subst hqx
      have zk : wr.cell? ⟨qx, k0, none⟩ = some u0 := hcells k0 u0 hu0
      have fk := hfr k0
      have HQZ := Lib.hid hqz
      clear hox hbw hcells hfr hu0
      go_wp2
      go_roundw
      case rel => exact ⟨k0 + 1, _, by go_num, by omega, ownsRow_set HX.out _, HBW.out.setCell (p := ⟨qx, k0, none⟩) HQZ.out _⟩
      case measure => simp [intOf]; omega
    · obtain rfl : k0 = L := by omega
      clear hox hbw
      go_wp2
      go_ret
      exact ⟨rfl, c, HT.out.later HT4.out HBW.out⟩
set_option maxRecDepth 100000 in
set_option maxHeartbeats 1000000 in
theorem asks_7 (n : Int) (h : Tw W0 w g d v A m cap bs at_ at_) (hm : bs.length ≤ 1099511627776) :
    Calls Try.prog 30 #[.pointer (some ⟨g, 0, none⟩), .pointer (some ⟨d, 0, none⟩), .agg #[.int .i64 7, .int .i64 n]] w (AskD W0 g d v A m cap bs) := by
  obtain ⟨w1, hw1⟩ : ∃ w1, w1 = w.alloc (.cells #[.int .i64 7, .int .i64 n] 67) := ⟨_, rfl⟩
  have hal : Below w.heap.size w w1 := by rw [hw1]; exact below_alloc _ _
  have hbx : Bk w1 w.heap.size 67 #[.int .i64 7, .int .i64 n] := by rw [hw1]; exact Bk.new _ _ _
  have ht := h.below hal
  have HT := Lib.hid ht
  have HBX := Lib.hid hbx
  have y0 : w1.cell? ⟨w.heap.size, 0, none⟩ = some (.int .i64 7) := hbx.cell 0
  have y1 : w1.cell? ⟨w.heap.size, 1, none⟩ = some (.int .i64 n) := hbx.cell 1
  have HK : Hid (∀ w2, w1.grownBy w2 (some g) → w2.cell? ⟨w.heap.size, 1, none⟩ = some (.int .i64 n)) := fun w2 hg => (hbx.grown hg (fun e => by cases e; exact ht.r.blk.ne hbx (by decide) rfl)).cell 1
  obtain ⟨l, E, c, hlb, hr, hd⟩ := pair_Raw (W0 := W0) (g := g) (d := d) (v := v) (A := A) (cap := cap) (bs := bs) (at_ := at_) n ht.d.le ht.d.len (by omega)
  have HR := Lib.hid (hr w1 ht.r)
  have HD := Lib.hid hd
  clear hr hd
  clear h hal hbx ht
  have HW1 : Hid (_ = w1) := hw1.symm
  clear hw1
  obtain ⟨L, hL⟩ : ∃ L, l.length = L := ⟨_, rfl⟩
  rw [hL] at HR HD hlb
  have hL9 : L ≤ 1099511627776 := by omega
  have HL := Lib.hid hL
  obtain ⟨i0, hi0, hz0, hz1, hz2⟩ := info_parts u8Info
  clear hL hlb
  go_enter Try.func30, Try.ntmps30
  go_wp2_with (first
    | (go_at_call 50; rw [HW1.out]; (with_reducible refine HR.out.mono ?_); rintro e w2 ⟨q, rfl, ho2, hr2, hg2⟩
       have y2 := HK.out _ hg2
       obtain ⟨qa, qc, rfl, hqc, hqm⟩ := ownsRow_shape ho2
       unfold maxLen at hqm
       have HO2 := Lib.hid ho2
       have HT2 := Lib.hid (HT.out.rs hr2 hg2)
       have HZ2 := Lib.hid hg2.size
       clear hr2 hg2 ho2)
    | (go_at_call 66; (with_reducible refine (HD.out _ HT2.out.d).mono ?_); rintro e w3 ⟨A3, c3, rfl, hrd3, hd3, hg3⟩
       have HO4 := Lib.hid (HO2.out.kept hg3 (.inr (own_bk_ne HO2.out HT2.out.d.blk (by decide))))
       have HT3 := Lib.hid (HT2.out.ds hd3 hg3)
       have hsm := Same_any w3 qa A3 L L qc c3 l l (Rd.of_owns HO4.out) HL.out (hrd3.below HT3.out.d.bel) HL.out
       rw [show (l == l) = true from beq_self_eq_true _] at hsm
       have HSM := Lib.hid hsm
       have HZ3 : Hid (w1.heap.size ≤ w3.heap.size) := Nat.le_trans HZ2.out hg3.size
       clear hd3 hg3 hrd3 hsm)
    | (go_at_call 16; (with_reducible refine HSM.out.mono ?_); rintro e w4 ⟨rfl, rfl⟩)
    | (go_at_call 20; (with_reducible refine (num_any _ _).mono ?_); rintro e wn ⟨rfl, rfl⟩))
  go_loopw [38] (fun i w6 => ∃ (k0 : Nat) (xs : List Value), i = .int .i64 k0 ∧ k0 ≤ L ∧ w6.ownsRow w1.heap.size 5 1 (.slice qa L qc) L xs ∧ Below w1.heap.size w3 w6) (fun i _ => L - (intOf i).toNat)
  case atStart => exact ⟨0, _, rfl, Nat.zero_le _, HO4.out, Below.refl _ _⟩
  case round =>
    obtain ⟨k0, xs, rfl, hk0, hox, hbw⟩ := hrel
    have HX := Lib.hid hox
    have HBW := Lib.hid hbw
    by_cases hkk : k0 < L
    · obtain ⟨qx, hqx, hqz, _, _, _, hcells, hfr⟩ := ownsRow_at hox (by omega)
      obtain ⟨u0, hu0⟩ := ownsRow_cell hox (j := k0) (by omega)
      subst hqx
      have zk : wr.cell? ⟨qx, k0, none⟩ = some u0 := hcells k0 u0 hu0
      have fk := hfr k0
      have HQZ := Lib.hid hqz
      clear hox hbw hcells hfr hu0
      go_wp2
      go_roundw
      case rel => exact ⟨k0 + 1, _, by go_num, by omega, ownsRow_set HX.out _, HBW.out.setCell (p := ⟨qx, k0, none⟩) HQZ.out _⟩
      case measure => simp [intOf]; omega
    · obtain rfl : k0 = L := by omega
      clear hox hbw
      generalize wr = w6 at *
      go_wp2
      go_loopw [33, 39] (fun x i w7 => ∃ (i0 : Nat) (xs : List Value), i = .int .i64 i0 ∧ i0 ≤ 9 ∧ w7.ownsRow w1.heap.size 5 1 x (k0 + i0) xs ∧ Below w1.heap.size w3 w7) (fun _ i _ => 9 - (intOf i).toNat)
      case atStart => exact ⟨0, xs, rfl, by decide, HX.out, HBW.out⟩
      case round =>
        generalize wr = w7 at *
        obtain ⟨i1, xs1, rfl, hi1, hox, hbw⟩ := hrel
        obtain ⟨xa, xc, rfl, _, hxm⟩ := ownsRow_shape hox
        have HX1 := Lib.hid hox
        have HBW1 := Lib.hid hbw
        by_cases hi9 : i1 < 9
        · have HRD := Lib.hid (rd_lit8 w7 #[.int .u8 99] 1 [99] (by decide) rfl rfl)
          have HXA := Lib.hid (hox.alloc (.cells #[.int .u8 99] 5))
          have HBA := Lib.hid (hbw.alloc (Nat.le_trans HZ3.out hbw.size) (.cells #[.int .u8 99] 5))
          have HSZ : Hid (w1.heap.size ≤ (w7.alloc (.cells #[.int .u8 99] 5)).heap.size) := Nat.le_trans HZ3.out HBA.out.size
          clear hox hbw
          go_wp2_with (first
            | (at_builtin; refine wpList_append_rd _ rfl (.tmp 224) (.tmp 225) 29 rfl w1.heap.size 5 i0 _ 1 1 Try.underlying29 hi0 hz0 hz1 hz2 rfl (by decide) _ (k0 + i1) _ rfl HXA.out (some ⟨w7.heap.size, 0, none⟩) 1 1 (bc [99]) rfl rfl HRD.out (bc_one _) (by simp only [maxLen]; omega) (by omega) HSZ.out ?_; intro v8 w8 ho8 hg8 hat8
               have hb8 := HBA.out.grown hg8 HSZ.out (fun r e => (own_lt HXA.out e).1)
               have HO8 := Lib.hid ho8
               have HB8 := Lib.hid hb8
               obtain ⟨a8, c8, rfl, _, _⟩ := ownsRow_shape ho8
               clear ho8 hg8 hat8 hb8))
          go_roundw
          case rel => exact ⟨i1 + 1, _, by go_num, by omega, by rw [← Nat.add_assoc]; exact HO8.out, HB8.out⟩
          case measure => simp [intOf]; omega
        · obtain rfl : i1 = 9 := by omega
          clear hox hbw
          go_wp2
          go_ret
          exact ⟨ret_bool (decide_eq_true (by omega)), c, HT.out.later HT3.out HBW1.out⟩
end
end Go.Proofs.Ytmcgagjjgomkeaa
