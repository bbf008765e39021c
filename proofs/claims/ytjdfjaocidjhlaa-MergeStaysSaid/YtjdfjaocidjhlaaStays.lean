/- The walk of the law MergeStays. -/
import Derived.Test.YtjdfjaocidjhlaaSpl2
import Derived.Test.YtjdfjaocidjhlaaJlaw
import Derived.Laws.StructEq
namespace Go.Proofs.Ytjdfjaocidjhlaa
open Go.RowKit

set_option maxRecDepth 100000 in
/-- Whether two windows are one, run. -/
theorem weq_run (x y : Wn) : ∃ q : Bool, (∀ W : World, (binOp .eql 43 (.agg #[.int .i64 x.s, .int .i64 x.e, .int .i64 x.h, .int .i64 x.c, .int .i64 x.u, .int .i64 x.lo, .int .i64 x.hi, .int .i64 x.si, .int .i64 x.pa]) (.agg #[.int .i64 y.s, .int .i64 y.e, .int .i64 y.h, .int .i64 y.c, .int .i64 y.u, .int .i64 y.lo, .int .i64 y.hi, .int .i64 y.si, .int .i64 y.pa])).run Try.prog W = .ok (.bool q) W) ∧ (x = y → q = true) := by
  refine ⟨(x.s == y.s) && (x.e == y.e) && (x.h == y.h) && (x.c == y.c) && (x.u == y.u) && (x.lo == y.lo) && (x.hi == y.hi) && (x.si == y.si) && (x.pa == y.pa), fun W => ?_, fun h => by subst h; simp⟩
  cases h0 : (x.s == y.s) <;> cases h1 : (x.e == y.e) <;> first | (go_simp; done) | skip
  all_goals (cases h2 : (x.h == y.h) <;> first | (go_simp; done) | skip)
  all_goals (cases h3 : (x.c == y.c) <;> first | (go_simp; done) | skip)
  all_goals (cases h4 : (x.u == y.u) <;> first | (go_simp; done) | skip)
  all_goals (cases h5 : (x.lo == y.lo) <;> first | (go_simp; done) | skip)
  all_goals (cases h6 : (x.hi == y.hi) <;> first | (go_simp; done) | skip)
  all_goals (cases h7 : (x.si == y.si) <;> first | (go_simp; done) | skip)
  all_goals (cases h8 : (x.pa == y.pa) <;> first | (go_simp; done) | skip)

theorem joinW_there {l : List Wn} {S E W H : Int} {i : Nat} {x : Wn} (hap : Ap l) (hse : S < E) (hx : l[i]? = some x) (hi : i < frm l S ∨ too l E ≤ i) : ∃ k, k ≠ frm l S ∧ (joinW l S E W H)[k]? = some x := by
  have h1 := frm_too hap hse
  have h2 := too_le l E
  have hil := (List.getElem?_eq_some_iff.1 hx).1
  have la : (l.take (frm l S)).length = frm l S := by simp; omega
  rcases hi with hi | hi
  · refine ⟨i, by omega, ?_⟩
    unfold joinW
    rw [List.append_assoc, List.getElem?_append_left (by omega), List.getElem?_take_of_lt hi]
    exact hx
  · refine ⟨frm l S + 1 + (i - too l E), by omega, ?_⟩
    unfold joinW
    rw [List.getElem?_append_right (by rw [List.length_append, la]; simp <;> omega), List.length_append, la, List.getElem?_drop]
    rw [show too l E + (frm l S + 1 + (i - too l E) - (frm l S + [jn S E W H (midW l S E)].length)) = i by simp only [List.length_cons, List.length_nil] <;> omega]
    exact hx

/-- What stays while the law goes on. -/
structure MSt (w W : World) (v : Value) (l : List Wn) (S1 E1 W1 H1 S2 E2 W2 H2 : Int) : Prop where
  below : Below w.heap.size w W
  rw : Rw W v l
  b1 : Bk W w.heap.size 26 #[.int .i64 S1, .int .i64 E1, .int .i64 W1, .int .i64 H1]
  b2 : Bk W (w.heap.size + 1) 26 #[.int .i64 S2, .int .i64 E2, .int .i64 W2, .int .i64 H2]
theorem MSt.next {w W W' : World} {v : Value} {l : List Wn} {S1 E1 W1 H1 S2 E2 W2 H2 : Int} (h : MSt w W v l S1 E1 W1 H1 S2 E2 W2 H2) (hb : Below W.heap.size W W') : MSt w W' v l S1 E1 W1 H1 S2 E2 W2 H2 :=
  ⟨h.below.trans (hb.mono h.below.size), h.rw.below hb, h.b1.below hb, h.b2.below hb⟩
theorem mst_start {w : World} {v : Value} {l : List Wn} {S1 E1 W1 H1 S2 E2 W2 H2 : Int} (hr : Rw w v l) : MSt w ((w.alloc (.cells #[.int .i64 S1, .int .i64 E1, .int .i64 W1, .int .i64 H1] 26)).alloc (.cells #[.int .i64 S2, .int .i64 E2, .int .i64 W2, .int .i64 H2] 26)) v l S1 E1 W1 H1 S2 E2 W2 H2 :=
  have hb : Below w.heap.size w ((w.alloc (.cells #[.int .i64 S1, .int .i64 E1, .int .i64 W1, .int .i64 H1] 26)).alloc (.cells #[.int .i64 S2, .int .i64 E2, .int .i64 W2, .int .i64 H2] 26)) := (below_alloc _ _).alloc (by simp) _
  ⟨hb, hr.below hb, (Bk.new w _ _).alloc _, Bk.new' _ _ _ _ (by simp)⟩

set_option maxRecDepth 100000 in
set_option maxHeartbeats 1000000 in
theorem mergeStays_long (n : Nat) (a : Option Addr) (cap : Nat) (l : List Wn) (S1 E1 W1 H1 S2 E2 W2 H2 : Int) (w : World) (hr : Rw w (.slice a n cap) l) (hcap : cap ≤ maxLen) (hn : n ≤ cap) (hlen : 100 < n) :
    Calls Try.prog 4 #[.slice a n cap, .agg #[.int .i64 S1, .int .i64 E1, .int .i64 W1, .int .i64 H1], .agg #[.int .i64 S2, .int .i64 E2, .int .i64 W2, .int .i64 H2]] w fun e w' => e = .returned (.bool true) ∧ Below w.heap.size w w' := by
  unfold maxLen at hcap
  have hln : decide ((100 : Int) < (n : Int)) = true := by simp; omega
  have HM := Lib.hid (mst_start (S1 := S1) (E1 := E1) (W1 := W1) (H1 := H1) (S2 := S2) (E2 := E2) (W2 := W2) (H2 := H2) hr)
  clear hr
  go_enter Try.func4, Try.ntmps4
  go_wp2_with (first
    | (go_at_call 7; (with_reducible refine (known_any _).mono ?_); rintro e w1 ⟨rfl, hb1⟩))
  go_ret
  exact ⟨rfl, HM.out.below.trans (hb1.mono HM.out.below.size)⟩

set_option maxRecDepth 100000 in
set_option maxHeartbeats 1000000 in
theorem mergeStays_bad (n : Nat) (a : Option Addr) (cap : Nat) (l : List Wn) (S1 E1 W1 H1 S2 E2 W2 H2 : Int) (w : World) (hr : Rw w (.slice a n cap) l) (hlen : n ≤ 100) (hno : ¬ (Ap l ∧ S1 < E1)) :
    Calls Try.prog 4 #[.slice a n cap, .agg #[.int .i64 S1, .int .i64 E1, .int .i64 W1, .int .i64 H1], .agg #[.int .i64 S2, .int .i64 E2, .int .i64 W2, .int .i64 H2]] w fun e w' => e = .returned (.bool true) ∧ Below w.heap.size w w' := by
  have hln : decide ((100 : Int) < (n : Int)) = false := by simp; omega
  have HM := Lib.hid (mst_start (S1 := S1) (E1 := E1) (W1 := W1) (H1 := H1) (S2 := S2) (E2 := E2) (W2 := W2) (H2 := H2) hr)
  have HJ1 : Hid (∀ W, Rw W (.slice a n cap) l → Calls Try.prog 11 #[.slice a n cap, .agg #[.int .i64 S1, .int .i64 E1], .int .i64 W1, .int .i64 H1] W fun e w' => e = .returned (.tuple #[.slice none 0 0, .int .i64 0, .int .i64 190]) ∧ Below W.heap.size W w') := fun W h => Join_no _ l S1 E1 W1 H1 W h hno
  clear hr hno
  go_enter Try.func4, Try.ntmps4
  go_wp2_with (first
    | (go_at_call 11; (with_reducible refine (HJ1.out _ HM.out.rw).mono ?_); rintro e w1 ⟨rfl, hb1⟩; have HM1 := Lib.hid (HM.out.next hb1); clear hb1)
    | (go_at_call 7; (with_reducible refine (known_any _).mono ?_); rintro e w2 ⟨rfl, hb2⟩))
  go_ret
  exact ⟨rfl, HM1.out.below.trans (hb2.mono HM1.out.below.size)⟩
end Go.Proofs.Ytjdfjaocidjhlaa
