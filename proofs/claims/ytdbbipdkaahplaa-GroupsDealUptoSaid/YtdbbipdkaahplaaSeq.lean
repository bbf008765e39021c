/- The iterator of Stretches: what it hands to a loop's body, and when it ends. -/
import Derived.RangeFuncNested
import Derived.RangeFuncBound
import Derived.RangeFuncCalls
import Derived.RangeFuncLeaves
import Derived.Shelf.Abstract
import Derived.Shelf.RegionOpen
import Derived.OwnWalkIn
import Derived.TacticsInMore
import Derived.LoopNIn
import Derived.LoopIn
import Derived.Test.YtdbbipdkaahplaaWrk
namespace Go.Proofs.Ytdbbipdkaahplaa
open Go.RowKit Go.Shelf
attribute [local go_sem] Oper.semAt_some

theorem wide_fn (f : Nat) : Fence.wide.fn f = True := rfl
theorem wide_depth : Fence.wide.depth.isSome = false := rfl
theorem wide_fn_in (l f : Nat) : (Fence.wide.inRound l).fn f = True := rfl
theorem wide_depth_in (l : Nat) : (Fence.wide.inRound l).depth.isSome = false := rfl
attribute [local go_sem] wide_fn wide_depth wide_fn_in wide_depth_in

/-- What the iterator hands over at its x-th call (x below the number of workers). -/
def strArr (p g : Int) (x : Nat) : Value := .agg #[.int .i64 ((x : Int) * g / p), .int .i64 (((x : Int) + 1) * g / p)]
def strEnc (P : Nat) (g : Int) (x : Nat) : Array Value := #[.int .i64 ((x % P : Nat) : Int), strArr P g (x % P)]

/-- Two blocks stay as they were. -/
def Keep2 (B1 B2 : Nat) (W W' : World) : Prop := W.heap.size ≤ W'.heap.size ∧ W'.heap[B1]? = W.heap[B1]? ∧ W'.heap[B2]? = W.heap[B2]?
theorem Keep2.refl (B1 B2 : Nat) (W : World) : Keep2 B1 B2 W W := ⟨Nat.le_refl _, rfl, rfl⟩
theorem keep2_t {B1 B2 : Nat} {A B C : World} (h : Keep2 B1 B2 A B) (k : Keep2 B1 B2 B C) : Keep2 B1 B2 A C := ⟨Nat.le_trans h.1 k.1, k.2.1.trans h.2.1, k.2.2.trans h.2.2⟩
theorem keep2_of {B1 B2 n : Nat} {A B : World} (h : Below n A B) (h1 : B1 < n) (h2 : B2 < n) : Keep2 B1 B2 A B := ⟨h.size, h.block B1 h1, h.block B2 h2⟩
theorem keep2_b {B1 B2 : Nat} {w : World} (h1 : B1 < w.heap.size) (h2 : B2 < w.heap.size) (W : World) (l : Nat) (o o' : Obj) (hl : w.heap.size ≤ l) (_ : W.heap[l]? = some o) (_ : o.isCells = false) (_ : o.isWalk = false) : Keep2 B1 B2 W (W.putObj l o') :=
  ⟨by simp, World.putObj_heap_other (by omega), World.putObj_heap_other (by omega)⟩
theorem keep2_grown {B1 B2 : Nat} {A B : World} {row : Option Nat} (hg : A.grownBy B row) (h1 : B1 < A.heap.size) (h2 : B2 < A.heap.size) (n1 : some B1 ≠ row) (n2 : some B2 ≠ row) : Keep2 B1 B2 A B := ⟨hg.size, hg.block B1 h1 n1, hg.block B2 h2 n2⟩

theorem below_grown {w w' : World} (h : Below w.heap.size w w') (row : Option Nat) : w.grownBy w' row := ⟨h.os, h.tape, h.output, h.size, fun i hi _ => h.block i hi⟩

theorem range_prefix {k n : Nat} (h : k ≤ n) : List.range k <+: List.range n := by
  have e : List.range k = (List.range n).take k := by rw [List.take_range, Nat.min_eq_left h]
  rw [e]; exact List.take_prefix _ _

/-- Stretches answers a function value that holds two boxes. -/
theorem Stretches_any (p g : Int) (w : World) :
    Calls Try.prog 8 #[.int .i64 p, .int .i64 g] w fun e w' => e = .returned (.func (.func 28) #[] #[.pointer (some ⟨w.heap.size, 0, none⟩), .pointer (some ⟨w.heap.size + 1, 0, none⟩)]) ∧
      (w.alloc (.cells #[.int .i64 p] 3)).alloc (.cells #[.int .i64 g] 3) = w' := by
  go_enter Try.func8, Try.ntmps8
  go_wp2
  go_ret
  exact ⟨rfl, rfl⟩

set_option maxRecDepth 100000 in
set_option maxHeartbeats 1000000 in
theorem seq_no (n : Nat) (l B1 B2 : Nat) (p g : Int) (W : World) (hm : ¬ mayB p g)
    (c1 : W.cell? ⟨B1, 0, none⟩ = some (.int .i64 p)) (c2 : W.cell? ⟨B2, 0, none⟩ = some (.int .i64 g)) :
    CallsIn Fence.wide n Try.prog 28 #[.func (.yield l) #[] #[], .pointer (some ⟨B1, 0, none⟩), .pointer (some ⟨B2, 0, none⟩)] W fun e W' => (∃ v, e = .returned v) ∧ W = W' := by
  have H := Lib.hid hm
  clear hm
  refine callsIn_of_wp Try.func28 rfl trivial ?_ rfl
  simp only [Try.ntmps28, List.size_toArray, List.length_cons, List.length_nil, Nat.reduceAdd, Nat.reduceSub, Array.replicate_succ, Array.replicate_zero, List.push_toArray, List.append_toArray, List.nil_append, List.cons_append]
  gi_wp2_with (gi_at_call 29; refine (callsIn_wide.2 (may_no _ _ _ H.out)).mono ?_; rintro e w' ⟨rfl, rfl⟩)
  refine bodyPost_ret (results_none rfl _ _ _) rfl ?_
  exact ⟨⟨_, rfl⟩, rfl⟩

set_option maxRecDepth 100000 in
set_option maxHeartbeats 1000000 in
theorem seq_yes (n : Nat) (l B1 B2 : Nat) (P : Nat) (g : Int) (J Jx : List Nat → World → Prop) (W : World) (hm : mayB P g) (hJ : AbidesFrom W.heap.size J) (_hJx : AbidesFrom W.heap.size Jx)
    (hY : ∀ pre x W1, J pre W1 → pre.length < P → YieldAt Fence.wide (n - 1) Try.prog l (strEnc P g x) W1 fun e W' =>
      (e = .returned (.bool true) ∧ J (pre ++ [x]) W' ∧ Keep2 B1 B2 W1 W') ∨ (e = .returned (.bool false) ∧ Jx (pre ++ [x]) W'))
    (hB1 : B1 < W.heap.size) (hB2 : B2 < W.heap.size)
    (c1 : W.cell? ⟨B1, 0, none⟩ = some (.int .i64 (P : Int))) (c2 : W.cell? ⟨B2, 0, none⟩ = some (.int .i64 g)) (h0 : J [] W) :
    CallsIn Fence.wide n Try.prog 28 #[.func (.yield l) #[] #[], .pointer (some ⟨B1, 0, none⟩), .pointer (some ⟨B2, 0, none⟩)] W fun e W' => (∃ v, e = .returned v) ∧
      ((∃ xs, xs = List.range P ∧ J xs W') ∨ (∃ pre, pre <+: List.range P ∧ Jx pre W')) := by
  obtain ⟨h1, h2, h3, h4⟩ := id hm
  have H := Lib.hid hm
  have HJ := Lib.hid hJ
  clear hm hJ
  refine callsIn_of_wp Try.func28 rfl trivial ?_ rfl
  simp only [Try.ntmps28, List.size_toArray, List.length_cons, List.length_nil, Nat.reduceAdd, Nat.reduceSub, Array.replicate_succ, Array.replicate_zero, List.push_toArray, List.append_toArray, List.nil_append, List.cons_append]
  gi_wp2_with (gi_at_call 29; refine (callsIn_wide.2 (may_yes _ _ _ H.out)).mono ?_; rintro e w' ⟨rfl, rfl⟩)
  gi_loopw [10] (fun v wr => ∃ k : Nat, v = .int .i64 k ∧ k ≤ P ∧ J (List.range k) wr ∧ Keep2 B1 B2 W wr) (fun v _ => P - (intOf v).toNat)
  case atStart => exact ⟨0, rfl, by omega, h0, Keep2.refl _ _ _⟩
  case round =>
    obtain ⟨k, rfl, hk, hJs, hb⟩ := hrel
    have hb9 := Lib.hid hb
    have d1 := (World.cell?_of_block (a := ⟨B1, 0, none⟩) hb.2.1).trans c1
    have d2 := (World.cell?_of_block (a := ⟨B2, 0, none⟩) hb.2.2).trans c2
    clear hb
    by_cases hlt : k < P
    · have he : strEnc P g k = #[.int .i64 (k : Int), .agg #[.int .i64 ((k : Int) * g / P), .int .i64 (((k : Int) + 1) * g / P)]] := by
        unfold strEnc strArr; rw [Nat.mod_eq_of_lt hlt]
      have HE := Lib.hid he
      clear he
      gi_wp2_with (gi_at_call 30; refine (callsIn_wide.2 (stretch_any _ _ _ _ h3 (by omega) h1 h2 (by omega) (by omega))).mono ?_; rintro e w1 ⟨rfl, hb1⟩; have hJ1 := HJ.out _ _ _ none hJs (below_grown hb1 none) (fun r e => by cases e); obtain ⟨fn, tmps, assign, body, hy, hR⟩ := hY (List.range k) k w1 hJ1 (by simp; omega); rw [HE.out] at hy)
      refine hR.mono ?_
      rintro e W3 (⟨rfl, hJ3, hk3⟩ | ⟨rfl, hJx3⟩)
      · have hb3 : Keep2 B1 B2 W W3 := keep2_t (keep2_t hb9.out (keep2_of hb1 (Nat.lt_of_lt_of_le hB1 hb9.out.1) (Nat.lt_of_lt_of_le hB2 hb9.out.1))) hk3
        gi_wp2
        go_roundw
        case rel => exact ⟨k + 1, by go_num, by omega, by rw [List.range_succ]; exact hJ3, hb3⟩
        case measure => simp [intOf]; omega
      · gi_wp2
        refine bodyPost_ret (results_none rfl _ _ _) rfl ?_
        exact ⟨⟨_, rfl⟩, .inr ⟨List.range k ++ [k], by rw [← List.range_succ]; exact range_prefix (by omega), hJx3⟩⟩
    · have hkP : k = P := by omega
      have HK := Lib.hid hkP
      clear hkP
      gi_wp2
      go_end0
      exact ⟨⟨_, rfl⟩, .inl ⟨List.range k, by rw [HK.out], hJs⟩⟩

/-- The iterator's contract, for the loops over it. -/
theorem seq_stops (n : Nat) (B1 B2 : Nat) (P : Nat) (g : Int) (w : World) (hm : mayB P g) (hB1 : B1 < w.heap.size) (hB2 : B2 < w.heap.size)
    (c1 : w.cell? ⟨B1, 0, none⟩ = some (.int .i64 (P : Int))) (c2 : w.cell? ⟨B2, 0, none⟩ = some (.int .i64 g)) :
    SeqStopsK Fence.wide n Try.prog 28 #[.pointer (some ⟨B1, 0, none⟩), .pointer (some ⟨B2, 0, none⟩)] (strEnc P g) (Keep2 B1 B2) (fun xs => xs = List.range P) (fun pre => pre <+: List.range P) P w :=
  fun l J Jx W hW hJ hJx hY h0 => seq_yes n l B1 B2 P g J Jx W hm hJ hJx hY (Nat.lt_of_lt_of_le hB1 hW.size) (Nat.lt_of_lt_of_le hB2 hW.size) ((hW.cell (p := ⟨B1, 0, none⟩) hB1).trans c1) ((hW.cell (p := ⟨B2, 0, none⟩) hB2).trans c2) h0

theorem seq_none (n : Nat) (B1 B2 : Nat) (p g : Int) (w : World) (hm : ¬ mayB p g) (hB1 : B1 < w.heap.size) (hB2 : B2 < w.heap.size)
    (c1 : w.cell? ⟨B1, 0, none⟩ = some (.int .i64 p)) (c2 : w.cell? ⟨B2, 0, none⟩ = some (.int .i64 g)) :
    SeqStopsK Fence.wide n Try.prog 28 #[.pointer (some ⟨B1, 0, none⟩), .pointer (some ⟨B2, 0, none⟩)] (strEnc 1 g) (Keep2 B1 B2) (fun xs => xs = []) (fun pre => pre = []) 0 w :=
  fun l _ _ W hW _ _ _ h0 => (seq_no n l B1 B2 p g W hm ((hW.cell (p := ⟨B1, 0, none⟩) hB1).trans c1) ((hW.cell (p := ⟨B2, 0, none⟩) hB2).trans c2)).mono fun _ _ ⟨hv, hw⟩ => by
    subst hw; exact ⟨hv, .inl ⟨[], rfl, h0⟩⟩
end Go.Proofs.Ytdbbipdkaahplaa
