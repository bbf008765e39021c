/- The writer and the reader that are not there. -/
import Derived.Test.YtmcgagjjgomkeaaKnown3
namespace Go.Proofs.Ytmcgagjjgomkeaa
open Go.RowKit Go.Lib

set_option maxRecDepth 100000 in
theorem W0_Byte (A : Option Addr) (m c : Nat) (W : World) : Calls Try.prog 32 #[.pointer none, .slice A m c] W fun e w' => e = .returned (.int .i64 1) ∧ Below W.heap.size W w' := by
  have HP := Lib.hid putNil_any
  go_enter Try.func32, Try.ntmps32
  go_wp2_with (first
    | (go_at_call 46; (with_reducible refine (HP.out _ _).mono ?_); rintro e w ⟨rfl, rfl⟩))
  go_ret
  exact ⟨rfl, below_alloc W _⟩
set_option maxRecDepth 100000 in
theorem W0_Number (x : Int) (W : World) : Calls Try.prog 21 #[.pointer none, .int .u64 x] W fun e w' => e = .returned (.int .i64 1) ∧ Below W.heap.size W w' := by
  have HP := Lib.hid putNil_any
  go_enter Try.func21, Try.ntmps21
  go_wp2_with (first
    | (go_at_call 46; (with_reducible refine (HP.out _ _).mono ?_); rintro e w ⟨rfl, rfl⟩))
  go_ret
  exact ⟨rfl, below_alloc W _⟩
set_option maxRecDepth 100000 in
theorem W0_Text (s : ByteArray) (W : World) : Calls Try.prog 23 #[.pointer none, .string s] W fun e w' => e = .returned (.int .i64 1) ∧ Below W.heap.size W w' := by
  have HP := Lib.hid putNil_any
  go_enter Try.func23, Try.ntmps23
  go_wp2_with (first
    | (go_at_call 46; (with_reducible refine (HP.out _ _).mono ?_); rintro e w ⟨rfl, rfl⟩))
  go_ret
  exact ⟨rfl, below_alloc W _⟩
set_option maxRecDepth 100000 in
theorem W0_Rising (A : Option Addr) (m c : Nat) (W : World) : Calls Try.prog 25 #[.pointer none, .slice A m c] W fun e w' => e = .returned (.int .i64 1) ∧ Below W.heap.size W w' := by
  have HP := Lib.hid putNil_any
  go_enter Try.func25, Try.ntmps25
  go_wp2_with (first
    | (go_at_call 46; (with_reducible refine (HP.out _ _).mono ?_); rintro e w ⟨rfl, rfl⟩))
  go_ret
  exact ⟨rfl, below_alloc W _⟩
set_option maxRecDepth 100000 in
theorem W0_Signed (x : Int) (h1 : -9223372036854775808 ≤ x) (h2 : x ≤ 9223372036854775807) (W : World) : Calls Try.prog 33 #[.pointer none, .int .i64 x] W fun e w' => e = .returned (.int .i64 1) ∧ Below W.heap.size W w' := by
  have HF := Lib.hid (fold_any x W h1 h2)
  have HN := Lib.hid (W0_Number (zig x) W)
  go_enter Try.func33, Try.ntmps33
  go_wp2_with (first
    | (go_at_call 55; (with_reducible refine HF.out.mono ?_); rintro e w ⟨rfl, rfl⟩)
    | (go_at_call 21; (with_reducible refine HN.out.mono ?_); rintro e w ⟨rfl, hb⟩; have HB := Lib.hid hb; clear hb))
  go_ret
  exact ⟨rfl, HB.out⟩
set_option maxRecDepth 100000 in
theorem W0_Fixed (W : World) : Calls Try.prog 34 #[.pointer none, .int .u32 1] W fun e w' => e = .returned (.int .i64 1) ∧ Below W.heap.size W w' := by
  have HN := Lib.hid W0_Byte
  go_enter Try.func34, Try.ntmps34
  go_wp2_with (first
    | (go_at_call 32; (with_reducible refine (HN.out _ _ _ _).mono ?_); rintro e w ⟨rfl, hb⟩; have HB := Lib.hid hb; clear hb))
  go_ret
  exact ⟨rfl, below_trans (below_alloc W _) HB.out⟩
theorem W0_Len (W : World) : Calls Try.prog 14 #[.pointer none] W fun e w' => e = .returned (.int .i64 0) ∧ W = w' := by
  go_enter Try.func14, Try.ntmps14
  go_wp2
  go_ret
  exact ⟨rfl, rfl⟩
theorem W0_Bytes (W : World) : Calls Try.prog 15 #[.pointer none] W fun e w' => e = .returned (.slice none 0 0) ∧ W = w' := by
  go_enter Try.func15, Try.ntmps15
  go_wp2
  go_ret
  exact ⟨rfl, rfl⟩
set_option maxRecDepth 100000 in
theorem R0_Number (W : World) : Calls Try.prog 19 #[.pointer none] W fun e w' => e = .returned (.tuple #[.int .u64 0, .int .i64 1]) ∧ W = w' := by
  go_enter Try.func19, Try.ntmps19
  go_wp2
  refine wp_scope_two 0 1 (fun _ _ => False) (fun _ _ => False) (fun _ _ => 0) rfl rfl ?_ (fun _ _ h => h.elim) (fun _ _ h => h.elim)
  go_wp2
  rw [jump2_ret]
  go_ret2
  exact ⟨rfl, rfl⟩
set_option maxRecDepth 100000 in
theorem R0_Raw (n : Int) (W : World) : Calls Try.prog 50 #[.pointer none, .int .i64 n] W fun e w' => e = .returned (.tuple #[.slice none 0 0, .int .i64 1]) ∧ W = w' := by
  go_enter Try.func50, Try.ntmps50
  go_wp2
  go_ret2
  exact ⟨rfl, rfl⟩
set_option maxRecDepth 100000 in
theorem R0_Place (W : World) : Calls Try.prog 26 #[.pointer none] W fun e w' => e = .returned (.int .i64 0) ∧ W = w' := by
  go_enter Try.func26, Try.ntmps26
  go_wp2
  go_ret
  exact ⟨rfl, rfl⟩
set_option maxRecDepth 100000 in
theorem R0_Left (W : World) : Calls Try.prog 28 #[.pointer none] W fun e w' => e = .returned (.int .i64 0) ∧ W = w' := by
  go_enter Try.func28, Try.ntmps28
  go_wp2
  go_ret
  exact ⟨rfl, rfl⟩
end Go.Proofs.Ytmcgagjjgomkeaa
