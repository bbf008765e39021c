/- A window's fields, written one by one. -/
import Derived.Test.YtaechgnjdjijkaaFld
import Derived.Test.YtaechgnjdjijkaaWr3
import Derived.StillTailTactics
import Derived.Deep.QuietTactic
import Derived.BigQuiet
namespace Go.Proofs.Ytaechgnjdjijkaa
open Go.RowKit Go.Lib

/-- A function of the program that answers where a field is. -/
structure Gets (f : FuncId) (q o p : Nat) : Prop where
  ent : ∀ args w, (callFunc f args).run Try.prog w = .ok (.enter f args) w
  get : ∀ w, Calls Try.prog f #[.pointer (some ⟨q, o, none⟩)] w fun e w' => e = .returned (.pointer (some ⟨q, p, none⟩)) ∧ w = w'

theorem gets0 (q o : Nat) : Gets 79 q o (o) := ⟨fun args w => by kernel_rfl, fun w => by
  go_enter Try.func79, Try.ntmps79
  go_wp2
  go_ret
  exact ⟨rfl, rfl⟩⟩
theorem gets2 (q o : Nat) : Gets 85 q o (o + 2) := ⟨fun args w => by kernel_rfl, fun w => by
  go_enter Try.func85, Try.ntmps85
  go_wp2
  go_ret
  exact ⟨rfl, rfl⟩⟩
theorem gets3 (q o : Nat) : Gets 87 q o (o + 3) := ⟨fun args w => by kernel_rfl, fun w => by
  go_enter Try.func87, Try.ntmps87
  go_wp2
  go_ret
  exact ⟨rfl, rfl⟩⟩
theorem gets4 (q o : Nat) : Gets 88 q o (o + 4) := ⟨fun args w => by kernel_rfl, fun w => by
  go_enter Try.func88, Try.ntmps88
  go_wp2
  go_ret
  exact ⟨rfl, rfl⟩⟩
theorem gets5 (q o : Nat) : Gets 89 q o (o + 5) := ⟨fun args w => by kernel_rfl, fun w => by
  go_enter Try.func89, Try.ntmps89
  go_wp2
  go_ret
  exact ⟨rfl, rfl⟩⟩
theorem gets6 (q o : Nat) : Gets 90 q o (o + 6) := ⟨fun args w => by kernel_rfl, fun w => by
  go_enter Try.func90, Try.ntmps90
  go_wp2
  go_ret
  exact ⟨rfl, rfl⟩⟩
theorem gets7 (q o : Nat) : Gets 91 q o (o + 7) := ⟨fun args w => by kernel_rfl, fun w => by
  go_enter Try.func91, Try.ntmps91
  go_wp2
  go_ret
  exact ⟨rfl, rfl⟩⟩
theorem gets8 (q o : Nat) : Gets 92 q o (o + 8) := ⟨fun args w => by kernel_rfl, fun w => by
  go_enter Try.func92, Try.ntmps92
  go_wp2
  go_ret
  exact ⟨rfl, rfl⟩⟩

section
variable {B g q o p b : Nat} {v : Value} {bs : List UInt8} {W : World}
set_option maxRecDepth 100000 in
theorem signedPut (f : FuncId) (val : Int) (last : Value) (hg : Gets f q o p) (hcell : W.cell? ⟨q, p, none⟩ = some (.int .i64 val))
    (hfl : Bk W b 139 #[.func (.func f) #[] #[]]) (hw : Wr W B g v bs) (hB : B ≤ W.heap.size) (hv : In64 val) (hn : bs.length + 20 ≤ 140737488355328) :
    Calls Try.prog 98 #[.pointer (some ⟨g, 0, none⟩), .pointer (some ⟨q, o, none⟩), last, .pointer (some ⟨b, 0, none⟩)] W fun e w' => e = .returned (.tuple #[]) ∧ ∃ v', Wr w' B g v' (bs ++ num7 (zig val)) ∧ Wch W w' g v v' := by
  have HS := Lib.hid (Signed_any B g val v bs W hw hB hv.1 hv.2 hn)
  have HG := Lib.hid hg.get
  have hcf := hg.ent
  have z0 : W.cell? ⟨b, 0, none⟩ = some (.func (.func f) #[] #[]) := hfl.cell 0
  clear hg hfl hw hv
  go_enter Try.func98, Try.ntmps98
  go_wp2_with (first
    | (go_at_call 99; (with_reducible refine HS.out.mono ?_); rintro e w1 ⟨rfl, v', hw', hc'⟩; have HW' := Lib.hid hw'; have HC' := Lib.hid hc'; clear hw' hc')
    | ((with_reducible refine (HG.out _).mono ?_); rintro e w1 ⟨rfl, rfl⟩))
  go_end0
  exact ⟨rfl, v', HW'.out, HC'.out⟩
set_option maxRecDepth 100000 in
theorem countPut (f : FuncId) (val : Nat) (last : Value) (hg : Gets f q o p) (hcell : W.cell? ⟨q, p, none⟩ = some (.int .i64 (val : Int)))
    (hfl : Bk W b 139 #[.func (.func f) #[] #[]]) (hw : Wr W B g v bs) (hB : B ≤ W.heap.size) (hv : val ≤ 9007199254740992) (hn : bs.length + 20 ≤ 140737488355328) :
    Calls Try.prog 102 #[.pointer (some ⟨g, 0, none⟩), .pointer (some ⟨q, o, none⟩), last, .pointer (some ⟨b, 0, none⟩)] W fun e w' => e = .returned (.tuple #[]) ∧ ∃ v', Wr w' B g v' (bs ++ num7 val) ∧ Wch W w' g v v' := by
  have HS := Lib.hid (Number_any B g val v bs W hw hB (by omega) hn)
  have HG := Lib.hid hg.get
  have hcf := hg.ent
  have z0 : W.cell? ⟨b, 0, none⟩ = some (.func (.func f) #[] #[]) := hfl.cell 0
  clear hg hfl hw
  go_enter Try.func102, Try.ntmps102
  go_wp2_with (first
    | (go_at_call 77; (with_reducible refine HS.out.mono ?_); rintro e w1 ⟨rfl, v', hw', hc'⟩; have HW' := Lib.hid hw'; have HC' := Lib.hid hc'; clear hw' hc')
    | ((with_reducible refine (HG.out _).mono ?_); rintro e w1 ⟨rfl, rfl⟩))
  go_end0
  exact ⟨rfl, v', HW'.out, HC'.out⟩
set_option maxRecDepth 100000 in
theorem startPut0 (c : Nat → Nat) (val : Int) (hcell : W.cell? ⟨q, o, none⟩ = some (.int .i64 val))
    (hf : Flds W c) (hw : Wr W B g v bs) (hB : B ≤ W.heap.size) (hv : In64 val) (hn : bs.length + 20 ≤ 140737488355328) :
    Calls Try.prog 80 #[.pointer (some ⟨g, 0, none⟩), .pointer (some ⟨q, o, none⟩), .pointer none, .pointer (some ⟨c 0, 0, none⟩)] W fun e w' => e = .returned (.tuple #[]) ∧ ∃ v', Wr w' B g v' (bs ++ num7 (zig val)) ∧ Wch W w' g v v' := by
  have HS := Lib.hid (signedPut 79 val (.pointer none) (gets0 q o) hcell hf.s0 hw hB hv hn)
  have z0 : W.cell? ⟨c 0, 0, none⟩ = some (.func (.func 98) #[] #[.pointer (some ⟨c 1, 0, none⟩)]) := hf.f0.cell 0
  generalize c 0 = c0 at *
  generalize c 1 = c1 at *
  clear hf hw hv hcell
  go_enter Try.func80, Try.ntmps80
  go_wp2_with (first
    | (go_at_call 98; (with_reducible refine HS.out.mono ?_); rintro e w1 ⟨rfl, v', hw', hc'⟩; have HW' := Lib.hid hw'; have HC' := Lib.hid hc'; clear hw' hc'))
  first | go_end0 | refine bodyPost_ret (results_none rfl _ _ _) rfl ?_
  exact ⟨rfl, v', HW'.out, HC'.out⟩
set_option maxRecDepth 100000 in
theorem startPut1 (cap : Value) (q2 o2 : Nat) (xs ys : Int) (hcell : W.cell? ⟨q, o, none⟩ = some (.int .i64 xs)) (hcell2 : W.cell? ⟨q2, o2, none⟩ = some (.int .i64 ys))
    (hw : Wr W B g v bs) (hB : B ≤ W.heap.size) (hx : In64 xs) (hy : In64 ys) (hle : ys ≤ xs) (hn : bs.length + 20 ≤ 140737488355328) :
    Calls Try.prog 80 #[.pointer (some ⟨g, 0, none⟩), .pointer (some ⟨q, o, none⟩), .pointer (some ⟨q2, o2, none⟩), cap] W fun e w' => e = .returned (.tuple #[]) ∧ ∃ v', Wr w' B g v' (bs ++ num7 (xs - ys).toNat) ∧ Wch W w' g v v' := by
  have hx1 := hx.1
  have hx2 := hx.2
  have hy1 := hy.1
  have hy2 := hy.2
  have hz : IntKind.u64.wrap (IntKind.u64.wrap xs - IntKind.u64.wrap ys) = (((xs - ys).toNat : Nat) : Int) := by
    rw [IntKind.wrap_u64, IntKind.wrap_u64, IntKind.wrap_u64]; omega
  have HS : Hid (∀ w, Below W.heap.size W w → Calls Try.prog 77 #[.pointer (some ⟨g, 0, none⟩), .int .u64 (((xs - ys).toNat : Nat) : Int)] w fun e w' => e = .returned (.int .i64 0) ∧ ∃ v', Wr w' B g v' (bs ++ num7 (xs - ys).toNat) ∧ Wch w w' g v v') := Lib.hid fun w hb => by
    exact Number_any B g _ v bs w (hw.below hb) (Nat.le_trans hB hb.size) (by omega) hn
  clear hw hx hy
  generalize (xs - ys).toNat = d at *
  go_enter Try.func80, Try.ntmps80
  go_wp2_with fail
  go_still_tail 14, (by kernel_rfl)
  change wpList _ _ _ _ _ W.drew
  go_wp2_with (first
    | (go_at_call 77; (with_reducible refine (HS.out _ (below_drew W)).mono ?_); rintro e w1 ⟨rfl, v', hw', hc'⟩; have HW' := Lib.hid hw'; have HC' := Lib.hid hc'; clear hw' hc'))
  go_end0
  exact ⟨rfl, v', HW'.out, (Wch.of_below (below_drew W) g v).trans HC'.out⟩
set_option maxRecDepth 100000 in
theorem endPut (last : Value) (xs xe : Int) (hcell : W.cell? ⟨q, o, none⟩ = some (.int .i64 xs)) (hcell2 : W.cell? ⟨q, o + 1, none⟩ = some (.int .i64 xe))
    (hw : Wr W B g v bs) (hB : B ≤ W.heap.size) (hx : In64 xs) (hy : In64 xe) (hlt : xs < xe) (hn : bs.length + 20 ≤ 140737488355328) :
    Calls Try.prog 83 #[.pointer (some ⟨g, 0, none⟩), .pointer (some ⟨q, o, none⟩), last] W fun e w' => e = .returned (.tuple #[]) ∧ ∃ v', Wr w' B g v' (bs ++ num7 (xe - xs - 1).toNat) ∧ Wch W w' g v v' := by
  have hx1 := hx.1
  have hx2 := hx.2
  have hy1 := hy.1
  have hy2 := hy.2
  have hz : IntKind.u64.wrap (IntKind.u64.wrap (IntKind.u64.wrap xe - IntKind.u64.wrap xs) - 1) = (((xe - xs - 1).toNat : Nat) : Int) := by
    rw [IntKind.wrap_u64, IntKind.wrap_u64, IntKind.wrap_u64, IntKind.wrap_u64]; omega
  have HS : Hid (∀ w, Below W.heap.size W w → Calls Try.prog 77 #[.pointer (some ⟨g, 0, none⟩), .int .u64 (((xe - xs - 1).toNat : Nat) : Int)] w fun e w' => e = .returned (.int .i64 0) ∧ ∃ v', Wr w' B g v' (bs ++ num7 (xe - xs - 1).toNat) ∧ Wch w w' g v v') := Lib.hid fun w hb => by
    exact Number_any B g _ v bs w (hw.below hb) (Nat.le_trans hB hb.size) (by omega) hn
  clear hw hx hy
  generalize (xe - xs - 1).toNat = d at *
  go_enter Try.func83, Try.ntmps83
  go_wp2_with fail
  go_still_tail 15, (by kernel_rfl)
  change wpList _ _ _ _ _ W.drew
  go_wp2_with (first
    | (go_at_call 77; (with_reducible refine (HS.out _ (below_drew W)).mono ?_); rintro e w1 ⟨rfl, v', hw', hc'⟩; have HW' := Lib.hid hw'; have HC' := Lib.hid hc'; clear hw' hc'))
  go_end0
  exact ⟨rfl, v', HW'.out, (Wch.of_below (below_drew W) g v).trans HC'.out⟩
end
end Go.Proofs.Ytaechgnjdjijkaa
