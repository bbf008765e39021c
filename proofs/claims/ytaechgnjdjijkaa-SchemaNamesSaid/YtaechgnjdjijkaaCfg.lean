/- A job: config.within, Wrong, Check. -/
import Derived.Test.YtaechgnjdjijkaaRow
import Derived.Deep.QuietTactic
import Derived.Deep.DeepCutAuto
import Derived.BigQuiet
import Derived.Deep.WholeRow
import Derived.RegionTactic
import Derived.ChangeAlike
namespace Go.Proofs.Ytaechgnjdjijkaa
open Go.RowKit Go.Lib

/-- Is a number from one on to another? -/
def wi (x lo hi : Int) : Bool := decide (lo ≤ x) && decide (x ≤ hi)
theorem wi_iff {x lo hi : Int} : wi x lo hi = true ↔ lo ≤ x ∧ x ≤ hi := by unfold wi; simp
theorem wi_no {x lo hi : Int} : wi x lo hi = false ↔ ¬ (lo ≤ x ∧ x ≤ hi) := by rw [← wi_iff]; simp
set_option maxRecDepth 100000 in
theorem within_any (x lo hi : Int) (w : World) : Calls Try.prog 75 #[.int .i64 x, .int .i64 lo, .int .i64 hi] w fun e w' => e = .returned (.bool (wi x lo hi)) ∧ w = w' := by
  by_cases h1 : lo ≤ x
  · obtain ⟨d2, hd2⟩ : ∃ d2, decide (x ≤ hi) = d2 := ⟨_, rfl⟩
    have HR : Hid (d2 = wi x lo hi) := by show _ = _; unfold wi; rw [hd2]; simp [h1]
    have d1 : decide (lo ≤ x) = true := by simpa using h1
    generalize wi x lo hi = R at *
    go_enter Try.func75, Try.ntmps75
    go_wp2
    go_ret
    exact ⟨ret_bool HR.out, rfl⟩
  · have HR : Hid (false = wi x lo hi) := by show _ = _; unfold wi; simp; omega
    have d1 : decide (lo ≤ x) = false := by simpa using h1
    generalize wi x lo hi = R at *
    go_enter Try.func75, Try.ntmps75
    go_wp2
    go_ret
    exact ⟨ret_bool HR.out, rfl⟩

/-- A job's rows (Wrong's table). -/
def rowN (s2 s3 : Bool) : Nat → Bool
  | 3 => s3
  | 4 => !s2
  | 5 => s3
  | 6 => !s3
  | _ => false
def rowX (c : Cf) : Nat → Int
  | 0 => c.g
  | 1 => c.so
  | 2 => c.k
  | 3 => c.sz
  | 4 => c.sl
  | 5 => c.o
  | 6 => c.ga
  | 7 => c.la
  | _ => c.ea
def rowL : Nat → Int
  | 5 => 0
  | 7 => 0
  | 8 => 0
  | _ => 1
def rowH (c : Cf) (st : Int) : Nat → Int
  | 0 => 32768
  | 1 => 64
  | 2 => 3
  | 3 => 1099511627776
  | 4 => c.sz
  | 5 => wrap64 (st - 1)
  | 6 => 1099511627776
  | 7 => 1099511627776
  | _ => 2147483647
/-- May a row be? -/
def rowOk (c : Cf) (s2 s3 : Bool) (st : Int) (k : Nat) : Bool := ((rowN s2 s3 k && (rowX c k == 0)) || (!rowN s2 s3 k && wi (rowX c k) (rowL k) (rowH c st k))) && (!(s2 && k == 4) || decide (c.sz ≤ wrap64 (64 * c.sl)))
def rowsTo (c : Cf) (s2 s3 : Bool) (st : Int) (k : Nat) : Prop := ∀ j, j < k → rowOk c s2 s3 st j = true
theorem rowsTo_zero (c : Cf) (s2 s3 : Bool) (st : Int) : rowsTo c s2 s3 st 0 := fun _j h => absurd h (Nat.not_lt_zero _)
theorem rowsTo_succ {c : Cf} {s2 s3 : Bool} {st : Int} {k : Nat} (h : rowsTo c s2 s3 st k) (hk : rowOk c s2 s3 st k = true) : rowsTo c s2 s3 st (k + 1) := fun j hj => by
  rcases Nat.lt_or_ge j k with h1 | h1
  · exact h j h1
  · obtain rfl : j = k := by omega
    exact hk
def rowsArr (g so k sz sl o ga la ea : Int) (b3 n2 n3 : Bool) (st : Int) : Array Value := #[.bool false, .int .i64 g, .int .i64 1, .int .i64 32768, .bool false, .int .i64 so, .int .i64 1, .int .i64 64, .bool false, .int .i64 k, .int .i64 1, .int .i64 3,
  .bool b3, .int .i64 sz, .int .i64 1, .int .i64 1099511627776, .bool n2, .int .i64 sl, .int .i64 1, .int .i64 sz, .bool b3, .int .i64 o, .int .i64 0, .int .i64 st,
  .bool n3, .int .i64 ga, .int .i64 1, .int .i64 1099511627776, .bool false, .int .i64 la, .int .i64 0, .int .i64 1099511627776, .bool false, .int .i64 ea, .int .i64 0, .int .i64 2147483647]
theorem rowIx0 (x0 x1 x2 x3 x4 x5 x6 x7 x8 x9 x10 x11 x12 x13 x14 x15 x16 x17 x18 x19 x20 x21 x22 x23 x24 x25 x26 x27 x28 x29 x30 x31 x32 x33 x34 x35 : Value) (w : World) : (Instr.index 136 (.agg #[x0, x1, x2, x3, x4, x5, x6, x7, x8, x9, x10, x11, x12, x13, x14, x15, x16, x17, x18, x19, x20, x21, x22, x23, x24, x25, x26, x27, x28, x29, x30, x31, x32, x33, x34, x35]) (.int .i64 ((0 : Nat) : Int))).run Try.prog w = .ok (.agg #[x0, x1, x2, x3]) w := by kernel_rfl
theorem rowIx1 (x0 x1 x2 x3 x4 x5 x6 x7 x8 x9 x10 x11 x12 x13 x14 x15 x16 x17 x18 x19 x20 x21 x22 x23 x24 x25 x26 x27 x28 x29 x30 x31 x32 x33 x34 x35 : Value) (w : World) : (Instr.index 136 (.agg #[x0, x1, x2, x3, x4, x5, x6, x7, x8, x9, x10, x11, x12, x13, x14, x15, x16, x17, x18, x19, x20, x21, x22, x23, x24, x25, x26, x27, x28, x29, x30, x31, x32, x33, x34, x35]) (.int .i64 ((1 : Nat) : Int))).run Try.prog w = .ok (.agg #[x4, x5, x6, x7]) w := by kernel_rfl
theorem rowIx2 (x0 x1 x2 x3 x4 x5 x6 x7 x8 x9 x10 x11 x12 x13 x14 x15 x16 x17 x18 x19 x20 x21 x22 x23 x24 x25 x26 x27 x28 x29 x30 x31 x32 x33 x34 x35 : Value) (w : World) : (Instr.index 136 (.agg #[x0, x1, x2, x3, x4, x5, x6, x7, x8, x9, x10, x11, x12, x13, x14, x15, x16, x17, x18, x19, x20, x21, x22, x23, x24, x25, x26, x27, x28, x29, x30, x31, x32, x33, x34, x35]) (.int .i64 ((2 : Nat) : Int))).run Try.prog w = .ok (.agg #[x8, x9, x10, x11]) w := by kernel_rfl
theorem rowIx3 (x0 x1 x2 x3 x4 x5 x6 x7 x8 x9 x10 x11 x12 x13 x14 x15 x16 x17 x18 x19 x20 x21 x22 x23 x24 x25 x26 x27 x28 x29 x30 x31 x32 x33 x34 x35 : Value) (w : World) : (Instr.index 136 (.agg #[x0, x1, x2, x3, x4, x5, x6, x7, x8, x9, x10, x11, x12, x13, x14, x15, x16, x17, x18, x19, x20, x21, x22, x23, x24, x25, x26, x27, x28, x29, x30, x31, x32, x33, x34, x35]) (.int .i64 ((3 : Nat) : Int))).run Try.prog w = .ok (.agg #[x12, x13, x14, x15]) w := by kernel_rfl
theorem rowIx4 (x0 x1 x2 x3 x4 x5 x6 x7 x8 x9 x10 x11 x12 x13 x14 x15 x16 x17 x18 x19 x20 x21 x22 x23 x24 x25 x26 x27 x28 x29 x30 x31 x32 x33 x34 x35 : Value) (w : World) : (Instr.index 136 (.agg #[x0, x1, x2, x3, x4, x5, x6, x7, x8, x9, x10, x11, x12, x13, x14, x15, x16, x17, x18, x19, x20, x21, x22, x23, x24, x25, x26, x27, x28, x29, x30, x31, x32, x33, x34, x35]) (.int .i64 ((4 : Nat) : Int))).run Try.prog w = .ok (.agg #[x16, x17, x18, x19]) w := by kernel_rfl
theorem rowIx5 (x0 x1 x2 x3 x4 x5 x6 x7 x8 x9 x10 x11 x12 x13 x14 x15 x16 x17 x18 x19 x20 x21 x22 x23 x24 x25 x26 x27 x28 x29 x30 x31 x32 x33 x34 x35 : Value) (w : World) : (Instr.index 136 (.agg #[x0, x1, x2, x3, x4, x5, x6, x7, x8, x9, x10, x11, x12, x13, x14, x15, x16, x17, x18, x19, x20, x21, x22, x23, x24, x25, x26, x27, x28, x29, x30, x31, x32, x33, x34, x35]) (.int .i64 ((5 : Nat) : Int))).run Try.prog w = .ok (.agg #[x20, x21, x22, x23]) w := by kernel_rfl
theorem rowIx6 (x0 x1 x2 x3 x4 x5 x6 x7 x8 x9 x10 x11 x12 x13 x14 x15 x16 x17 x18 x19 x20 x21 x22 x23 x24 x25 x26 x27 x28 x29 x30 x31 x32 x33 x34 x35 : Value) (w : World) : (Instr.index 136 (.agg #[x0, x1, x2, x3, x4, x5, x6, x7, x8, x9, x10, x11, x12, x13, x14, x15, x16, x17, x18, x19, x20, x21, x22, x23, x24, x25, x26, x27, x28, x29, x30, x31, x32, x33, x34, x35]) (.int .i64 ((6 : Nat) : Int))).run Try.prog w = .ok (.agg #[x24, x25, x26, x27]) w := by kernel_rfl
theorem rowIx7 (x0 x1 x2 x3 x4 x5 x6 x7 x8 x9 x10 x11 x12 x13 x14 x15 x16 x17 x18 x19 x20 x21 x22 x23 x24 x25 x26 x27 x28 x29 x30 x31 x32 x33 x34 x35 : Value) (w : World) : (Instr.index 136 (.agg #[x0, x1, x2, x3, x4, x5, x6, x7, x8, x9, x10, x11, x12, x13, x14, x15, x16, x17, x18, x19, x20, x21, x22, x23, x24, x25, x26, x27, x28, x29, x30, x31, x32, x33, x34, x35]) (.int .i64 ((7 : Nat) : Int))).run Try.prog w = .ok (.agg #[x28, x29, x30, x31]) w := by kernel_rfl
theorem rowIx8 (x0 x1 x2 x3 x4 x5 x6 x7 x8 x9 x10 x11 x12 x13 x14 x15 x16 x17 x18 x19 x20 x21 x22 x23 x24 x25 x26 x27 x28 x29 x30 x31 x32 x33 x34 x35 : Value) (w : World) : (Instr.index 136 (.agg #[x0, x1, x2, x3, x4, x5, x6, x7, x8, x9, x10, x11, x12, x13, x14, x15, x16, x17, x18, x19, x20, x21, x22, x23, x24, x25, x26, x27, x28, x29, x30, x31, x32, x33, x34, x35]) (.int .i64 ((8 : Nat) : Int))).run Try.prog w = .ok (.agg #[x32, x33, x34, x35]) w := by kernel_rfl
theorem row_ix (g so k sz sl o ga la ea : Int) (di : Bool) (s2 s3 : Bool) (st : Int) : ∀ (j : Nat), j < 9 → ∀ w : World, (Instr.index 136 (.agg (rowsArr g so k sz sl o ga la ea s3 (!s2) (!s3) (wrap64 (st - 1)))) (.int .i64 (j : Int))).run Try.prog w = .ok (.agg #[.bool (rowN s2 s3 j), .int .i64 (rowX ⟨g, so, k, sz, sl, o, ga, la, ea, di⟩ j), .int .i64 (rowL j), .int .i64 (rowH ⟨g, so, k, sz, sl, o, ga, la, ea, di⟩ st j)]) w
  | 0, _, w => rowIx0 _ _ _ _ _ _ _ _ _ _ _ _ _ _ _ _ _ _ _ _ _ _ _ _ _ _ _ _ _ _ _ _ _ _ _ _ w
  | 1, _, w => rowIx1 _ _ _ _ _ _ _ _ _ _ _ _ _ _ _ _ _ _ _ _ _ _ _ _ _ _ _ _ _ _ _ _ _ _ _ _ w
  | 2, _, w => rowIx2 _ _ _ _ _ _ _ _ _ _ _ _ _ _ _ _ _ _ _ _ _ _ _ _ _ _ _ _ _ _ _ _ _ _ _ _ w
  | 3, _, w => rowIx3 _ _ _ _ _ _ _ _ _ _ _ _ _ _ _ _ _ _ _ _ _ _ _ _ _ _ _ _ _ _ _ _ _ _ _ _ w
  | 4, _, w => rowIx4 _ _ _ _ _ _ _ _ _ _ _ _ _ _ _ _ _ _ _ _ _ _ _ _ _ _ _ _ _ _ _ _ _ _ _ _ w
  | 5, _, w => rowIx5 _ _ _ _ _ _ _ _ _ _ _ _ _ _ _ _ _ _ _ _ _ _ _ _ _ _ _ _ _ _ _ _ _ _ _ _ w
  | 6, _, w => rowIx6 _ _ _ _ _ _ _ _ _ _ _ _ _ _ _ _ _ _ _ _ _ _ _ _ _ _ _ _ _ _ _ _ _ _ _ _ w
  | 7, _, w => rowIx7 _ _ _ _ _ _ _ _ _ _ _ _ _ _ _ _ _ _ _ _ _ _ _ _ _ _ _ _ _ _ _ _ _ _ _ _ w
  | 8, _, w => rowIx8 _ _ _ _ _ _ _ _ _ _ _ _ _ _ _ _ _ _ _ _ _ _ _ _ _ _ _ _ _ _ _ _ _ _ _ _ w
  | j + 9, h, _ => absurd h (by omega)
theorem rowsBuild (x0 x1 x2 x3 x4 x5 x6 x7 x8 x9 x10 x11 x12 x13 x14 x15 x16 x17 x18 x19 x20 x21 x22 x23 x24 x25 x26 x27 x28 x29 x30 x31 x32 x33 x34 x35 : Value) (w : World) : (Instr.build 136 #[(0, .agg #[x0, x1, x2, x3]), (1, .agg #[x4, x5, x6, x7]), (2, .agg #[x8, x9, x10, x11]), (3, .agg #[x12, x13, x14, x15]), (4, .agg #[x16, x17, x18, x19]), (5, .agg #[x20, x21, x22, x23]), (6, .agg #[x24, x25, x26, x27]), (7, .agg #[x28, x29, x30, x31]), (8, .agg #[x32, x33, x34, x35])]).run Try.prog w = .ok (.agg #[x0, x1, x2, x3, x4, x5, x6, x7, x8, x9, x10, x11, x12, x13, x14, x15, x16, x17, x18, x19, x20, x21, x22, x23, x24, x25, x26, x27, x28, x29, x30, x31, x32, x33, x34, x35]) w := by kernel_rfl
theorem rowBuild1 (a : Bool) (b c d : Int) (w : World) : (Instr.build 135 #[(0, .bool a), (1, .int .i64 b), (2, .int .i64 c), (3, .int .i64 d)]).run Try.prog w = .ok (.agg #[.bool a, .int .i64 b, .int .i64 c, .int .i64 d]) w := by kernel_rfl
def zArr : Array Value := #[.bool false, .int .i64 0, .int .i64 0, .int .i64 0, .bool false, .int .i64 0, .int .i64 0, .int .i64 0, .bool false, .int .i64 0, .int .i64 0, .int .i64 0, .bool false, .int .i64 0, .int .i64 0, .int .i64 0, .bool false, .int .i64 0, .int .i64 0, .int .i64 0, .bool false, .int .i64 0, .int .i64 0, .int .i64 0, .bool false, .int .i64 0, .int .i64 0, .int .i64 0, .bool false, .int .i64 0, .int .i64 0, .int .i64 0, .bool false, .int .i64 0, .int .i64 0, .int .i64 0]
theorem zInfo : (Try.prog.info? 136).map (fun i => (i.zero, i.size)) = some (some (.agg zArr), 36) := by kernel_rfl
theorem rows_build (g so k sz sl o ga la ea : Int) (b3 n2 n3 : Bool) (st : Int) (w : World) : (Instr.build 136 #[(0, .agg #[.bool false, .int .i64 g, .int .i64 1, .int .i64 32768]), (1, .agg #[.bool false, .int .i64 so, .int .i64 1, .int .i64 64]), (2, .agg #[.bool false, .int .i64 k, .int .i64 1, .int .i64 3]), (3, .agg #[.bool b3, .int .i64 sz, .int .i64 1, .int .i64 1099511627776]), (4, .agg #[.bool n2, .int .i64 sl, .int .i64 1, .int .i64 sz]), (5, .agg #[.bool b3, .int .i64 o, .int .i64 0, .int .i64 st]), (6, .agg #[.bool n3, .int .i64 ga, .int .i64 1, .int .i64 1099511627776]), (7, .agg #[.bool false, .int .i64 la, .int .i64 0, .int .i64 1099511627776]), (8, .agg #[.bool false, .int .i64 ea, .int .i64 0, .int .i64 2147483647])]).run Try.prog w = .ok (.agg (rowsArr g so k sz sl o ga la ea b3 n2 n3 st)) w := rowsBuild _ _ _ _ _ _ _ _ _ _ _ _ _ _ _ _ _ _ _ _ _ _ _ _ _ _ _ _ _ _ _ _ _ _ _ _ w
end Go.Proofs.Ytaechgnjdjijkaa
