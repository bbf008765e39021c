/- Wins: Wn, Row, Cfg. -/
import Derived.Test.YtaechgnjdjijkaaWire
import Derived.Lib.MinMax
import Derived.IntWalk
import Derived.Deep.WholeRow
import Derived.Deep.QuietTactic
import Derived.Deep.DeepCutAuto
import Derived.BigQuiet
import Derived.RegionTactic
import Derived.ChangeAlike
/- Windows and keys' states: plainly, and in memory. -/
namespace Go.Proofs.Ytaechgnjdjijkaa
open Go.RowKit

structure Wn where
  s : Int
  e : Int
  h : Int
  c : Int
  u : Int
  lo : Int
  hi : Int
  si : Int
  pa : Int
deriving DecidableEq
/-- Its nine cells. -/
def Wn.arr (x : Wn) : Array Value := #[.int .i64 x.s, .int .i64 x.e, .int .i64 x.h, .int .i64 x.c, .int .i64 x.u, .int .i64 x.lo, .int .i64 x.hi, .int .i64 x.si, .int .i64 x.pa]
def Wn.cells (x : Wn) : List Value := [.int .i64 x.s, .int .i64 x.e, .int .i64 x.h, .int .i64 x.c, .int .i64 x.u, .int .i64 x.lo, .int .i64 x.hi, .int .i64 x.si, .int .i64 x.pa]
def wcells (l : List Wn) : List Value := l.flatMap Wn.cells
theorem wcells_append (a b : List Wn) : wcells (a ++ b) = wcells a ++ wcells b := by simp [wcells]
theorem wcells_length : ∀ (l : List Wn), (wcells l).length = l.length * 9
  | [] => rfl
  | x :: l => by
    have := wcells_length l
    show (x.cells ++ wcells l).length = _
    rw [List.length_append, this]
    simp [Wn.cells]; omega
theorem wcells_at : ∀ (l : List Wn) (k : Nat) (x : Wn), l[k]? = some x → ∀ (j : Nat) (u : Value), x.cells[j]? = some u → (wcells l)[k * 9 + j]? = some u
  | [], _, _, h => by simp at h
  | y :: l, 0, x, h => fun j u hj => by
    simp only [List.getElem?_cons_zero, Option.some.injEq] at h
    subst h
    show (y.cells ++ wcells l)[_]? = _
    rw [Nat.zero_mul, Nat.zero_add, List.getElem?_append_left (List.getElem?_eq_some_iff.1 hj).1]
    exact hj
  | y :: l, k + 1, x, h => fun j u hj => by
    have ih := wcells_at l k x (by simpa using h) j u hj
    show (y.cells ++ wcells l)[_]? = _
    have e : (k + 1) * 9 + j = k * 9 + j + 9 := by omega
    rw [e, List.getElem?_append_right (by simp [Wn.cells])]
    simpa [Wn.cells] using ih
theorem wcells_one (l : List Wn) : ∀ u ∈ wcells l, u.oneCell' = true := by
  intro u hu
  simp only [wcells, List.mem_flatMap] at hu
  obtain ⟨x, _, hx⟩ := hu
  simp only [Wn.cells, List.mem_cons, List.not_mem_nil, or_false] at hx
  rcases hx with rfl | rfl | rfl | rfl | rfl | rfl | rfl | rfl | rfl <;> rfl

/-- The nine cells of a window at a place. -/
structure WnAt (W : World) (g o : Nat) (x : Wn) : Prop where
  c0 : W.cell? ⟨g, o, none⟩ = some (.int .i64 x.s)
  c1 : W.cell? ⟨g, o + 1, none⟩ = some (.int .i64 x.e)
  c2 : W.cell? ⟨g, o + 2, none⟩ = some (.int .i64 x.h)
  c3 : W.cell? ⟨g, o + 3, none⟩ = some (.int .i64 x.c)
  c4 : W.cell? ⟨g, o + 4, none⟩ = some (.int .i64 x.u)
  c5 : W.cell? ⟨g, o + 5, none⟩ = some (.int .i64 x.lo)
  c6 : W.cell? ⟨g, o + 6, none⟩ = some (.int .i64 x.hi)
  c7 : W.cell? ⟨g, o + 7, none⟩ = some (.int .i64 x.si)
  c8 : W.cell? ⟨g, o + 8, none⟩ = some (.int .i64 x.pa)
theorem wnAt_of {W : World} {g o : Nat} {x : Wn} (h : ∀ (j : Nat) (u : Value), x.cells[j]? = some u → W.cell? ⟨g, o + j, none⟩ = some u) : WnAt W g o x :=
  ⟨h 0 _ rfl, h 1 _ rfl, h 2 _ rfl, h 3 _ rfl, h 4 _ rfl, h 5 _ rfl, h 6 _ rfl, h 7 _ rfl, h 8 _ rfl⟩

/-- All its numbers are int64. -/
def In64 (x : Int) : Prop := -9223372036854775808 ≤ x ∧ x ≤ 9223372036854775807
structure Wn.Fit (x : Wn) : Prop where
  s : In64 x.s
  e : In64 x.e
  h : In64 x.h
  c : In64 x.c
  u : In64 x.u
  lo : In64 x.lo
  hi : In64 x.hi
  si : In64 x.si
  pa : In64 x.pa

/-- A key's state. -/
structure Kn where
  key : ByteArray
  dr : Int
  ws : List Wn
structure Kn.Fit (k : Kn) : Prop where
  dr : In64 k.dr
  ws : ∀ x ∈ k.ws, x.Fit
/-- A key's state as a value, its windows in memory. -/
def Rk (w : World) (v : Value) (k : Kn) : Prop := ∃ A cap, v = .agg #[.string k.key, .int .i64 k.dr, .slice A k.ws.length cap] ∧ Rd w (.slice A k.ws.length cap) k.ws.length (wcells k.ws)
theorem Rk.below {w w' : World} {v : Value} {k : Kn} (h : Rk w v k) (hb : Below w.heap.size w w') : Rk w' v k := by
  obtain ⟨A, cap, hv, hr⟩ := h
  exact ⟨A, cap, hv, hr.below hb⟩
/-- The window at a place of a slice that reads as windows. -/
theorem rd_win {w : World} {A : Option Addr} {n cap : Nat} {l : List Wn} (h : Rd w (.slice A n cap) n (wcells l)) {k : Nat} {x : Wn} (hk : l[k]? = some x) (hn : l.length = n) :
    ∃ g off, A = some ⟨g, off, none⟩ ∧ g < w.heap.size ∧ WnAt w g (off + k * 9) x := by
  obtain ⟨_, _, hv, _, _, hr⟩ := h
  cases hv
  have hlt := (List.getElem?_eq_some_iff.1 hk).1
  obtain ⟨g, off, hA, hg, hc⟩ := hr (by omega)
  exact ⟨g, off, hA, hg, wnAt_of fun j u hj => by rw [Nat.add_assoc]; exact hc _ _ (wcells_at l k x hk j u hj)⟩

/-- A job. -/
structure Cf where
  g : Int
  so : Int
  k : Int
  sz : Int
  sl : Int
  o : Int
  ga : Int
  la : Int
  ea : Int
  di : Bool
def Cf.val (c : Cf) : Value := .agg #[.int .i64 c.g, .int .i64 c.so, .int .i64 c.k, .int .i64 c.sz, .int .i64 c.sl, .int .i64 c.o, .int .i64 c.ga, .int .i64 c.la, .int .i64 c.ea, .bool c.di]
structure Cf.Fit (c : Cf) : Prop where
  g : In64 c.g
  so : In64 c.so
  k : In64 c.k
  sz : In64 c.sz
  sl : In64 c.sl
  o : In64 c.o
  ga : In64 c.ga
  la : In64 c.la
  ea : In64 c.ea

/-- Of what there was only what X names has turned. -/
structure Only (X : Nat → Prop) (w w' : World) : Prop where
  os : w'.os = w.os
  tape : w'.tape = w.tape
  output : w'.output = w.output
  size : w.heap.size ≤ w'.heap.size
  block : ∀ k, k < w.heap.size → ¬ X k → w'.heap[k]? = w.heap[k]?
section
variable {X Y : Nat → Prop} {w w' w'' : World}
theorem Only.refl (X : Nat → Prop) (w : World) : Only X w w := ⟨rfl, rfl, rfl, Nat.le_refl _, fun _ _ _ => rfl⟩
theorem Only.of_below (h : Below w.heap.size w w') : Only X w w' := ⟨h.os, h.tape, h.output, h.size, fun k hk _ => h.block k hk⟩
theorem Only.trans (h : Only X w w') (k : Only Y w' w'') (hy : ∀ b, Y b → X b ∨ w.heap.size ≤ b) : Only X w w'' :=
  ⟨k.os.trans h.os, k.tape.trans h.tape, k.output.trans h.output, Nat.le_trans h.size k.size, fun b hb hx => (k.block b (Nat.lt_of_lt_of_le hb h.size) (fun hyb => by rcases hy b hyb with h1 | h1; exact hx h1; omega)).trans (h.block b hb hx)⟩
theorem Only.then (h : Only X w w') (k : Only X w' w'') : Only X w w'' := h.trans k fun _ h => .inl h
theorem Only.below (h : Only X w w') {B : Nat} (hx : ∀ b, X b → B ≤ b) (hB : B ≤ w.heap.size) : Below B w w' :=
  ⟨h.os, h.tape, h.output, h.size, fun k hk => h.block k (by omega) (fun hxk => by have := hx k hxk; omega)⟩
theorem Only.set (p : Addr) (u : Value) (hp : X p.block) (w : World) : Only X w (w.setCell p u) :=
  ⟨rfl, rfl, rfl, ((Below.refl 0 w).setCell (p := p) (Nat.zero_le _) u).size, fun k _ hk => Below.heap_setCell _ _ _ k (fun e => hk (by rw [e]; exact hp))⟩
theorem Only.drewN (n : Nat) (w : World) : Only X w (w.drewN n) := ⟨rfl, rfl, rfl, Nat.le_refl _, fun _ _ _ => rfl⟩
theorem Only.of_grown {row : Option Nat} (h : w.grownBy w' row) (hr : ∀ b, row = some b → X b ∨ w.heap.size ≤ b) : Only X w w' :=
  ⟨h.os, h.tape, h.output, h.size, fun k hk hx => h.block k hk (fun e => by rcases hr k e.symm with h1 | h1; exact hx h1; omega)⟩
theorem Only.wide (h : Only X w w') (hy : ∀ b, X b → Y b ∨ w.heap.size ≤ b) : Only Y w w' :=
  ⟨h.os, h.tape, h.output, h.size, fun k hk hx => h.block k hk (fun hxk => by rcases hy k hxk with h1 | h1; exact hx h1; omega)⟩
theorem Bk.only {g : Nat} {t : TypeId} {cs : Array Value} (h : Bk w g t cs) (ho : Only X w w') (hg : ¬ X g) : Bk w' g t cs := (ho.block g h.lt hg).trans h
theorem own_only {base : Nat} {e : TypeId} {size n : Nat} {v : Value} {xs : List Value} (h : w.ownsRow base e size v n xs) (ho : Only X w w') (hv : ∀ r, v.ownBlock = some r → ¬ X r) : w'.ownsRow base e size v n xs := by
  refine ⟨h.1, ?_⟩
  rcases h.2 with h2 | ⟨q, c', cur, hq, h3, h4, h5⟩
  · exact .inl h2
  · exact .inr ⟨q, c', cur, hq, h3, (ho.block q ((Array.getElem?_eq_some_iff.1 h4).1) (hv q (by rw [hq]; rfl))).trans h4, h5⟩
theorem cell_only (ho : Only X w w') {g : Nat} (hg : g < w.heap.size) (hx : ¬ X g) (j : Nat) : w'.cell? ⟨g, j, none⟩ = w.cell? ⟨g, j, none⟩ := by
  have := ho.block g hg hx
  simp only [World.cell?, this]
theorem Rd.only {v : Value} {n : Nat} {xs : List Value} (h : Rd w v n xs) (ho : Only X w w') (hx : ∀ a g off c, v = .slice a n c → a = some ⟨g, off, none⟩ → 0 < n → ¬ X g) : Rd w' v n xs := by
  obtain ⟨a, cap, hv, hc, hm, hr⟩ := h
  refine ⟨a, cap, hv, hc, hm, fun hn => ?_⟩
  obtain ⟨g, off, ha, hg, hcell⟩ := hr hn
  exact ⟨g, off, ha, Nat.lt_of_lt_of_le hg ho.size, fun j u hj => (cell_only ho hg (hx a g off cap hv ha hn) _).trans (hcell j u hj)⟩
end
end Go.Proofs.Ytaechgnjdjijkaa

/- Great rows of cells: built, stored and loaded whole, by laws that fit one kind of operation alone. -/
namespace Go.Proofs.Ytaechgnjdjijkaa
open Go.RowKit
section
variable {P : Program} {ops : Array Oper} {rest : List Oper} {a : Act} {w : World} {Q : Exit → Act → World → Prop}
theorem wpList_build_as (dst : Option Tmp) (ty : TypeId) (pos : String) (af : Array Edge) (t : TypeId) (parts : Array (Nat × Operand)) (vals : Array (Nat × Value)) (v : Value)
    (hv : (parts.map fun (i, x) => (i, a.eval x)) = vals) (hrun : (Instr.build t vals).run P w = .ok v w) (h : wpList P ops Q rest (a.put dst v) w) : wpList P ops Q ({ dst := dst, op := .build t parts, type := ty, pos := pos, after := af, guard := none } :: rest) a w :=
  wpList_plain rfl fun _ hK => by
    unfold Oper.wp execOp
    simp only [Sem.run_bind, hv, hrun, Result.andThen_ok]
    exact hK _ _ h
theorem wpList_store_as (dst : Option Tmp) (ty2 : TypeId) (pos : String) (af : Array Edge) (ty : TypeId) (x y : Operand) (g : Nat) (cells : Array Value) (hx : a.eval x = .pointer (some ⟨g, 0, none⟩)) (hy : a.eval y = .agg cells)
    (t : TypeId) (old : Array Value) (hg : w.heap[g]? = some (.cells old t (0, 0))) (hi : (P.info? ty).map (·.size) = some cells.size) (hold : old.size = cells.size) (h1 : cells.all (·.oneCell') = true)
    (h : wpList P ops Q rest (a.put dst undef) (w.setRow g cells)) : wpList P ops Q ({ dst := dst, op := .store ty x y, type := ty2, pos := pos, after := af, guard := none } :: rest) a w :=
  wpList_store_row rfl ty x y rfl g cells hx hy t old hg hi hold h1 h
theorem wpList_load_as (dst : Option Tmp) (ty2 : TypeId) (pos : String) (af : Array Edge) (ty : TypeId) (x : Operand) (g : Nat) (cs : Array Value) (hx : a.eval x = .pointer (some ⟨g, 0, none⟩)) (t : TypeId) (d : TypeDesc)
    (hg : w.heap[g]? = some (.cells cs t (0, 0))) (hu : P.underlying ty = some d) (hd : (match d with | .struct _ | .array _ _ => true | _ => false) = true) (hi : (P.info? ty).map (·.size) = some cs.size)
    (h : wpList P ops Q rest (a.put dst (.agg cs)) w) : wpList P ops Q ({ dst := dst, op := .load ty x, type := ty2, pos := pos, after := af, guard := none } :: rest) a w :=
  wpList_load_row rfl ty x rfl g hx t cs (0, 0) d hg hu hd hi h
end
theorem setRow_below {w : World} {g : Nat} {cs : Array Value} {B : Nat} (hg : B ≤ g) : Below B w (w.setRow g cs) :=
  ⟨rfl, rfl, rfl, by simp [World.setRow], fun k hk => by
    show (w.heap.modify g _)[k]? = _
    rw [Array.getElem?_modify, if_neg (by omega)]⟩
theorem Bk.row {w : World} {g : Nat} {t : TypeId} {cs cs' : Array Value} (h : Bk w g t cs) : Bk (w.setRow g cs') g t cs' := setRow_heap w g cs cs' t (0, 0) h
theorem Bk.rowFar {w : World} {g g' : Nat} {t : TypeId} {cs cs' : Array Value} (h : Bk w g t cs) (hne : g ≠ g') : Bk (w.setRow g' cs') g t cs := by
  unfold Bk at h ⊢
  show (w.heap.modify g' _)[g]? = _
  rw [Array.getElem?_modify, if_neg (fun e => hne e.symm)]
  exact h
theorem bel_drewN {B : Nat} {w0 w : World} (h : Below B w0 w) (n : Nat) : Below B w0 (w.drewN n) := ⟨h.os, h.tape, h.output, h.size, h.block⟩
end Go.Proofs.Ytaechgnjdjijkaa

/- A job: config.within, Wrong, Check. -/
namespace Go.Proofs.Ytaechgnjdjijkaa
open Go.RowKit Go.Lib

/-- Is a number from one on to another? -/
def wi (x lo hi : Int) : Bool := decide (lo ≤ x) && decide (x ≤ hi)
theorem wi_iff {x lo hi : Int} : wi x lo hi = true ↔ lo ≤ x ∧ x ≤ hi := by unfold wi; simp
theorem wi_no {x lo hi : Int} : wi x lo hi = false ↔ ¬ (lo ≤ x ∧ x ≤ hi) := by rw [← wi_iff]; simp
set_option maxRecDepth 100000 in
theorem within_any (x lo hi : Int) (w : World) : Calls Try.prog 75 #[.int .i64 x, .int .i64 lo, .int .i64 hi] w fun e w' => e = .returned (.bool (wi x lo hi)) ∧ w = w' := by
  by_cases h1 : lo ≤ x
  · obtain ⟨d2, hd2⟩ : ∃ d2, decide (x ≤ hi) = d2 := ⟨_, rfl⟩
    have HR : Hid (d2 = wi x lo hi) := by show _ = _; unfold wi; rw [hd2]; simp [h1]
    have d1 : decide (lo ≤ x) = true := by simpa using h1
    generalize wi x lo hi = R at *
    go_enter Try.func75, Try.ntmps75
    go_wp2
    go_ret
    exact ⟨ret_bool HR.out, rfl⟩
  · have HR : Hid (false = wi x lo hi) := by show _ = _; unfold wi; simp; omega
    have d1 : decide (lo ≤ x) = false := by simpa using h1
    generalize wi x lo hi = R at *
    go_enter Try.func75, Try.ntmps75
    go_wp2
    go_ret
    exact ⟨ret_bool HR.out, rfl⟩

/-- A job's rows (Wrong's table). -/
def rowN (s2 s3 : Bool) : Nat → Bool
  | 3 => s3
  | 4 => !s2
  | 5 => s3
  | 6 => !s3
  | _ => false
def rowX (c : Cf) : Nat → Int
  | 0 => c.g
  | 1 => c.so
  | 2 => c.k
  | 3 => c.sz
  | 4 => c.sl
  | 5 => c.o
  | 6 => c.ga
  | 7 => c.la
  | _ => c.ea
def rowL : Nat → Int
  | 5 => 0
  | 7 => 0
  | 8 => 0
  | _ => 1
def rowH (c : Cf) (st : Int) : Nat → Int
  | 0 => 32768
  | 1 => 64
  | 2 => 3
  | 3 => 1099511627776
  | 4 => c.sz
  | 5 => wrap64 (st - 1)
  | 6 => 1099511627776
  | 7 => 1099511627776
  | _ => 2147483647
/-- May a row be? -/
def rowOk (c : Cf) (s2 s3 : Bool) (st : Int) (k : Nat) : Bool := ((rowN s2 s3 k && (rowX c k == 0)) || (!rowN s2 s3 k && wi (rowX c k) (rowL k) (rowH c st k))) && (!(s2 && k == 4) || decide (c.sz ≤ wrap64 (64 * c.sl)))
def rowsTo (c : Cf) (s2 s3 : Bool) (st : Int) (k : Nat) : Prop := ∀ j, j < k → rowOk c s2 s3 st j = true
theorem rowsTo_zero (c : Cf) (s2 s3 : Bool) (st : Int) : rowsTo c s2 s3 st 0 := fun _j h => absurd h (Nat.not_lt_zero _)
theorem rowsTo_succ {c : Cf} {s2 s3 : Bool} {st : Int} {k : Nat} (h : rowsTo c s2 s3 st k) (hk : rowOk c s2 s3 st k = true) : rowsTo c s2 s3 st (k + 1) := fun j hj => by
  rcases Nat.lt_or_ge j k with h1 | h1
  · exact h j h1
  · obtain rfl : j = k := by omega
    exact hk
def rowsArr (g so k sz sl o ga la ea : Int) (b3 n2 n3 : Bool) (st : Int) : Array Value := #[.bool false, .int .i64 g, .int .i64 1, .int .i64 32768, .bool false, .int .i64 so, .int .i64 1, .int .i64 64, .bool false, .int .i64 k, .int .i64 1, .int .i64 3,
  .bool b3, .int .i64 sz, .int .i64 1, .int .i64 1099511627776, .bool n2, .int .i64 sl, .int .i64 1, .int .i64 sz, .bool b3, .int .i64 o, .int .i64 0, .int .i64 st,
  .bool n3, .int .i64 ga, .int .i64 1, .int .i64 1099511627776, .bool false, .int .i64 la, .int .i64 0, .int .i64 1099511627776, .bool false, .int .i64 ea, .int .i64 0, .int .i64 2147483647]
theorem rowIx0 (x0 x1 x2 x3 x4 x5 x6 x7 x8 x9 x10 x11 x12 x13 x14 x15 x16 x17 x18 x19 x20 x21 x22 x23 x24 x25 x26 x27 x28 x29 x30 x31 x32 x33 x34 x35 : Value) (w : World) : (Instr.index 136 (.agg #[x0, x1, x2, x3, x4, x5, x6, x7, x8, x9, x10, x11, x12, x13, x14, x15, x16, x17, x18, x19, x20, x21, x22, x23, x24, x25, x26, x27, x28, x29, x30, x31, x32, x33, x34, x35]) (.int .i64 ((0 : Nat) : Int))).run Try.prog w = .ok (.agg #[x0, x1, x2, x3]) w := by kernel_rfl
theorem rowIx1 (x0 x1 x2 x3 x4 x5 x6 x7 x8 x9 x10 x11 x12 x13 x14 x15 x16 x17 x18 x19 x20 x21 x22 x23 x24 x25 x26 x27 x28 x29 x30 x31 x32 x33 x34 x35 : Value) (w : World) : (Instr.index 136 (.agg #[x0, x1, x2, x3, x4, x5, x6, x7, x8, x9, x10, x11, x12, x13, x14, x15, x16, x17, x18, x19, x20, x21, x22, x23, x24, x25, x26, x27, x28, x29, x30, x31, x32, x33, x34, x35]) (.int .i64 ((1 : Nat) : Int))).run Try.prog w = .ok (.agg #[x4, x5, x6, x7]) w := by kernel_rfl
theorem rowIx2 (x0 x1 x2 x3 x4 x5 x6 x7 x8 x9 x10 x11 x12 x13 x14 x15 x16 x17 x18 x19 x20 x21 x22 x23 x24 x25 x26 x27 x28 x29 x30 x31 x32 x33 x34 x35 : Value) (w : World) : (Instr.index 136 (.agg #[x0, x1, x2, x3, x4, x5, x6, x7, x8, x9, x10, x11, x12, x13, x14, x15, x16, x17, x18, x19, x20, x21, x22, x23, x24, x25, x26, x27, x28, x29, x30, x31, x32, x33, x34, x35]) (.int .i64 ((2 : Nat) : Int))).run Try.prog w = .ok (.agg #[x8, x9, x10, x11]) w := by kernel_rfl
theorem rowIx3 (x0 x1 x2 x3 x4 x5 x6 x7 x8 x9 x10 x11 x12 x13 x14 x15 x16 x17 x18 x19 x20 x21 x22 x23 x24 x25 x26 x27 x28 x29 x30 x31 x32 x33 x34 x35 : Value) (w : World) : (Instr.index 136 (.agg #[x0, x1, x2, x3, x4, x5, x6, x7, x8, x9, x10, x11, x12, x13, x14, x15, x16, x17, x18, x19, x20, x21, x22, x23, x24, x25, x26, x27, x28, x29, x30, x31, x32, x33, x34, x35]) (.int .i64 ((3 : Nat) : Int))).run Try.prog w = .ok (.agg #[x12, x13, x14, x15]) w := by kernel_rfl
theorem rowIx4 (x0 x1 x2 x3 x4 x5 x6 x7 x8 x9 x10 x11 x12 x13 x14 x15 x16 x17 x18 x19 x20 x21 x22 x23 x24 x25 x26 x27 x28 x29 x30 x31 x32 x33 x34 x35 : Value) (w : World) : (Instr.index 136 (.agg #[x0, x1, x2, x3, x4, x5, x6, x7, x8, x9, x10, x11, x12, x13, x14, x15, x16, x17, x18, x19, x20, x21, x22, x23, x24, x25, x26, x27, x28, x29, x30, x31, x32, x33, x34, x35]) (.int .i64 ((4 : Nat) : Int))).run Try.prog w = .ok (.agg #[x16, x17, x18, x19]) w := by kernel_rfl
theorem rowIx5 (x0 x1 x2 x3 x4 x5 x6 x7 x8 x9 x10 x11 x12 x13 x14 x15 x16 x17 x18 x19 x20 x21 x22 x23 x24 x25 x26 x27 x28 x29 x30 x31 x32 x33 x34 x35 : Value) (w : World) : (Instr.index 136 (.agg #[x0, x1, x2, x3, x4, x5, x6, x7, x8, x9, x10, x11, x12, x13, x14, x15, x16, x17, x18, x19, x20, x21, x22, x23, x24, x25, x26, x27, x28, x29, x30, x31, x32, x33, x34, x35]) (.int .i64 ((5 : Nat) : Int))).run Try.prog w = .ok (.agg #[x20, x21, x22, x23]) w := by kernel_rfl
theorem rowIx6 (x0 x1 x2 x3 x4 x5 x6 x7 x8 x9 x10 x11 x12 x13 x14 x15 x16 x17 x18 x19 x20 x21 x22 x23 x24 x25 x26 x27 x28 x29 x30 x31 x32 x33 x34 x35 : Value) (w : World) : (Instr.index 136 (.agg #[x0, x1, x2, x3, x4, x5, x6, x7, x8, x9, x10, x11, x12, x13, x14, x15, x16, x17, x18, x19, x20, x21, x22, x23, x24, x25, x26, x27, x28, x29, x30, x31, x32, x33, x34, x35]) (.int .i64 ((6 : Nat) : Int))).run Try.prog w = .ok (.agg #[x24, x25, x26, x27]) w := by kernel_rfl
theorem rowIx7 (x0 x1 x2 x3 x4 x5 x6 x7 x8 x9 x10 x11 x12 x13 x14 x15 x16 x17 x18 x19 x20 x21 x22 x23 x24 x25 x26 x27 x28 x29 x30 x31 x32 x33 x34 x35 : Value) (w : World) : (Instr.index 136 (.agg #[x0, x1, x2, x3, x4, x5, x6, x7, x8, x9, x10, x11, x12, x13, x14, x15, x16, x17, x18, x19, x20, x21, x22, x23, x24, x25, x26, x27, x28, x29, x30, x31, x32, x33, x34, x35]) (.int .i64 ((7 : Nat) : Int))).run Try.prog w = .ok (.agg #[x28, x29, x30, x31]) w := by kernel_rfl
theorem rowIx8 (x0 x1 x2 x3 x4 x5 x6 x7 x8 x9 x10 x11 x12 x13 x14 x15 x16 x17 x18 x19 x20 x21 x22 x23 x24 x25 x26 x27 x28 x29 x30 x31 x32 x33 x34 x35 : Value) (w : World) : (Instr.index 136 (.agg #[x0, x1, x2, x3, x4, x5, x6, x7, x8, x9, x10, x11, x12, x13, x14, x15, x16, x17, x18, x19, x20, x21, x22, x23, x24, x25, x26, x27, x28, x29, x30, x31, x32, x33, x34, x35]) (.int .i64 ((8 : Nat) : Int))).run Try.prog w = .ok (.agg #[x32, x33, x34, x35]) w := by kernel_rfl
theorem row_ix (g so k sz sl o ga la ea : Int) (di : Bool) (s2 s3 : Bool) (st : Int) : ∀ (j : Nat), j < 9 → ∀ w : World, (Instr.index 136 (.agg (rowsArr g so k sz sl o ga la ea s3 (!s2) (!s3) (wrap64 (st - 1)))) (.int .i64 (j : Int))).run Try.prog w = .ok (.agg #[.bool (rowN s2 s3 j), .int .i64 (rowX ⟨g, so, k, sz, sl, o, ga, la, ea, di⟩ j), .int .i64 (rowL j), .int .i64 (rowH ⟨g, so, k, sz, sl, o, ga, la, ea, di⟩ st j)]) w
  | 0, _, w => rowIx0 _ _ _ _ _ _ _ _ _ _ _ _ _ _ _ _ _ _ _ _ _ _ _ _ _ _ _ _ _ _ _ _ _ _ _ _ w
  | 1, _, w => rowIx1 _ _ _ _ _ _ _ _ _ _ _ _ _ _ _ _ _ _ _ _ _ _ _ _ _ _ _ _ _ _ _ _ _ _ _ _ w
  | 2, _, w => rowIx2 _ _ _ _ _ _ _ _ _ _ _ _ _ _ _ _ _ _ _ _ _ _ _ _ _ _ _ _ _ _ _ _ _ _ _ _ w
  | 3, _, w => rowIx3 _ _ _ _ _ _ _ _ _ _ _ _ _ _ _ _ _ _ _ _ _ _ _ _ _ _ _ _ _ _ _ _ _ _ _ _ w
  | 4, _, w => rowIx4 _ _ _ _ _ _ _ _ _ _ _ _ _ _ _ _ _ _ _ _ _ _ _ _ _ _ _ _ _ _ _ _ _ _ _ _ w
  | 5, _, w => rowIx5 _ _ _ _ _ _ _ _ _ _ _ _ _ _ _ _ _ _ _ _ _ _ _ _ _ _ _ _ _ _ _ _ _ _ _ _ w
  | 6, _, w => rowIx6 _ _ _ _ _ _ _ _ _ _ _ _ _ _ _ _ _ _ _ _ _ _ _ _ _ _ _ _ _ _ _ _ _ _ _ _ w
  | 7, _, w => rowIx7 _ _ _ _ _ _ _ _ _ _ _ _ _ _ _ _ _ _ _ _ _ _ _ _ _ _ _ _ _ _ _ _ _ _ _ _ w
  | 8, _, w => rowIx8 _ _ _ _ _ _ _ _ _ _ _ _ _ _ _ _ _ _ _ _ _ _ _ _ _ _ _ _ _ _ _ _ _ _ _ _ w
  | j + 9, h, _ => absurd h (by omega)
theorem rowsBuild (x0 x1 x2 x3 x4 x5 x6 x7 x8 x9 x10 x11 x12 x13 x14 x15 x16 x17 x18 x19 x20 x21 x22 x23 x24 x25 x26 x27 x28 x29 x30 x31 x32 x33 x34 x35 : Value) (w : World) : (Instr.build 136 #[(0, .agg #[x0, x1, x2, x3]), (1, .agg #[x4, x5, x6, x7]), (2, .agg #[x8, x9, x10, x11]), (3, .agg #[x12, x13, x14, x15]), (4, .agg #[x16, x17, x18, x19]), (5, .agg #[x20, x21, x22, x23]), (6, .agg #[x24, x25, x26, x27]), (7, .agg #[x28, x29, x30, x31]), (8, .agg #[x32, x33, x34, x35])]).run Try.prog w = .ok (.agg #[x0, x1, x2, x3, x4, x5, x6, x7, x8, x9, x10, x11, x12, x13, x14, x15, x16, x17, x18, x19, x20, x21, x22, x23, x24, x25, x26, x27, x28, x29, x30, x31, x32, x33, x34, x35]) w := by kernel_rfl
theorem rowBuild1 (a : Bool) (b c d : Int) (w : World) : (Instr.build 135 #[(0, .bool a), (1, .int .i64 b), (2, .int .i64 c), (3, .int .i64 d)]).run Try.prog w = .ok (.agg #[.bool a, .int .i64 b, .int .i64 c, .int .i64 d]) w := by kernel_rfl
def zArr : Array Value := #[.bool false, .int .i64 0, .int .i64 0, .int .i64 0, .bool false, .int .i64 0, .int .i64 0, .int .i64 0, .bool false, .int .i64 0, .int .i64 0, .int .i64 0, .bool false, .int .i64 0, .int .i64 0, .int .i64 0, .bool false, .int .i64 0, .int .i64 0, .int .i64 0, .bool false, .int .i64 0, .int .i64 0, .int .i64 0, .bool false, .int .i64 0, .int .i64 0, .int .i64 0, .bool false, .int .i64 0, .int .i64 0, .int .i64 0, .bool false, .int .i64 0, .int .i64 0, .int .i64 0]
theorem zInfo : (Try.prog.info? 136).map (fun i => (i.zero, i.size)) = some (some (.agg zArr), 36) := by kernel_rfl
theorem rows_build (g so k sz sl o ga la ea : Int) (b3 n2 n3 : Bool) (st : Int) (w : World) : (Instr.build 136 #[(0, .agg #[.bool false, .int .i64 g, .int .i64 1, .int .i64 32768]), (1, .agg #[.bool false, .int .i64 so, .int .i64 1, .int .i64 64]), (2, .agg #[.bool false, .int .i64 k, .int .i64 1, .int .i64 3]), (3, .agg #[.bool b3, .int .i64 sz, .int .i64 1, .int .i64 1099511627776]), (4, .agg #[.bool n2, .int .i64 sl, .int .i64 1, .int .i64 sz]), (5, .agg #[.bool b3, .int .i64 o, .int .i64 0, .int .i64 st]), (6, .agg #[.bool n3, .int .i64 ga, .int .i64 1, .int .i64 1099511627776]), (7, .agg #[.bool false, .int .i64 la, .int .i64 0, .int .i64 1099511627776]), (8, .agg #[.bool false, .int .i64 ea, .int .i64 0, .int .i64 2147483647])]).run Try.prog w = .ok (.agg (rowsArr g so k sz sl o ga la ea b3 n2 n3 st)) w := rowsBuild _ _ _ _ _ _ _ _ _ _ _ _ _ _ _ _ _ _ _ _ _ _ _ _ _ _ _ _ _ _ _ _ _ _ _ _ w
end Go.Proofs.Ytaechgnjdjijkaa
