/- Windows and keys' states: plainly, and in memory. -/
import Derived.Test.YtaechgnjdjijkaaMem
import Derived.Lib.MinMax
import Derived.IntWalk
namespace Go.Proofs.Ytaechgnjdjijkaa
open Go.RowKit

structure Wn where
  s : Int
  e : Int
  h : Int
  c : Int
  u : Int
  lo : Int
  hi : Int
  si : Int
  pa : Int
deriving DecidableEq
/-- Its nine cells. -/
def Wn.arr (x : Wn) : Array Value := #[.int .i64 x.s, .int .i64 x.e, .int .i64 x.h, .int .i64 x.c, .int .i64 x.u, .int .i64 x.lo, .int .i64 x.hi, .int .i64 x.si, .int .i64 x.pa]
def Wn.cells (x : Wn) : List Value := [.int .i64 x.s, .int .i64 x.e, .int .i64 x.h, .int .i64 x.c, .int .i64 x.u, .int .i64 x.lo, .int .i64 x.hi, .int .i64 x.si, .int .i64 x.pa]
def wcells (l : List Wn) : List Value := l.flatMap Wn.cells
theorem wcells_append (a b : List Wn) : wcells (a ++ b) = wcells a ++ wcells b := by simp [wcells]
theorem wcells_length : ∀ (l : List Wn), (wcells l).length = l.length * 9
  | [] => rfl
  | x :: l => by
    have := wcells_length l
    show (x.cells ++ wcells l).length = _
    rw [List.length_append, this]
    simp [Wn.cells]; omega
theorem wcells_at : ∀ (l : List Wn) (k : Nat) (x : Wn), l[k]? = some x → ∀ (j : Nat) (u : Value), x.cells[j]? = some u → (wcells l)[k * 9 + j]? = some u
  | [], _, _, h => by simp at h
  | y :: l, 0, x, h => fun j u hj => by
    simp only [List.getElem?_cons_zero, Option.some.injEq] at h
    subst h
    show (y.cells ++ wcells l)[_]? = _
    rw [Nat.zero_mul, Nat.zero_add, List.getElem?_append_left (List.getElem?_eq_some_iff.1 hj).1]
    exact hj
  | y :: l, k + 1, x, h => fun j u hj => by
    have ih := wcells_at l k x (by simpa using h) j u hj
    show (y.cells ++ wcells l)[_]? = _
    have e : (k + 1) * 9 + j = k * 9 + j + 9 := by omega
    rw [e, List.getElem?_append_right (by simp [Wn.cells])]
    simpa [Wn.cells] using ih
theorem wcells_one (l : List Wn) : ∀ u ∈ wcells l, u.oneCell' = true := by
  intro u hu
  simp only [wcells, List.mem_flatMap] at hu
  obtain ⟨x, _, hx⟩ := hu
  simp only [Wn.cells, List.mem_cons, List.not_mem_nil, or_false] at hx
  rcases hx with rfl | rfl | rfl | rfl | rfl | rfl | rfl | rfl | rfl <;> rfl

/-- The nine cells of a window at a place. -/
structure WnAt (W : World) (g o : Nat) (x : Wn) : Prop where
  c0 : W.cell? ⟨g, o, none⟩ = some (.int .i64 x.s)
  c1 : W.cell? ⟨g, o + 1, none⟩ = some (.int .i64 x.e)
  c2 : W.cell? ⟨g, o + 2, none⟩ = some (.int .i64 x.h)
  c3 : W.cell? ⟨g, o + 3, none⟩ = some (.int .i64 x.c)
  c4 : W.cell? ⟨g, o + 4, none⟩ = some (.int .i64 x.u)
  c5 : W.cell? ⟨g, o + 5, none⟩ = some (.int .i64 x.lo)
  c6 : W.cell? ⟨g, o + 6, none⟩ = some (.int .i64 x.hi)
  c7 : W.cell? ⟨g, o + 7, none⟩ = some (.int .i64 x.si)
  c8 : W.cell? ⟨g, o + 8, none⟩ = some (.int .i64 x.pa)
theorem wnAt_of {W : World} {g o : Nat} {x : Wn} (h : ∀ (j : Nat) (u : Value), x.cells[j]? = some u → W.cell? ⟨g, o + j, none⟩ = some u) : WnAt W g o x :=
  ⟨h 0 _ rfl, h 1 _ rfl, h 2 _ rfl, h 3 _ rfl, h 4 _ rfl, h 5 _ rfl, h 6 _ rfl, h 7 _ rfl, h 8 _ rfl⟩

/-- All its numbers are int64. -/
def In64 (x : Int) : Prop := -9223372036854775808 ≤ x ∧ x ≤ 9223372036854775807
structure Wn.Fit (x : Wn) : Prop where
  s : In64 x.s
  e : In64 x.e
  h : In64 x.h
  c : In64 x.c
  u : In64 x.u
  lo : In64 x.lo
  hi : In64 x.hi
  si : In64 x.si
  pa : In64 x.pa

/-- A key's state. -/
structure Kn where
  key : ByteArray
  dr : Int
  ws : List Wn
structure Kn.Fit (k : Kn) : Prop where
  dr : In64 k.dr
  ws : ∀ x ∈ k.ws, x.Fit
/-- A key's state as a value, its windows in memory. -/
def Rk (w : World) (v : Value) (k : Kn) : Prop := ∃ A cap, v = .agg #[.string k.key, .int .i64 k.dr, .slice A k.ws.length cap] ∧ Rd w (.slice A k.ws.length cap) k.ws.length (wcells k.ws)
theorem Rk.below {w w' : World} {v : Value} {k : Kn} (h : Rk w v k) (hb : Below w.heap.size w w') : Rk w' v k := by
  obtain ⟨A, cap, hv, hr⟩ := h
  exact ⟨A, cap, hv, hr.below hb⟩
/-- The window at a place of a slice that reads as windows. -/
theorem rd_win {w : World} {A : Option Addr} {n cap : Nat} {l : List Wn} (h : Rd w (.slice A n cap) n (wcells l)) {k : Nat} {x : Wn} (hk : l[k]? = some x) (hn : l.length = n) :
    ∃ g off, A = some ⟨g, off, none⟩ ∧ g < w.heap.size ∧ WnAt w g (off + k * 9) x := by
  obtain ⟨_, _, hv, _, _, hr⟩ := h
  cases hv
  have hlt := (List.getElem?_eq_some_iff.1 hk).1
  obtain ⟨g, off, hA, hg, hc⟩ := hr (by omega)
  exact ⟨g, off, hA, hg, wnAt_of fun j u hj => by rw [Nat.add_assoc]; exact hc _ _ (wcells_at l k x hk j u hj)⟩

/-- A job. -/
structure Cf where
  g : Int
  so : Int
  k : Int
  sz : Int
  sl : Int
  o : Int
  ga : Int
  la : Int
  ea : Int
  di : Bool
def Cf.val (c : Cf) : Value := .agg #[.int .i64 c.g, .int .i64 c.so, .int .i64 c.k, .int .i64 c.sz, .int .i64 c.sl, .int .i64 c.o, .int .i64 c.ga, .int .i64 c.la, .int .i64 c.ea, .bool c.di]
structure Cf.Fit (c : Cf) : Prop where
  g : In64 c.g
  so : In64 c.so
  k : In64 c.k
  sz : In64 c.sz
  sl : In64 c.sl
  o : In64 c.o
  ga : In64 c.ga
  la : In64 c.la
  ea : In64 c.ea

/-- Of what there was only what X names has turned. -/
structure Only (X : Nat → Prop) (w w' : World) : Prop where
  os : w'.os = w.os
  tape : w'.tape = w.tape
  output : w'.output = w.output
  size : w.heap.size ≤ w'.heap.size
  block : ∀ k, k < w.heap.size → ¬ X k → w'.heap[k]? = w.heap[k]?
section
variable {X Y : Nat → Prop} {w w' w'' : World}
theorem Only.refl (X : Nat → Prop) (w : World) : Only X w w := ⟨rfl, rfl, rfl, Nat.le_refl _, fun _ _ _ => rfl⟩
theorem Only.of_below (h : Below w.heap.size w w') : Only X w w' := ⟨h.os, h.tape, h.output, h.size, fun k hk _ => h.block k hk⟩
theorem Only.trans (h : Only X w w') (k : Only Y w' w'') (hy : ∀ b, Y b → X b ∨ w.heap.size ≤ b) : Only X w w'' :=
  ⟨k.os.trans h.os, k.tape.trans h.tape, k.output.trans h.output, Nat.le_trans h.size k.size, fun b hb hx => (k.block b (Nat.lt_of_lt_of_le hb h.size) (fun hyb => by rcases hy b hyb with h1 | h1; exact hx h1; omega)).trans (h.block b hb hx)⟩
theorem Only.then (h : Only X w w') (k : Only X w' w'') : Only X w w'' := h.trans k fun _ h => .inl h
theorem Only.below (h : Only X w w') {B : Nat} (hx : ∀ b, X b → B ≤ b) (hB : B ≤ w.heap.size) : Below B w w' :=
  ⟨h.os, h.tape, h.output, h.size, fun k hk => h.block k (by omega) (fun hxk => by have := hx k hxk; omega)⟩
theorem Only.set (p : Addr) (u : Value) (hp : X p.block) (w : World) : Only X w (w.setCell p u) :=
  ⟨rfl, rfl, rfl, ((Below.refl 0 w).setCell (p := p) (Nat.zero_le _) u).size, fun k _ hk => Below.heap_setCell _ _ _ k (fun e => hk (by rw [e]; exact hp))⟩
theorem Only.drewN (n : Nat) (w : World) : Only X w (w.drewN n) := ⟨rfl, rfl, rfl, Nat.le_refl _, fun _ _ _ => rfl⟩
theorem Only.of_grown {row : Option Nat} (h : w.grownBy w' row) (hr : ∀ b, row = some b → X b ∨ w.heap.size ≤ b) : Only X w w' :=
  ⟨h.os, h.tape, h.output, h.size, fun k hk hx => h.block k hk (fun e => by rcases hr k e.symm with h1 | h1; exact hx h1; omega)⟩
theorem Only.wide (h : Only X w w') (hy : ∀ b, X b → Y b ∨ w.heap.size ≤ b) : Only Y w w' :=
  ⟨h.os, h.tape, h.output, h.size, fun k hk hx => h.block k hk (fun hxk => by rcases hy k hxk with h1 | h1; exact hx h1; omega)⟩
theorem Bk.only {g : Nat} {t : TypeId} {cs : Array Value} (h : Bk w g t cs) (ho : Only X w w') (hg : ¬ X g) : Bk w' g t cs := (ho.block g h.lt hg).trans h
theorem own_only {base : Nat} {e : TypeId} {size n : Nat} {v : Value} {xs : List Value} (h : w.ownsRow base e size v n xs) (ho : Only X w w') (hv : ∀ r, v.ownBlock = some r → ¬ X r) : w'.ownsRow base e size v n xs := by
  refine ⟨h.1, ?_⟩
  rcases h.2 with h2 | ⟨q, c', cur, hq, h3, h4, h5⟩
  · exact .inl h2
  · exact .inr ⟨q, c', cur, hq, h3, (ho.block q ((Array.getElem?_eq_some_iff.1 h4).1) (hv q (by rw [hq]; rfl))).trans h4, h5⟩
theorem cell_only (ho : Only X w w') {g : Nat} (hg : g < w.heap.size) (hx : ¬ X g) (j : Nat) : w'.cell? ⟨g, j, none⟩ = w.cell? ⟨g, j, none⟩ := by
  have := ho.block g hg hx
  simp only [World.cell?, this]
theorem Rd.only {v : Value} {n : Nat} {xs : List Value} (h : Rd w v n xs) (ho : Only X w w') (hx : ∀ a g off c, v = .slice a n c → a = some ⟨g, off, none⟩ → 0 < n → ¬ X g) : Rd w' v n xs := by
  obtain ⟨a, cap, hv, hc, hm, hr⟩ := h
  refine ⟨a, cap, hv, hc, hm, fun hn => ?_⟩
  obtain ⟨g, off, ha, hg, hcell⟩ := hr hn
  exact ⟨g, off, ha, Nat.lt_of_lt_of_le hg ho.size, fun j u hj => (cell_only ho hg (hx a g off cap hv ha hn) _).trans (hcell j u hj)⟩
end
end Go.Proofs.Ytaechgnjdjijkaa
