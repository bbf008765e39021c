/- Small lemmas: a world in which one block, and what is new, has turned. -/
import Derived.Test.YtdbbipdkaahplaaRefMoves
namespace Go.Proofs.Ytdbbipdkaahplaa
open Go.RowKit

theorem only_step {w0 w w' : World} {row row' : Option Nat} (h : w0.grownBy w row) (k : w.grownBy w' row') (hr : ∀ b, row' = some b → row = some b ∨ w0.heap.size ≤ b) : w0.grownBy w' row :=
  ⟨k.os.trans h.os, k.tape.trans h.tape, k.output.trans h.output, Nat.le_trans h.size k.size, fun i hi hne =>
    (k.block i (Nat.lt_of_lt_of_le hi h.size) (fun e => by rcases hr i e.symm with h1 | h1; exact hne h1.symm; omega)).trans (h.block i hi hne)⟩
theorem only_refl (w : World) (row : Option Nat) : w.grownBy w row := ⟨rfl, rfl, rfl, Nat.le_refl _, fun _ _ _ => rfl⟩
theorem only_drew {w0 w : World} {row : Option Nat} (h : w0.grownBy w row) : w0.grownBy w.drew row := ⟨h.os, h.tape, h.output, h.size, h.block⟩
theorem only_alloc {w0 w : World} {row : Option Nat} (h : w0.grownBy w row) (o : Obj) : w0.grownBy (w.alloc o) row := only_step h (World.grownBy_alloc w o none) (fun b e => by cases e)
theorem grownBy_set (W : World) (p : Addr) (v : Value) : W.grownBy (W.setCell p v) (some p.block) :=
  ⟨rfl, rfl, rfl, (KeepsWalks.setCell W p v).size, fun k _ hk => Below.heap_setCell _ _ _ k (fun e => hk (by rw [e]))⟩
theorem only_set {w0 w : World} {row : Option Nat} (h : w0.grownBy w row) (p : Addr) (v : Value) (hr : row = some p.block ∨ w0.heap.size ≤ p.block) : w0.grownBy (w.setCell p v) row :=
  only_step h (grownBy_set w p v) (fun b e => by cases e; exact hr)
theorem only_below {w0 w : World} {row : Option Nat} (h : w0.grownBy w row) {B : Nat} (hB : B ≤ w0.heap.size) (hr : ∀ b, row = some b → B ≤ b) : Below B w0 w :=
  ⟨h.os, h.tape, h.output, h.size, fun k hk => h.block k (by omega) (fun e => by have := hr k e.symm; omega)⟩
theorem only_of_below {w0 w : World} (h : Below w0.heap.size w0 w) (row : Option Nat) : w0.grownBy w row := ⟨h.os, h.tape, h.output, h.size, fun i hi _ => h.block i hi⟩

/-- A row of the call's own that has an element. -/
theorem ownsRow_at {W : World} {base : Nat} {e : TypeId} {size n cap : Nat} {a : Option Addr} {xs : List Value} (h : W.ownsRow base e size (.slice a n cap) n xs) (hn : 0 < n) :
    ∃ g, a = some ⟨g, 0, none⟩ ∧ base ≤ g ∧ g < W.heap.size ∧ n ≤ cap ∧ cap ≤ maxLen ∧ (∀ j u, xs[j]? = some u → W.cell? ⟨g, j, none⟩ = some u) ∧ ∀ j, W.frozen? ⟨g, j, none⟩ = false := by
  obtain ⟨k, rfl⟩ : ∃ k, n = k + 1 := ⟨n - 1, by omega⟩
  obtain ⟨g, cap', hv, r⟩ := ownsRow_open h
  cases hv
  exact ⟨g, rfl, r⟩
theorem ownsRow_shape {W : World} {base : Nat} {e : TypeId} {size n : Nat} {v : Value} {xs : List Value} (h : W.ownsRow base e size v n xs) : ∃ a cap, v = .slice a n cap ∧ n ≤ cap ∧ cap ≤ maxLen := by
  rcases h.2 with ⟨rfl, rfl⟩ | ⟨g, cap, cur, rfl, _, _, hc, hm, _, _⟩
  · exact ⟨none, 0, rfl, Nat.le_refl _, by decide⟩
  · exact ⟨_, cap, rfl, hc, hm⟩
theorem ownsRow_cell {W : World} {base : Nat} {e : TypeId} {size n : Nat} {v : Value} {xs : List Value} (h : W.ownsRow base e size v n xs) {j : Nat} (hj : j < n * size) : ∃ u, xs[j]? = some u :=
  ⟨_, List.getElem?_eq_getElem (by rw [h.1]; exact hj)⟩
theorem ownsRow_drew {W : World} {base : Nat} {e : TypeId} {size n : Nat} {v : Value} {xs : List Value} (h : W.ownsRow base e size v n xs) : W.drew.ownsRow base e size v n xs := h
end Go.Proofs.Ytdbbipdkaahplaa
