/- Spoiling the dealt rows one after another: what stays. -/
import Derived.Test.YtdbbipdkaahplaaDealLaw
namespace Go.Proofs.Ytdbbipdkaahplaa
open Go.RowKit

/-- Blocks below lo lie as they lay; so do those from hi on that were there. -/
structure Sp (lo hi : Nat) (W0 W : World) : Prop where
  below : Below lo W0 W
  keep : ∀ k, hi ≤ k → k < W0.heap.size → W.heap[k]? = W0.heap[k]?
theorem Sp.refl (lo hi : Nat) (W : World) : Sp lo hi W W := ⟨Below.refl _ _, fun _ _ _ => rfl⟩
theorem Sp.step {lo hi : Nat} {W0 W W' : World} {row : Option Nat} (h : Sp lo hi W0 W) (hl : lo ≤ W0.heap.size) (hg : W.grownBy W' row) (hr : ∀ r, row = some r → lo ≤ r ∧ (r < hi ∨ W0.heap.size ≤ r)) : Sp lo hi W0 W' :=
  ⟨h.below.grown hg (Nat.le_trans hl h.below.size) (fun r e => (hr r e).1), fun k h1 h2 => (hg.block k (Nat.lt_of_lt_of_le h2 h.below.size) (fun e => by have := hr k e.symm; omega)).trans (h.keep k h1 h2)⟩

theorem ownsRow_same {W W' : World} {base : Nat} {e : TypeId} {size : Nat} {v : Value} {n : Nat} {xs : List Value} (h : W.ownsRow base e size v n xs) (hk : ∀ b, v.ownBlock = some b → W'.heap[b]? = W.heap[b]?) : W'.ownsRow base e size v n xs := by
  obtain ⟨h1, h2⟩ := h
  refine ⟨h1, ?_⟩
  rcases h2 with h2 | ⟨g, cap, cur, hv, hb, hg, r⟩
  · exact .inl h2
  · subst hv
    exact .inr ⟨g, cap, cur, rfl, hb, (hk g rfl).trans hg, r⟩
theorem Dealt.sp {lo hi : Nat} {W0 W : World} {base P go : Nat} {vs : List Value} {R : Nat → List ByteArray} (h : Dealt W0 base P go vs R) (hb : hi ≤ base) (s : Sp lo hi W0 W) : Dealt W base P go vs R :=
  ⟨ownsRow_same h.out (fun b e => s.keep b (Nat.le_trans hb (h.out.lt b e).1) (h.out.lt b e).2),
    fun i v hi' => ownsRow_same (h.row i v hi') (fun b e => s.keep b (Nat.le_trans hb ((h.row i v hi').lt b e).1) ((h.row i v hi').lt b e).2), h.off, h.ap⟩

/-- The rows from j on. -/
structure DealtF (W : World) (j base top P go : Nat) (vs : List Value) (R : Nat → List ByteArray) : Prop where
  out : W.ownsRow base 56 1 (.slice (some ⟨go, 0, none⟩) P P) P vs
  row : ∀ (i : Nat) (v : Value), j ≤ i → vs[i]? = some v → W.ownsRow base 9 1 v (R i).length (txCells (R i))
  off : ∀ (i : Nat) (v : Value), j ≤ i → vs[i]? = some v → v.ownBlock ≠ some go
  ap : ∀ (i k : Nat) (v u : Value) (b : Nat), j ≤ i → j ≤ k → vs[i]? = some v → vs[k]? = some u → v.ownBlock = some b → u.ownBlock = some b → i = k
  tops : ∀ (i : Nat) (v : Value) (b : Nat), j ≤ i → vs[i]? = some v → v.ownBlock = some b → b < top
  gtop : go < top
theorem Dealt.front {wa W : World} {base P go : Nat} {vs : List Value} {R : Nat → List ByteArray} (h : Dealt wa base P go vs R) (hb : Below wa.heap.size wa W) : DealtF W 0 base wa.heap.size P go vs R :=
  have k := h.kept (below_grown hb none)
  ⟨k.out, fun i v _ hi => k.row i v hi, fun i v _ hi => h.off i v hi, fun i j v u b _ _ => h.ap i j v u b, fun i v b _ hi e => ((h.row i v hi).lt b e).2, h.lt.2⟩
theorem DealtF.len {W : World} {j base top P go : Nat} {vs : List Value} {R : Nat → List ByteArray} (h : DealtF W j base top P go vs R) : vs.length = P := by have := h.out.1; omega
theorem DealtF.cell {W : World} {j base top P go : Nat} {vs : List Value} {R : Nat → List ByteArray} (h : DealtF W j base top P go vs R) {i : Nat} {v : Value} (hi : vs[i]? = some v) : W.cell? ⟨go, i, none⟩ = some v ∧ W.frozen? ⟨go, i, none⟩ = false := by
  have hl := (List.getElem?_eq_some_iff.1 hi).1
  have hlen := h.len
  obtain ⟨_, e1, _, _, _, _, hcell, hfz⟩ := ownsRow_at h.out (by omega)
  cases e1
  exact ⟨hcell i v hi, hfz i⟩
theorem DealtF.keeps {W W1 : World} {j base top P go : Nat} {vs : List Value} {R : Nat → List ByteArray} (h : DealtF W j base top P go vs R) {v : Value} (hi : vs[j]? = some v) (hg : W.grownBy W1 v.ownBlock) : DealtF W1 (j + 1) base top P go vs R := by
  refine ⟨h.out.kept hg (.inr (by have := h.off j v (Nat.le_refl _) hi; simp only [Value.ownBlock]; exact fun e => this e.symm)), ?_, fun i u a b => h.off i u (by omega) b, fun i k u u' b a a' => h.ap i k u u' b (by omega) (by omega), fun i u b a => h.tops i u b (by omega), h.gtop⟩
  intro i u hji hu
  refine (h.row i u (by omega) hu).kept hg ?_
  cases hb : u.ownBlock with
  | none => exact .inl rfl
  | some b => exact .inr fun e => by have := h.ap i j u v b (by omega) (Nat.le_refl _) hu hi hb e.symm; omega
theorem DealtF.set {W : World} {j base top P go : Nat} {vs : List Value} {R : Nat → List ByteArray} (h : DealtF W (j + 1) base top P go vs R) (u : Value) : DealtF (W.setCell ⟨go, j, none⟩ u) (j + 1) base top P go (vs.set j u) R := by
  have hget : ∀ (i : Nat) (x : Value), j + 1 ≤ i → (vs.set j u)[i]? = some x → vs[i]? = some x := fun i x hi hx => by
    rw [List.getElem?_set_ne (by omega)] at hx; exact hx
  exact ⟨ownsRow_set h.out u, fun i x a b => ownsRow_setCell_other (h.row i x a (hget i x a b)) (h.off i x a (hget i x a b)) _, fun i x a b => h.off i x a (hget i x a b),
    fun i k x y b a a' hx hy => h.ap i k x y b a a' (hget i x a hx) (hget k y a' hy), fun i x b a hx => h.tops i x b a (hget i x a hx), h.gtop⟩

/-- How many keys the first j workers have. -/
def tot (R : Nat → List ByteArray) : Nat → Nat
  | 0 => 0
  | j + 1 => tot R j + (R j).length
theorem tot_cons {p g : Int} {k : ByteArray} {ks : List ByteArray} {i : Nat} (h : ofW k.data.toList p g = (i : Int)) : ∀ j, tot (rowOf p g (k :: ks)) j = tot (rowOf p g ks) j + (if i < j then 1 else 0)
  | 0 => by simp [tot]
  | j + 1 => by
    simp only [tot]
    rw [tot_cons h j]
    have e : (rowOf p g (k :: ks) j).length = (rowOf p g ks j).length + (if i = j then 1 else 0) := by
      unfold rowOf
      rw [List.filter_cons]
      by_cases hj : i = j
      · subst hj; simp [h]
      · have : ¬ ((i : Int) = (j : Int)) := by omega
        simp [h, this, hj]
    rw [e]
    by_cases h1 : i < j
    · simp [h1, show i < j + 1 by omega, show ¬ i = j by omega]; omega
    · by_cases h2 : i = j
      · simp [h2]; omega
      · simp [h1, h2, show ¬ i < j + 1 by omega]
theorem tot_nil (p g : Int) : ∀ j, tot (rowOf p g []) j = 0
  | 0 => rfl
  | j + 1 => by simp [tot, tot_nil p g j, rowOf]
theorem tot_all {P : Nat} {g : Int} (hp : mayB (P : Int) g) : ∀ ks : List ByteArray, (∀ k ∈ ks, k.size ≤ 256) → tot (rowOf (P : Int) g ks) P = ks.length
  | [], _ => tot_nil _ _ _
  | k :: ks, h => by
    obtain ⟨_, i, hi, hlt⟩ := of_short hp (h k (List.mem_cons_self ..))
    rw [tot_cons hi, tot_all hp ks (fun x hx => h x (List.mem_cons_of_mem _ hx)), List.length_cons, if_pos (by omega)]
theorem tot_mono (R : Nat → List ByteArray) {i j : Nat} (h : i ≤ j) : tot R i ≤ tot R j := by
  induction h with
  | refl => exact Nat.le_refl _
  | step _ ih => exact Nat.le_trans ih (by simp [tot])
end Go.Proofs.Ytdbbipdkaahplaa
