/- Keys dealt out: the rows as lists, and how they lie. -/
import Derived.Test.YtdbbipdkaahplaaTexts
import Derived.Test.YtdbbipdkaahplaaOnly
import Derived.Maps.AppendAt
import Derived.OneCell
namespace Go.Proofs.Ytdbbipdkaahplaa
open Go.RowKit

/-- The keys of one worker, in their order. -/
def rowOf (p g : Int) (ks : List ByteArray) (w : Nat) : List ByteArray := ks.filter fun k => ofW k.data.toList p g == (w : Int)
theorem rowOf_snoc (p g : Int) (ks : List ByteArray) (k : ByteArray) (i : Nat) (h : ofW k.data.toList p g = (i : Int)) :
    rowOf p g (ks ++ [k]) = fun j => if j = i then rowOf p g ks i ++ [k] else rowOf p g ks j := by
  funext j
  unfold rowOf
  by_cases hj : j = i
  · subst hj
    rw [if_pos rfl, List.filter_append]
    simp [h]
  · rw [if_neg hj, List.filter_append]
    have : ¬ ((i : Int) = (j : Int)) := by omega
    simp [h, this]

/-- The rows lie: the outer row's block, the rows' own blocks, all apart. -/
structure Dealt (W : World) (base P go : Nat) (vs : List Value) (R : Nat → List ByteArray) : Prop where
  out : W.ownsRow base 56 1 (.slice (some ⟨go, 0, none⟩) P P) P vs
  row : ∀ (i : Nat) (v : Value), vs[i]? = some v → W.ownsRow base 9 1 v (R i).length (txCells (R i))
  off : ∀ (i : Nat) (v : Value), vs[i]? = some v → v.ownBlock ≠ some go
  ap : ∀ (i j : Nat) (v u : Value) (b : Nat), vs[i]? = some v → vs[j]? = some u → v.ownBlock = some b → u.ownBlock = some b → i = j

theorem Dealt.len {W : World} {base P go : Nat} {vs : List Value} {R : Nat → List ByteArray} (h : Dealt W base P go vs R) : vs.length = P := by have := h.out.1; omega
theorem Dealt.lt {W : World} {base P go : Nat} {vs : List Value} {R : Nat → List ByteArray} (h : Dealt W base P go vs R) : base ≤ go ∧ go < W.heap.size := h.out.lt go rfl

theorem Dealt.kept {W W' : World} {base P go : Nat} {vs : List Value} {R : Nat → List ByteArray} (h : Dealt W base P go vs R) (hg : W.grownBy W' none) : Dealt W' base P go vs R :=
  ⟨h.out.kept hg (.inr (by simp [Value.ownBlock])), fun i v hi => (h.row i v hi).kept hg (by cases v.ownBlock <;> simp), h.off, h.ap⟩

theorem Dealt.put {W W1 : World} {base P go : Nat} {vs : List Value} {R : Nat → List ByteArray} (h : Dealt W base P go vs R) {i : Nat} {v v' : Value} {r' : List ByteArray} (hi : vs[i]? = some v) (hg : W.grownBy W1 v.ownBlock)
    (hown : W1.ownsRow base 9 1 v' r'.length (txCells r')) (hat : v'.ownBlock = v.ownBlock ∨ v'.ownBlock = some W.heap.size) :
    Dealt (W1.setCell ⟨go, i, none⟩ v') base P go (vs.set i v') (fun j => if j = i then r' else R j) := by
  have hgo := h.lt
  have hv' : v'.ownBlock ≠ some go := by
    rcases hat with e | e
    · rw [e]; exact h.off i v hi
    · rw [e]; intro e'; cases e'; omega
  have hil : i < vs.length := (List.getElem?_eq_some_iff.1 hi).1
  have hget : ∀ (j : Nat) (u : Value), (vs.set i v')[j]? = some u → (j = i ∧ u = v') ∨ (j ≠ i ∧ vs[j]? = some u) := fun j u hj => by
    by_cases e : i = j
    · subst e; rw [List.getElem?_set_self hil] at hj; exact .inl ⟨rfl, by simpa using hj.symm⟩
    · rw [List.getElem?_set_ne e] at hj; exact .inr ⟨fun e' => e e'.symm, hj⟩
  have hnew : ∀ (j : Nat) (u : Value) (b : Nat), j ≠ i → vs[j]? = some u → u.ownBlock = some b → v'.ownBlock ≠ some b := fun j u b hj hu hb e => by
    rcases hat with e' | e'
    · exact hj (h.ap j i u v b hu hi hb (by rw [← e', e]))
    · have := ((h.row j u hu).lt b hb).2
      rw [e] at e'; cases e'; omega
  refine ⟨ownsRow_set (h.out.kept hg (.inr (by have := h.off i v hi; simp only [Value.ownBlock]; exact fun e => this e.symm))) v', ?_, ?_, ?_⟩
  · intro j u hj
    rcases hget j u hj with ⟨rfl, rfl⟩ | ⟨hne, hu⟩
    · simp only [if_true]
      exact ownsRow_setCell_other hown hv' _
    · simp only [if_neg hne]
      refine ownsRow_setCell_other ((h.row j u hu).kept hg ?_) (h.off j u hu) _
      cases hb : u.ownBlock with
      | none => exact .inl rfl
      | some b => exact .inr fun e => hne (h.ap j i u v b hu hi hb e.symm)
  · intro j u hj
    rcases hget j u hj with ⟨rfl, rfl⟩ | ⟨_, hu⟩
    · exact hv'
    · exact h.off j u hu
  · intro a b u u' x ha hb hu hu'
    rcases hget a u ha with ⟨rfl, rfl⟩ | ⟨h1, h2⟩ <;> rcases hget b u' hb with ⟨rfl, rfl⟩ | ⟨h3, h4⟩
    · rfl
    · exact (hnew b u' x h3 h4 hu' hu).elim
    · exact (hnew a u x h1 h2 hu hu').elim
    · exact h.ap a b u u' x h2 h4 hu hu'

theorem Dealt.cell {W : World} {base P go : Nat} {vs : List Value} {R : Nat → List ByteArray} (h : Dealt W base P go vs R) {i : Nat} {v : Value} (hi : vs[i]? = some v) : W.cell? ⟨go, i, none⟩ = some v ∧ W.frozen? ⟨go, i, none⟩ = false := by
  have hl := (List.getElem?_eq_some_iff.1 hi).1
  have hlen := h.len
  obtain ⟨_, e1, _, _, _, _, hcell, hfz⟩ := ownsRow_at h.out (by omega)
  cases e1
  exact ⟨hcell i v hi, hfz i⟩
theorem Dealt.frozen {W W1 : World} {base P go : Nat} {vs : List Value} {R : Nat → List ByteArray} (h : Dealt W base P go vs R) {i : Nat} {v : Value} (hi : vs[i]? = some v) (hg : W.grownBy W1 v.ownBlock) : W1.cell? ⟨go, i, none⟩ = some v ∧ W1.frozen? ⟨go, i, none⟩ = false := by
  have hl := (List.getElem?_eq_some_iff.1 hi).1
  have hlen := h.len
  obtain ⟨_, e1, _, _, _, _, hcell, hfz⟩ := ownsRow_at (h.out.kept hg (.inr (by have := h.off i v hi; simp only [Value.ownBlock]; exact fun e => this e.symm))) (by omega)
  cases e1
  exact ⟨hcell i v hi, hfz i⟩

/-- All rows empty: freshly made. -/
theorem Dealt.made (W : World) (base P : Nat) (hb : base ≤ W.heap.size) (hP : P ≤ maxLen) (cur : Array Value) (hc : cur = (List.replicate P (Value.slice none 0 0)).toArray) :
    Dealt (W.alloc (.cells cur 56)) base P W.heap.size (List.replicate P (.slice none 0 0)) (fun _ => []) := by
  have hg : ∀ (i : Nat) (v : Value), (List.replicate P (Value.slice none 0 0))[i]? = some v → v = .slice none 0 0 := fun i v h => by
    rw [List.getElem?_replicate] at h; split at h <;> simp_all
  refine ⟨⟨by simp, .inr ⟨_, P, cur, rfl, hb, heap_alloc_new W _, Nat.le_refl _, hP, by simp [hc], by simp [hc]⟩⟩, ?_, ?_, ?_⟩
  · intro i v h; rw [hg i v h]; exact World.ownsRow_nil _ _ _ _
  · intro i v h; rw [hg i v h]; simp [Value.ownBlock]
  · intro i j v u b h _ hb _; rw [hg i v h] at hb; simp [Value.ownBlock] at hb
theorem made_nils (P : Nat) : madeCells #[Value.slice none 0 0] P = (List.replicate P (Value.slice none 0 0)).toArray := by
  unfold madeCells
  apply Array.ext
  · simp
  · intro i h1 h2
    simp [Nat.mod_one]
end Go.Proofs.Ytdbbipdkaahplaa
