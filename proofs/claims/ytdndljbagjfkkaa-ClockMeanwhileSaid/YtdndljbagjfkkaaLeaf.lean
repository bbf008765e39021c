/- What was read as data, down to its leaves: the cell at a place of a value of any struct or array. -/
import Derived.Test.YtdndljbagjfkkaaLaw
import Derived.Deep.Slices
import Derived.Clock
import Derived.DataShut
namespace Go.Proofs.Ytdndljbagjfkkaa
open Go.ChangeShapes Go.WideShapes Go.ChangeAt Go.RowKit Go.Deep

/-- The kind of the leaf at a place of a type. -/
def leafAt (P : Program) : Nat → TypeId → Nat → Option TypeDesc
  | 0, _, _ => none
  | d + 1, t, j =>
    match P.underlying t with
    | some (.struct fs) => match fs.toList.find? (fun f => decide (f.offset ≤ j ∧ j < f.offset + P.cellsOf f.type)) with
      | some f => leafAt P d f.type (j - f.offset)
      | none => none
    | some (.array n e) => if 0 < P.cellsOf e ∧ j / P.cellsOf e < n then leafAt P d e (j % P.cellsOf e) else none
    | some (.int k) => if j = 0 then some (.int k) else none
    | some .bool => if j = 0 then some .bool else none
    | some .string => if j = 0 then some .string else none
    | some (.slice e) => if j = 0 then some (.slice e) else none
    | _ => none

section
variable {H : Type} {enc : TypeId × Value → H} {P : Program} {w : World} {base : Nat} {spare : Nat → Bool} {held : Bool}

theorem get_of_drop_take {cs : List Value} {o m j : Nat} {v : Value} (h : ((cs.drop o).take m)[j]? = some v) : cs[o + j]? = some v := by
  have hj : j < m := by
    rcases Nat.lt_or_ge j m with h1 | h1
    · exact h1
    · rw [List.getElem?_take_eq_none h1] at h; cases h
  rw [List.getElem?_take_of_lt hj, List.getElem?_drop] at h
  exact h

theorem leaf_of : ∀ (d : Nat) (t : TypeId) (n : Nat) (cs : List Value) (y : DataW H × List MemPlace) (j : Nat) (kd : TypeDesc), DataW.trod enc P w base spare held n t cs = some y → leafAt P d t j = some kd →
    ∃ v t' n' y', cs[j]? = some v ∧ P.underlying t' = some kd ∧ DataW.trod enc P w base spare held n' t' [v] = some y'
  | 0, _, _, _, _, _, _, _, h => by simp [leafAt] at h
  | d + 1, t, n, cs, y, j, kd, ht, h => by
    unfold leafAt at h
    split at h
    · rename_i fs hu
      split at h
      · rename_i f hf
        obtain ⟨xs, m, _, _, _, hlen, hx⟩ := DataW.trod_struct hu ht
        have hp := List.find?_some hf
        have hm := List.mem_of_find?_eq_some hf
        simp only [decide_eq_true_eq] at hp
        obtain ⟨i, hi⟩ := List.getElem?_of_mem hm
        have hi' : fs[i]? = some f := by rw [← Array.getElem?_toList]; exact hi
        have hil : i < fs.size := (Array.getElem?_eq_some_iff.1 hi').1
        have h1 := hx i f hi'
        have hxi : xs[i]? = some (xs[i]'(by omega)) := List.getElem?_eq_getElem (by omega)
        rw [hxi] at h1
        obtain ⟨v, t', n', y', hv, hu', hy'⟩ := leaf_of d f.type m _ _ (j - f.offset) kd h1 h
        refine ⟨v, t', n', y', ?_, hu', hy'⟩
        have := get_of_drop_take hv
        rwa [show f.offset + (j - f.offset) = j by omega] at this
      · cases h
    · rename_i k e hu
      split at h
      · rename_i hc
        obtain ⟨xs, m, _, _, _, hlen, hx⟩ := DataW.trod_array hu ht
        have h1 := hx (j / P.cellsOf e) hc.2
        have hxi : xs[j / P.cellsOf e]? = some (xs[j / P.cellsOf e]'(by omega)) := List.getElem?_eq_getElem (by omega)
        rw [hxi] at h1
        obtain ⟨v, t', n', y', hv, hu', hy'⟩ := leaf_of d e m _ _ (j % P.cellsOf e) kd h1 h
        refine ⟨v, t', n', y', ?_, hu', hy'⟩
        have := get_of_drop_take hv
        rwa [Nat.div_add_mod'] at this
      · cases h
    · rename_i k hu
      split at h
      · rename_i hj; subst hj; cases h
        obtain ⟨a, rfl, rfl, _⟩ := DataW.trod_int hu ht
        exact ⟨_, t, n, _, rfl, hu, ht⟩
      · cases h
    · rename_i hu
      split at h
      · rename_i hj; subst hj; cases h
        obtain ⟨a, rfl, rfl⟩ := DataW.trod_bool hu ht
        exact ⟨_, t, n, _, rfl, hu, ht⟩
      · cases h
    · rename_i hu
      split at h
      · rename_i hj; subst hj; cases h
        obtain ⟨a, rfl, rfl, _⟩ := DataW.trod_string hu ht
        exact ⟨_, t, n, _, rfl, hu, ht⟩
      · cases h
    · rename_i e hu
      split at h
      · rename_i hj; subst hj; cases h
        rcases DataW.trod_slice hu ht with ⟨rfl, rfl⟩ | ⟨a, len, cap, elems, rest, m, _, rfl, _⟩
        · exact ⟨_, t, n, _, rfl, hu, ht⟩
        · exact ⟨_, t, n, _, rfl, hu, ht⟩
      · cases h
    · cases h

theorem leaf_int {d : Nat} {t : TypeId} {n : Nat} {cs : List Value} {y : DataW H × List MemPlace} {k : IntKind} (j : Nat) (ht : DataW.trod enc P w base spare held n t cs = some y) (h : leafAt P d t j = some (.int k)) : ∃ a, cs[j]? = some (.int k a) ∧ (Lit.int k a).wf = true := by
  obtain ⟨v, t', n', y', hv, hu, hy⟩ := leaf_of d t n cs y j _ ht h
  obtain ⟨a, e, -, hw⟩ := DataW.trod_int hu hy
  cases e
  exact ⟨a, hv, hw⟩
theorem leaf_string {d : Nat} {t : TypeId} {n : Nat} {cs : List Value} {y : DataW H × List MemPlace} (j : Nat) (ht : DataW.trod enc P w base spare held n t cs = some y) (h : leafAt P d t j = some .string) : ∃ s : ByteArray, cs[j]? = some (.string s) ∧ s.size ≤ maxLen := by
  obtain ⟨v, t', n', y', hv, hu, hy⟩ := leaf_of d t n cs y j _ ht h
  obtain ⟨a, e, -, hw⟩ := DataW.trod_string hu hy
  cases e
  exact ⟨a, hv, hw⟩
theorem leaf_bool {d : Nat} {t : TypeId} {n : Nat} {cs : List Value} {y : DataW H × List MemPlace} (j : Nat) (ht : DataW.trod enc P w base spare held n t cs = some y) (h : leafAt P d t j = some .bool) : ∃ b, cs[j]? = some (.bool b) := by
  obtain ⟨v, t', n', y', hv, hu, hy⟩ := leaf_of d t n cs y j _ ht h
  obtain ⟨a, e, -⟩ := DataW.trod_bool hu hy
  cases e
  exact ⟨a, hv⟩
theorem i64_bd {a : Int} (h : (Lit.int .i64 a).wf = true) : -9223372036854775808 ≤ a ∧ a ≤ 9223372036854775807 := by
  have := (Lit.wf_int_iff .i64 a).1 h
  rwa [IntKind.min_i64, IntKind.max_i64] at this
end
end Go.Proofs.Ytdndljbagjfkkaa
