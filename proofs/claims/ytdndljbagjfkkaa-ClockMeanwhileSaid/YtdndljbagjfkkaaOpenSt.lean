/- Slices of steps, as they came in. -/
import Derived.Test.YtdndljbagjfkkaaLeaf
import Derived.Test.YtdndljbagjfkkaaTl1
namespace Go.Proofs.Ytdndljbagjfkkaa
open Go.ChangeShapes Go.WideShapes Go.ChangeAt Go.RowKit Go.Deep

theorem spc_get {es : List Sp} {j : Nat} {u : Value} (h : (spc es)[j]? = some u) : ∃ k i e, j = k * 7 + i ∧ i < 7 ∧ es[k]? = some e ∧ e.cells[i]? = some u := by
  have hj : j < es.length * 7 := by rw [← spc_length]; exact (List.getElem?_eq_some_iff.1 h).1
  have hk : j / 7 < es.length := by omega
  obtain ⟨e, he⟩ : ∃ e, es[j / 7]? = some e := ⟨_, List.getElem?_eq_getElem hk⟩
  refine ⟨j / 7, j % 7, e, by omega, by omega, he, ?_⟩
  obtain ⟨u', hu'⟩ : ∃ u', e.cells[j % 7]? = some u' := ⟨_, List.getElem?_eq_getElem (by show _ < 7; omega)⟩
  have := spc_at he _ _ hu'
  rw [show j / 7 * 7 + j % 7 = j by omega, h] at this
  rw [hu', ← this]
section
variable {H : Type} {enc : TypeId × Value → H}
set_option maxRecDepth 100000 in
theorem open_steps {W : World} {v : Value} {d : DataW H} {p : List MemPlace} {base b0 : Nat} {spare : Nat → Bool} {held : Bool} (hv : Value.okWide Try.prog W .any b0 22 v) (h : DataW.Trod enc Try.prog W base spare held 22 v d p) :
    ∃ a cap, ∃ l : List Sp, v = .slice a l.length cap ∧ Rd W (.slice a l.length cap) l.length (spc l) ∧ ∀ s ∈ l, s.name.size ≤ maxLen := by
  obtain ⟨a0, len, cap, rfl⟩ := okWide_slice Try.underlying22 hv
  obtain ⟨fuel, hf⟩ := h
  rcases open_slice Try.underlying22 hf with ⟨hcs, -⟩ | ⟨a, len', cap', m, n, D, Pl, hcs, -, hl, hm, hmm, -, hx⟩
  · cases hcs
    exact ⟨none, 0, [], rfl, ⟨none, 0, rfl, Nat.le_refl _, by decide, fun h => absurd h (Nat.lt_irrefl 0)⟩, fun s hs => by cases hs⟩
  · cases hcs
    have hlm : len ≤ m := by rw [hmm]; split <;> omega
    have each : ∀ i, ∃ x : Sp, x.name.size ≤ maxLen ∧ (i < len → ∀ (j : Nat) (u : Value), x.cells[j]? = some u → W.cell? (a.add (i * 7 + j)) = some u) := by
      intro i
      by_cases hi : i < len
      · obtain ⟨cs', hc, ht⟩ := hx i (by omega)
        rw [show Try.prog.cellsOf 30 = 7 by kernel_rfl] at hc
        obtain ⟨-, -, hat⟩ := World.cells?_some hc
        obtain ⟨x0, e0, -⟩ := leaf_int (d := 3) (k := .i64) 0 ht (by kernel_rfl)
        obtain ⟨x1, e1, -⟩ := leaf_int (d := 3) (k := .i64) 1 ht (by kernel_rfl)
        obtain ⟨x2, e2, -⟩ := leaf_int (d := 3) (k := .i64) 2 ht (by kernel_rfl)
        obtain ⟨x3, e3, -⟩ := leaf_int (d := 3) (k := .i64) 3 ht (by kernel_rfl)
        obtain ⟨x4, e4, -⟩ := leaf_int (d := 3) (k := .i64) 4 ht (by kernel_rfl)
        obtain ⟨x5, e5, h5⟩ := leaf_string (d := 3) 5 ht (by kernel_rfl)
        obtain ⟨x6, e6, -⟩ := leaf_int (d := 3) (k := .i64) 6 ht (by kernel_rfl)
        refine ⟨⟨x0, x1, x2, x3, x4, x5, x6⟩, h5, fun _ j u hj => ?_⟩
        have hj7 : j < 7 := (List.getElem?_eq_some_iff.1 hj).1
        rw [← add_add, hat j hj7]
        have : j = 0 ∨ j = 1 ∨ j = 2 ∨ j = 3 ∨ j = 4 ∨ j = 5 ∨ j = 6 := by omega
        rcases this with rfl | rfl | rfl | rfl | rfl | rfl | rfl
        · exact e0.trans hj
        · exact e1.trans hj
        · exact e2.trans hj
        · exact e3.trans hj
        · exact e4.trans hj
        · exact e5.trans hj
        · exact e6.trans hj
      · exact ⟨⟨0, 0, 0, 0, 0, ⟨#[]⟩, 0⟩, by decide, fun h => absurd h hi⟩
    have F : ∃ g : Nat → Sp, ∀ i, (g i).name.size ≤ maxLen ∧ (i < len → ∀ (j : Nat) (u : Value), (g i).cells[j]? = some u → W.cell? (a.add (i * 7 + j)) = some u) := ⟨fun i => Classical.choose (each i), fun i => Classical.choose_spec (each i)⟩
    obtain ⟨g, hg⟩ := F
    have hlen : ((List.range len).map g).length = len := by simp
    refine ⟨some a, cap, (List.range len).map g, by rw [hlen], ?_, ?_⟩
    · rw [hlen]
      refine ⟨some a, cap, rfl, hl, hm, fun hp => ?_⟩
      have h00 := (hg 0).2 hp 0 _ rfl
      have hsp : a.spot = none := by have := World.cell?_spot h00; simpa [Addr.add] using this
      obtain ⟨b, o, sp⟩ := a
      obtain rfl : sp = none := hsp
      have hb := Clock.block_lt h00
      refine ⟨b, o, rfl, by simpa [Addr.add] using hb, fun j u hj => ?_⟩
      obtain ⟨k, i, e, rfl, hi7, hke, hu⟩ := spc_get hj
      have hk' : k < len := by have := (List.getElem?_eq_some_iff.1 hke).1; rwa [hlen] at this
      rw [List.getElem?_map, List.getElem?_range hk'] at hke
      simp only [Option.map_some, Option.some.injEq] at hke
      subst hke
      have := (hg k).2 hk' i u hu
      rw [addr_add] at this
      exact this
    · intro e he
      obtain ⟨i, -, rfl⟩ := List.mem_map.1 he
      exact (hg i).1
end
end Go.Proofs.Ytdndljbagjfkkaa
