/- The law GroupsStretches: the leaving, two marks handed over. -/
import Derived.Test.YtdbbipdkaahplaaAfter
namespace Go.Proofs.Ytdbbipdkaahplaa
open Go.RowKit Go.Shelf

theorem str_end (N D1 D2 : Nat) (w W : World) (tm : Array Value) (hN : w.heap.size = N) (hb : Below N w W) (hR : Boxed W (N + 1 + 1 + 1) 4 (.bool true))
    (h1 : W.heap[D1]? = some (.deferred (some []))) (h2 : W.heap[D2]? = some (.deferred (some []))) (hne : D1 ≠ D2) (hg1 : N ≤ D1) (hg2 : N ≤ D2)
    (ht : tm[6]?.getD undef = .pointer (some ⟨N + 1 + 1 + 1, 0, none⟩)) :
    LeavesInM Fence.wide 10 Try.prog Try.f3 tm (fun e w' => e = Ending.returned (.bool true) ∧ Below w.heap.size w w') [{ target := .collected D2, args := #[] }, { target := .collected D1, args := #[] }] .returning W := by
  subst hN
  have h1' : (W.putObj D2 (.deferred none)).heap[D1]? = some (.deferred (some [])) := (World.putObj_heap_other hne).trans h1
  have hb1 := hb.trans (belowK_b (n₀ := w.heap.size) (w := w) (Nat.le_refl _) W D2 _ (.deferred none) hg2 h2 rfl rfl)
  have hb2 := hb1.trans (belowK_b (n₀ := w.heap.size) (w := w) (Nat.le_refl _) _ D1 _ (.deferred none) hg1 h1' rfl rfl)
  have hr1 := boxed_far hR (grownBy_putObj' W D2 (.deferred none)) (fun r e => by cases e; exact .inl ⟨_, h2, rfl⟩)
  have hr2 := boxed_far hr1 (grownBy_putObj' _ D1 (.deferred none)) (fun r e => by cases e; exact .inl ⟨_, h1', rfl⟩)
  refine ⟨by simp, .inl ⟨_, _, rfl, run_takeDeferred h2, ?_⟩⟩
  refine ⟨by simp, .inl ⟨_, _, rfl, run_takeDeferred h1', ?_⟩⟩
  refine ⟨.bool true, ?_, rfl, hb2⟩
  have hc := hr2.cell
  simp [results, Try.f3, go_sem, ht, hc]
end Go.Proofs.Ytdbbipdkaahplaa
