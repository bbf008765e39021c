/- In a round of a range over a function: a region that draws its order and only reads, walked once. -/
import Derived.Test.YtdndljbagjfkkaaHeldIn
import Derived.Deep.Quiet
import Derived.Deep.QuietTactic
import Derived.BigQuiet
namespace Go.Proofs.Ytdndljbagjfkkaa
open Go.RowKit

theorem wpIn_region_quiet_lit {P : Program} {l₀ n id : Nat} {Q : Exit → Act → World → Prop} {a : Act} {w : World} {l : List Oper} (hm : P.follows .mixedOrders = true) (hd : noDefer l.toArray = true) (hB : Region.lexB .any l.toArray = true)
    (h : wpQuiet P l.toArray (fun w' => ∃ n, w' = w.drewN n) (fun a' => ∀ w', (∃ n, w' = w.drewN n) → Q .normal a' w') l a) : (Code.region id l.toArray true).wpIn (Fence.wide.inRound l₀) n P Q a w := by
  simp only [Region.lexB, Bool.and_eq_true] at hB
  have h1 := wpAnyQ_lex (C := fun w' => ∃ n, w' = w.drewN n) (md := .any) hB.1 l 0 (Array.replicate l.toArray.size false) a (by simp) (by simpa using hB.2) h
  have e : l.toArray.size = l.length := by simp
  rw [e] at h1
  refine wpIn_mono (wpIn_region_any hm (wpAnyIn_of_wpAny (Q := EndsIn (Q .normal)) hd (fun ⟨_, _, h⟩ => h) _ _ _ _ ?_)) fun e a w he => by
    cases e <;> first | exact he | exact he.elim
  rw [e]
  exact wpAny_of_quiet (C := fun w' => ∃ n, w' = w.drewN n) (Q' := EndsIn (Q .normal)) (fun _ w' hw' h => h w' hw') _ _ _ _ ⟨1, rfl⟩ h1
end Go.Proofs.Ytdndljbagjfkkaa
