/- In a round of a range over a function: a region that draws its order, out of the plain law on it. -/
import Derived.Test.YtdndljbagjfkkaaTr
import Derived.OrdersHeld
import Derived.OrdersIn
import Derived.RangeFuncCalls
namespace Go.Proofs.Ytdndljbagjfkkaa
open Go.RowKit

/-- The region of these operations has no defer statement. -/
def noDefer (ops : Array Oper) : Bool := ops.all fun o => match o.op with | .defer _ => false | _ => true

section
variable {P : Program} {ops : Array Oper} {Q : Exit → Act → World → Prop} {md : Region.Mode} {l n : Nat}

theorem rowsIn_wide {row : String} {args : Array Value} {w : World} {R : Value → World → Prop} (h : Rows P row args w R) : RowsIn (Fence.wide.inRound l) n P row args w R :=
  fun c cs _ => let ⟨v, w', r, s⟩ := h c cs; ⟨v, w', r, by exact stepsIn_wide.2 s⟩

theorem wpOpIn_of_wpOp {i : Nat} {K : Act → World → Prop} {a : Act} {w : World} (hd : noDefer ops = true) (hQ : ¬ LetsOut Q) (h : wpOp P ops Q i K a w) : wpOpIn (Fence.wide.inRound l) n P ops Q i K a w := by
  unfold wpOp at h
  unfold wpOpIn
  cases ho : ops[i]? with
  | none => simpa [ho] using h
  | some o =>
    simp only [ho] at h ⊢
    split
    · rename_i hw
      rw [if_pos hw] at h
      rcases h with h | h
      · refine ⟨fun _ _ => trivial, ?_⟩
        have hnd : ∀ c, o.op ≠ .defer c := by
          intro c hc
          have := Array.all_eq_true'.1 hd o (by obtain ⟨hl, he⟩ := Array.getElem?_eq_some_iff.1 ho; exact he ▸ Array.getElem_mem hl)
          rw [hc] at this; cases this
        rw [Oper.semAt_eq _ _ _ hnd]
        unfold Oper.wp at h
        generalize (execOp a.eval o).run P w = r at *
        cases r with
        | ok x w' =>
          cases x <;> simp only [Oper.upon, Oper.uponIn] at h ⊢ <;>
            first
              | exact h
              | exact ⟨(fun hh => by cases hh), CallsIn.inRound l (callsIn_wide.2 h)⟩
              | exact ⟨(fun hh => by cases hh), rowsIn_wide h⟩
        | halt x w' => cases x <;> simp only [Oper.upon, Oper.uponIn] at h ⊢ <;> exact h
      · exact (hQ h.2).elim
    · rename_i hw
      rw [if_neg hw] at h
      exact ⟨fun _ _ => trivial, h⟩

theorem wpAnyIn_of_wpAny (hd : noDefer ops = true) (hQ : ¬ LetsOut Q) : ∀ (fuel : Nat) (listed : Array Bool) (a : Act) (w : World), wpAny P md ops Q fuel listed a w → wpAnyIn (Fence.wide.inRound l) n P md ops Q fuel listed a w
  | 0, _, _, _, h => h
  | fuel + 1, _, _, _, h => ⟨h.1, fun i hi => wpOpIn_mono (fun a' w' h' => wpAnyIn_of_wpAny hd hQ fuel _ a' w' h') (wpOpIn_of_wpOp hd hQ (h.2 i hi))⟩

/-- An operation with a temporary taken first; the frame with that temporary. -/
theorem wpAnyH_take' (i d : Nat) (v : Value) {oi : Oper} {fuel : Nat} {listed : Array Bool} {a : Act} {w : World} (hi : ops[i]? = some oi) (hdst : oi.dst = some d)
    (hs : Region.noSelect ops = true) (hf : Region.free md ops listed i = true) (hr : (Region.ready md ops listed).contains i = true)
    (hQ : ∀ c a w, Q (.panic c) a w → False) (hg : oi.guard = none) {S : World → Prop} (hy : ∀ w, S w → (execOp a.eval oi).run P w = .ok (.value v) w) (hS : S w)
    (h : wpAnyH P md ops Q S fuel (listed.setIfInBounds i true) { tmps := a.tmps.setIfInBounds d v, defers := a.defers } w) : wpAnyH P md ops Q S (fuel + 1) listed a w :=
  wpAnyH_take hi hs hf hr (fun c a w h => (hQ c _ w h).elim) (.inl ⟨by simp [Region.wanted, hg], hy⟩) hS (by rw [hdst]; exact h)

/-- What a region leaves: it ends, and R. -/
def EndsIn (R : Act → World → Prop) : Exit → Act → World → Prop
  | .normal, a, w => R a w
  | _, _, _ => False

/-- The region that draws, in a round: by the plain law, with 'S' held behind every operation. -/
theorem wpIn_region_held {S : World → Prop} {R : Act → World → Prop} {id : Nat} {a : Act} {w : World} (hm : P.follows .mixedOrders = true) (hd : noDefer ops = true)
    (h : wpAnyH P .any ops (EndsIn R) S ops.size (Array.replicate ops.size false) a w.drew) (hR : ∀ a w, R a w → Q .normal a w) : (Code.region id ops true).wpIn (Fence.wide.inRound l) n P Q a w :=
  wpIn_mono (wpIn_region_any hm (wpAnyIn_of_wpAny hd (fun ⟨_, _, h⟩ => h) _ _ _ _ (wpAny_of_held _ _ _ _ h))) fun e a w he => by
    cases e <;> first | exact hR _ _ he | exact he.elim
end
end Go.Proofs.Ytdndljbagjfkkaa
