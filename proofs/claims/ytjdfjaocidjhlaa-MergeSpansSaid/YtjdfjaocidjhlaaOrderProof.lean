/- keepsakelaw09.MergeOrder returns true, whatever the times and the gap: no condition. -/
import Derived.Test.YtjdfjaocidjhlaaJproof
import Derived.Test.YtjdfjaocidjhlaaOrder
namespace Go.Proofs.Ytjdfjaocidjhlaa
open Go.ChangeShapes Go.WideShapes Go.ChangeAt Go.RowKit Go.Deep
open Go.ChangeMaps (open_string shut_string)

set_option maxRecDepth 100000 in
set_option maxHeartbeats 1000000 in
theorem mergeOrder_long (a : Option Addr) (n cap : Nat) (x : Int) (hcap : cap ≤ maxLen) (hn : n ≤ cap) (w : World) (hlen : 100 < n) :
    Calls Try.prog 5 #[.slice a n cap, .int .i64 x] w fun e w' => e = .returned (.bool true) ∧ Below w.heap.size w w' := by
  unfold maxLen at hcap
  have hcn : (n : Int) ≤ 9223372036854775807 := by omega
  clear hcap
  have hln : decide ((100 : Int) < (n : Int)) = true := by simp; omega
  go_enter Try.func5, Try.ntmps5
  go_wp2_with (first
    | (go_at_call 7; (with_reducible refine (known_any _).mono ?_); rintro e w1 ⟨rfl, hb1⟩))
  go_ret
  exact ⟨rfl, hb1⟩
theorem mergeOrder_any (v : Value) (zs : List Int) (x : Int) (w : World) (hr : Rd w v zs.length (ic zs)) :
    Calls Try.prog 5 #[v, .int .i64 x] w fun e w' => e = .returned (.bool true) ∧ Below w.heap.size w w' := by
  by_cases hlen : zs.length ≤ 100
  · exact mergeOrder_short v zs x w (Nums.of_rd hr) hlen
  · obtain ⟨a, cap, rfl, h1, h2, -⟩ := hr
    exact mergeOrder_long a _ cap x h2 h1 w (by omega)
section
variable {H : Type} {enc : TypeId × Value → H}
set_option maxRecDepth 100000 in
theorem open_times {W : World} {v : Value} {d : DataW H} {p : List MemPlace} {base b0 : Nat} {spare : Nat → Bool} {held : Bool} (hv : Value.okWide Try.prog W .any b0 47 v) (h : DataW.Trod enc Try.prog W base spare held 47 v d p) :
    ∃ l : List Int, Rd W v l.length (ic l) := by
  obtain ⟨a0, len, cap, rfl⟩ := okWide_slice Try.underlying47 hv
  obtain ⟨fuel, hf⟩ := h
  rcases open_slice Try.underlying47 hf with ⟨hcs, -⟩ | ⟨a, len', cap', m, n, D, Pl, hcs, -, hl, hm, hmm, -, hx⟩
  · cases hcs
    exact ⟨[], none, 0, rfl, Nat.le_refl _, by decide, fun h => absurd h (by simp)⟩
  · cases hcs
    have hlm : len ≤ m := by rw [hmm]; split <;> omega
    have each : ∀ i, ∃ x : Int, i < len → W.cell? (a.add i) = some (.int .i64 x) := by
      intro i
      by_cases hi : i < len
      · obtain ⟨cs', hc, ht⟩ := hx i (by omega)
        rw [show Try.prog.cellsOf 2 = 1 by kernel_rfl] at hc
        obtain ⟨-, -, hat⟩ := World.cells?_some hc
        obtain ⟨x0, e0, -⟩ := leaf_int (d := 3) (k := .i64) 0 ht (by kernel_rfl)
        refine ⟨x0, fun _ => ?_⟩
        have := hat 0 (by omega)
        rw [e0, Nat.mul_one] at this
        simpa [Addr.add] using this
      · exact ⟨0, fun h => absurd h hi⟩
    have F : ∃ g : Nat → Int, ∀ i, i < len → W.cell? (a.add i) = some (.int .i64 (g i)) := ⟨fun i => Classical.choose (each i), fun i => Classical.choose_spec (each i)⟩
    obtain ⟨g, hg⟩ := F
    refine ⟨(List.range len).map g, some a, cap, by simp, by simpa using hl, hm, fun hp => ?_⟩
    have hp' : 0 < len := by simpa using hp
    have h00 := hg 0 hp'
    have hsp : a.spot = none := by have := World.cell?_spot h00; simpa [Addr.add] using this
    obtain ⟨b, o, sp⟩ := a
    obtain rfl : sp = none := hsp
    have hb := Clock.block_lt h00
    refine ⟨b, o, rfl, by simpa [Addr.add] using hb, fun j u hj => ?_⟩
    have hj' : j < len := by have := (List.getElem?_eq_some_iff.1 hj).1; simpa [ic] using this
    have := hg j hj'
    rw [addr_add] at this
    rw [this, ← hj]
    simp [ic, hj']
end

set_option maxRecDepth 100000 in
theorem mergeOrder_lifted (os : Os) (started : os.Started) (H : Type) (enc : TypeId × Value → H) :
    ReturnsInHanded {} Try.checked os 5 .any (Rows.mergeOrderSpec.pre6 enc Try.prog Try.f5 Rows.mergeOrderRow.domain false) (Rows.mergeOrderSpec.post enc Try.prog Try.f5 false true false false) := by
  refine returnsInHanded_of_change (C := Try.checked) Try.own started (by kernel_rfl) Try.func5
    (ChangeSpec.witness6 (enc := enc) (C := Try.checked) false ⟨#[], #[.slice none 0 0, .int .i64 0], []⟩ 8 (by kernel_rfl) (by kernel_rfl) (by kernel_rfl) (by kernel_rfl)) ?_
  intro W base args ds gs before hval0 hW _ _
  have hval : ∀ (j : Nat) t v, Try.f5.params[j]? = some t → args[j]? = some v → Value.okWide Try.prog W .any base t v := hval0
  have hW' := hW
  obtain ⟨p, q, hA0, hV, -, -, -⟩ := hW'
  have hA : DataW.TrodAll enc Try.prog W 0 (fun _ => true) true Try.f5.params.toList args.toList ds p := hA0
  rw [Try.params5] at hA hval
  obtain ⟨v0, vs0, d0, ds0, p0, q0, hargs, rfl, rfl, h0, r0⟩ := trodAll_cons hA
  obtain ⟨v1, vs1, d1, ds1, p1, q1, rfl, rfl, rfl, h1, r1⟩ := trodAll_cons r0
  obtain ⟨rfl, rfl, rfl⟩ := trodAll_nil r1
  obtain rfl : args = #[v0, v1] := by cases args; simp_all
  obtain ⟨rfl, -⟩ := trodVars_none hV
  obtain ⟨zs, hz⟩ := open_times (hval 0 47 v0 rfl rfl) h0
  obtain ⟨x, rfl, rfl, rfl, -⟩ := open_int Try.underlying2 (hval 1 2 v1 rfl rfl) h1
  refine (mergeOrder_any v0 zs x W hz).mono fun e W' ⟨he, hb⟩ => ?_
  subst he
  exact ⟨_, rfl, law_post Try.laidOut (by rw [Try.params5]; decide +kernel) rfl Try.underlying4 rfl hW rfl hb⟩

theorem mergeOrder_holds : Rows.MergeOrderSaid :=
  OpenClaim.holds_of_wide 5 Try.f5 rfl rfl rfl rfl rfl rfl rfl ⟨rfl, rfl, rfl, rfl, rfl⟩ rfl rfl rfl rfl rfl (by kernel_rfl) Try.func5 (by kernel_rfl)
    (of_decide_eq_true (by kernel_rfl)) (by unfold Func.isWrapper; first | (rw [if_pos (by decide +kernel)]; kernel_rfl) | (rw [if_neg (by decide +kernel)]; exact ⟨rfl, rfl⟩))
    (fun os started H enc _ => mergeOrder_lifted os started H enc)
end Go.Proofs.Ytjdfjaocidjhlaa
