/- keepsakelaw09.MergeStays returns true, whatever the windows and the two spans, watermarks and holds: no condition. -/
import Derived.Test.YtjdfjaocidjhlaaJproof
import Derived.Test.YtjdfjaocidjhlaaStays2
namespace Go.Proofs.Ytjdfjaocidjhlaa
open Go.ChangeShapes Go.WideShapes Go.ChangeAt Go.RowKit Go.Deep
open Go.ChangeMaps (open_string shut_string)

theorem mergeStays_any (v : Value) (l : List Wn) (S1 E1 W1 H1 S2 E2 W2 H2 : Int) (w : World) (hr : Rw w v l) (b1 : B64 S1) (b2 : B64 E1) (b3 : B64 S2) (b4 : B64 E2) :
    Calls Try.prog 4 #[v, .agg #[.int .i64 S1, .int .i64 E1, .int .i64 W1, .int .i64 H1], .agg #[.int .i64 S2, .int .i64 E2, .int .i64 W2, .int .i64 H2]] w fun e w' => e = .returned (.bool true) ∧ Below w.heap.size w w' := by
  obtain ⟨a, cap, rfl, h1, h2, _⟩ := id hr
  by_cases hlen : l.length ≤ 100
  · by_cases hg : Ap l ∧ S1 < E1
    · by_cases h : S2 < E2
      · exact mergeStays_two _ a cap l S1 E1 W1 H1 S2 E2 W2 H2 w hr rfl hlen hg.1 hg.2 h b1 b2 b3 b4
      · exact mergeStays_one _ a cap l S1 E1 W1 H1 S2 E2 W2 H2 w hr rfl hlen hg.1 hg.2 h b1 b2 b3 b4
    · exact mergeStays_bad _ a cap l S1 E1 W1 H1 S2 E2 W2 H2 w hr hlen hg
  · exact mergeStays_long _ a cap l S1 E1 W1 H1 S2 E2 W2 H2 w hr h2 h1 (by omega)

section
variable {H : Type} {enc : TypeId × Value → H}
set_option maxRecDepth 100000 in
theorem open_ask2 {W : World} {v : Value} {d : DataW H} {p : List MemPlace} {base b0 : Nat} {spare : Nat → Bool} {held : Bool} (hv : Value.okWide Try.prog W .any b0 26 v) (h : DataW.Trod enc Try.prog W base spare held 26 v d p) :
    ∃ S E Wm H : Int, v = .agg #[.int .i64 S, .int .i64 E, .int .i64 Wm, .int .i64 H] ∧ B64 S ∧ B64 E := by
  unfold Value.okWide at hv
  rw [Try.underlying26] at hv
  obtain ⟨cs, rfl, hsz, -⟩ := hv
  have hs4 : cs.size = 4 := hsz.trans (by kernel_rfl)
  obtain ⟨l⟩ := cs
  obtain ⟨fuel, hf⟩ := h
  obtain ⟨x0, e0, w0⟩ := leaf_int (d := 3) (k := .i64) 0 hf (by kernel_rfl)
  obtain ⟨x1, e1, w1⟩ := leaf_int (d := 3) (k := .i64) 1 hf (by kernel_rfl)
  obtain ⟨x2, e2, -⟩ := leaf_int (d := 3) (k := .i64) 2 hf (by kernel_rfl)
  obtain ⟨x3, e3, -⟩ := leaf_int (d := 3) (k := .i64) 3 hf (by kernel_rfl)
  match l, hs4 with
  | [c0, c1, c2, c3], _ =>
    simp [Value.cells] at e0 e1 e2 e3
    subst e0 e1 e2 e3
    exact ⟨x0, x1, x2, x3, rfl, i64_bd w0, i64_bd w1⟩
end

set_option maxRecDepth 100000 in
theorem mergeStays_lifted (os : Os) (started : os.Started) (H : Type) (enc : TypeId × Value → H) :
    ReturnsInHanded {} Try.checked os 4 .any (Rows.mergeStaysSpec.pre6 enc Try.prog Try.f4 Rows.mergeStaysRow.domain false) (Rows.mergeStaysSpec.post enc Try.prog Try.f4 false true false false) := by
  refine returnsInHanded_of_change (C := Try.checked) Try.own started (by kernel_rfl) Try.func4
    (ChangeSpec.witness6 (enc := enc) (C := Try.checked) false ⟨#[], #[.slice none 0 0, .agg #[.int .i64 0, .int .i64 0, .int .i64 0, .int .i64 0], .agg #[.int .i64 0, .int .i64 0, .int .i64 0, .int .i64 0]], []⟩ 8 (by kernel_rfl) (by kernel_rfl) (by kernel_rfl) (by kernel_rfl)) ?_
  intro W base args ds gs before hval0 hW _ _
  have hval : ∀ (j : Nat) t v, Try.f4.params[j]? = some t → args[j]? = some v → Value.okWide Try.prog W .any base t v := hval0
  have hW' := hW
  obtain ⟨p, q, hA0, hV, -, -, -⟩ := hW'
  have hA : DataW.TrodAll enc Try.prog W 0 (fun _ => true) true Try.f4.params.toList args.toList ds p := hA0
  rw [Try.params4] at hA hval
  obtain ⟨v0, vs0, d0, ds0, p0, q0, hargs, rfl, rfl, h0, r0⟩ := trodAll_cons hA
  obtain ⟨v1, vs1, d1, ds1, p1, q1, rfl, rfl, rfl, h1, r1⟩ := trodAll_cons r0
  obtain ⟨v2, vs2, d2, ds2, p2, q2, rfl, rfl, rfl, h2, r2⟩ := trodAll_cons r1
  obtain ⟨rfl, rfl, rfl⟩ := trodAll_nil r2
  obtain rfl : args = #[v0, v1, v2] := by cases args; simp_all
  obtain ⟨rfl, -⟩ := trodVars_none hV
  obtain ⟨l, hl⟩ := open_wins (hval 0 22 v0 rfl rfl) h0
  obtain ⟨S1, E1, W1, H1, rfl, b1, b2⟩ := open_ask2 (hval 1 26 v1 rfl rfl) h1
  obtain ⟨S2, E2, W2, H2, rfl, b3, b4⟩ := open_ask2 (hval 2 26 v2 rfl rfl) h2
  refine (mergeStays_any v0 l S1 E1 W1 H1 S2 E2 W2 H2 W hl b1 b2 b3 b4).mono fun e W' ⟨he, hb⟩ => ?_
  subst he
  exact ⟨_, rfl, law_post Try.laidOut (by rw [Try.params4]; decide +kernel) rfl Try.underlying4 rfl hW rfl hb⟩

theorem mergeStays_holds : Rows.MergeStaysSaid :=
  OpenClaim.holds_of_wide 4 Try.f4 rfl rfl rfl rfl rfl rfl rfl ⟨rfl, rfl, rfl, rfl, rfl⟩ rfl rfl rfl rfl rfl (by kernel_rfl) Try.func4 (by kernel_rfl)
    (of_decide_eq_true (by kernel_rfl)) (by unfold Func.isWrapper; first | (rw [if_pos (by decide +kernel)]; kernel_rfl) | (rw [if_neg (by decide +kernel)]; exact ⟨rfl, rfl⟩))
    (fun os started H enc _ => mergeStays_lifted os started H enc)
end Go.Proofs.Ytjdfjaocidjhlaa
