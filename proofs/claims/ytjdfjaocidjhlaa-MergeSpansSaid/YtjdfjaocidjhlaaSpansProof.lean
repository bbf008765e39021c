/- keepsakelaw09.MergeSpans returns true, whatever the spans, the times and the gap: no condition. -/
import Derived.Test.YtjdfjaocidjhlaaOrderProof
import Derived.Test.YtjdfjaocidjhlaaSpans
namespace Go.Proofs.Ytjdfjaocidjhlaa
open Go.ChangeShapes Go.WideShapes Go.ChangeAt Go.RowKit Go.Deep
open Go.ChangeMaps (open_string shut_string)

theorem scells_at {l : List Sn} {k : Nat} {x : Sn} (h : l[k]? = some x) (j : Nat) (u : Value) (hj : x.cells[j]? = some u) : (scells l)[k * 2 + j]? = some u := by
  obtain ⟨h0, h1⟩ := scells_get h
  match j with
  | 0 => rw [← hj]; exact h0
  | 1 => rw [← hj]; exact h1
  | j + 2 => simp [Sn.cells] at hj
theorem mergeSpans_any (v1 v2 : Value) (p : List Sn) (zs : List Int) (x : Int) (w : World) (hr : Rd w v1 p.length (scells p)) (ht : Rd w v2 zs.length (ic zs)) :
    Calls Try.prog 6 #[v1, v2, .int .i64 x] w fun e w' => e = .returned (.bool true) ∧ Below w.heap.size w w' := by
  obtain ⟨a, cap, rfl, h1, h2, _⟩ := id hr
  obtain ⟨b, cap2, rfl, h3, h4, _⟩ := id ht
  by_cases hlen : p.length ≤ 200 ∧ zs.length ≤ 200
  · exact mergeSpans_short a cap _ p b cap2 _ zs x w rfl rfl hr ht hlen.1 hlen.2
  · exact mergeSpans_long a _ cap b _ cap2 x h2 h1 h4 h3 w (by omega)
section
variable {H : Type} {enc : TypeId × Value → H}
set_option maxRecDepth 100000 in
theorem open_spans {W : World} {v : Value} {d : DataW H} {p : List MemPlace} {base b0 : Nat} {spare : Nat → Bool} {held : Bool} (hv : Value.okWide Try.prog W .any b0 51 v) (h : DataW.Trod enc Try.prog W base spare held 51 v d p) :
    ∃ l : List Sn, Rd W v l.length (scells l) := by
  obtain ⟨a0, len, cap, rfl⟩ := okWide_slice Try.underlying51 hv
  obtain ⟨fuel, hf⟩ := h
  rcases open_slice Try.underlying51 hf with ⟨hcs, -⟩ | ⟨a, len', cap', m, n, D, Pl, hcs, -, hl, hm, hmm, -, hx⟩
  · cases hcs
    exact ⟨[], none, 0, rfl, Nat.le_refl _, by decide, fun h => absurd h (by simp)⟩
  · cases hcs
    have hlm : len ≤ m := by rw [hmm]; split <;> omega
    have each : ∀ i, ∃ x : Sn, i < len → ∀ (j : Nat) (u : Value), x.cells[j]? = some u → W.cell? (a.add (i * 2 + j)) = some u := by
      intro i
      by_cases hi : i < len
      · obtain ⟨cs', hc, ht⟩ := hx i (by omega)
        rw [show Try.prog.cellsOf 24 = 2 by kernel_rfl] at hc
        obtain ⟨-, -, hat⟩ := World.cells?_some hc
        obtain ⟨x0, e0, -⟩ := leaf_int (d := 3) (k := .i64) 0 ht (by kernel_rfl)
        obtain ⟨x1, e1, -⟩ := leaf_int (d := 3) (k := .i64) 1 ht (by kernel_rfl)
        refine ⟨⟨x0, x1⟩, fun _ j u hj => ?_⟩
        have haj := fun (hj2 : j < 2) => hat j hj2
        match j with
        | 0 => have := haj (by omega); rw [e0, Addr.add_add] at this; rw [this, ← hj]; rfl
        | 1 => have := haj (by omega); rw [e1, Addr.add_add] at this; rw [this, ← hj]; rfl
        | j + 2 => simp [Sn.cells] at hj
      · exact ⟨⟨0, 0⟩, fun h => absurd h hi⟩
    have F : ∃ g : Nat → Sn, ∀ i, i < len → ∀ (j : Nat) (u : Value), (g i).cells[j]? = some u → W.cell? (a.add (i * 2 + j)) = some u := ⟨fun i => Classical.choose (each i), fun i => Classical.choose_spec (each i)⟩
    obtain ⟨g, hg⟩ := F
    refine ⟨(List.range len).map g, some a, cap, by simp, by simpa using hl, hm, fun hp => ?_⟩
    have hp' : 0 < len := by simpa using hp
    have h00 := hg 0 hp' 0 (.int .i64 (g 0).s) rfl
    have hsp : a.spot = none := by have := World.cell?_spot h00; simpa [Addr.add] using this
    obtain ⟨b, o, sp⟩ := a
    obtain rfl : sp = none := hsp
    have hb := Clock.block_lt h00
    refine ⟨b, o, rfl, by simpa [Addr.add] using hb, fun j u hj => ?_⟩
    have hjl := (List.getElem?_eq_some_iff.1 hj).1
    rw [scells_length, List.length_map, List.length_range] at hjl
    have hi : j / 2 < len := by omega
    have hgi : ((List.range len).map g)[j / 2]? = some (g (j / 2)) := by simp [hi]
    have hjm : j % 2 < (g (j / 2)).cells.length := by have : (g (j / 2)).cells.length = 2 := rfl; omega
    have h1 := hg (j / 2) hi (j % 2) _ (List.getElem?_eq_getElem hjm)
    have h2 := scells_at hgi (j % 2) _ (List.getElem?_eq_getElem hjm)
    rw [show j / 2 * 2 + j % 2 = j by omega] at h1 h2
    rw [hj] at h2
    cases h2
    rw [addr_add] at h1
    exact h1
end

set_option maxRecDepth 100000 in
theorem mergeSpans_lifted (os : Os) (started : os.Started) (H : Type) (enc : TypeId × Value → H) :
    ReturnsInHanded {} Try.checked os 6 .any (Rows.mergeSpansSpec.pre6 enc Try.prog Try.f6 Rows.mergeSpansRow.domain false) (Rows.mergeSpansSpec.post enc Try.prog Try.f6 false true false false) := by
  refine returnsInHanded_of_change (C := Try.checked) Try.own started (by kernel_rfl) Try.func6
    (ChangeSpec.witness6 (enc := enc) (C := Try.checked) false ⟨#[], #[.slice none 0 0, .slice none 0 0, .int .i64 0], []⟩ 8 (by kernel_rfl) (by kernel_rfl) (by kernel_rfl) (by kernel_rfl)) ?_
  intro W base args ds gs before hval0 hW _ _
  have hval : ∀ (j : Nat) t v, Try.f6.params[j]? = some t → args[j]? = some v → Value.okWide Try.prog W .any base t v := hval0
  have hW' := hW
  obtain ⟨p, q, hA0, hV, -, -, -⟩ := hW'
  have hA : DataW.TrodAll enc Try.prog W 0 (fun _ => true) true Try.f6.params.toList args.toList ds p := hA0
  rw [Try.params6] at hA hval
  obtain ⟨v0, vs0, d0, ds0, p0, q0, hargs, rfl, rfl, h0, r0⟩ := trodAll_cons hA
  obtain ⟨v1, vs1, d1, ds1, p1, q1, rfl, rfl, rfl, h1, r1⟩ := trodAll_cons r0
  obtain ⟨v2, vs2, d2, ds2, p2, q2, rfl, rfl, rfl, h2, r2⟩ := trodAll_cons r1
  obtain ⟨rfl, rfl, rfl⟩ := trodAll_nil r2
  obtain rfl : args = #[v0, v1, v2] := by cases args; simp_all
  obtain ⟨rfl, -⟩ := trodVars_none hV
  obtain ⟨ps, hp⟩ := open_spans (hval 0 51 v0 rfl rfl) h0
  obtain ⟨zs, hz⟩ := open_times (hval 1 47 v1 rfl rfl) h1
  obtain ⟨x, rfl, rfl, rfl, -⟩ := open_int Try.underlying2 (hval 2 2 v2 rfl rfl) h2
  refine (mergeSpans_any v0 v1 ps zs x W hp hz).mono fun e W' ⟨he, hb⟩ => ?_
  subst he
  exact ⟨_, rfl, law_post Try.laidOut (by rw [Try.params6]; decide +kernel) rfl Try.underlying4 rfl hW rfl hb⟩

theorem mergeSpans_holds : Rows.MergeSpansSaid :=
  OpenClaim.holds_of_wide 6 Try.f6 rfl rfl rfl rfl rfl rfl rfl ⟨rfl, rfl, rfl, rfl, rfl⟩ rfl rfl rfl rfl rfl (by kernel_rfl) Try.func6 (by kernel_rfl)
    (of_decide_eq_true (by kernel_rfl)) (by unfold Func.isWrapper; first | (rw [if_pos (by decide +kernel)]; kernel_rfl) | (rw [if_neg (by decide +kernel)]; exact ⟨rfl, rfl⟩))
    (fun os started H enc _ => mergeSpans_lifted os started H enc)
end Go.Proofs.Ytjdfjaocidjhlaa
