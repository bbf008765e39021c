/- keepsakelaw13.ClockMeanwhile returns true, whatever is held and whatever follows: no condition. -/
import Derived.Test.YtdndljbagjfkkaaOpenPl
import Derived.Test.YtdndljbagjfkkaaMw4
namespace Go.Proofs.Ytdndljbagjfkkaa
open Go.ChangeShapes Go.WideShapes Go.ChangeAt Go.RowKit Go.Deep
open Go.ChangeMaps (open_string shut_string)

set_option maxRecDepth 100000 in
theorem clockMeanwhile_lifted (os : Os) (started : os.Started) (H : Type) (enc : TypeId × Value → H) :
    ReturnsInHanded {} Try.checked os 4 .any (Rows.clockMeanwhileSpec.pre6 enc Try.prog Try.f4 Rows.clockMeanwhileRow.domain false) (Rows.clockMeanwhileSpec.post enc Try.prog Try.f4 false true false false) := by
  refine returnsInHanded_of_change_sized (C := Try.checked) Try.own started (by kernel_rfl) Try.func4
    (ChangeSpec.witness6 (enc := enc) (C := Try.checked) false ⟨#[], #[.slice none 0 0, .slice none 0 0], []⟩ 8 (by kernel_rfl) (by kernel_rfl) (by kernel_rfl) (by kernel_rfl)) ?_
  intro W base args ds gs before hval0 hW _ hsz0 _
  have hval : ∀ (j : Nat) t v, Try.f4.params[j]? = some t → args[j]? = some v → Value.okWide Try.prog W .any base t v := hval0
  have hsz : (DataW.weightsEach Try.prog (Try.f4.params.toList ++ Rows.clockMeanwhileSpec.plain.varTypes Try.prog) (ds ++ gs)).all (· ≤ reachBytes) = true := hsz0
  clear hsz0
  have hW' := hW
  obtain ⟨p, q, hA0, hV, -, -, -⟩ := hW'
  have hA : DataW.TrodAll enc Try.prog W 0 (fun _ => true) true Try.f4.params.toList args.toList ds p := hA0
  rw [Try.params4] at hA hval hsz
  obtain ⟨v0, vs0, d0, ds0, p0, q0, hargs, rfl, rfl, h0, r0⟩ := trodAll_cons hA
  obtain ⟨v1, vs1, d1, ds1, p1, q1, rfl, rfl, rfl, h1, r1⟩ := trodAll_cons r0
  obtain ⟨rfl, rfl, rfl⟩ := trodAll_nil r1
  obtain rfl : args = #[v0, v1] := by cases args; simp_all
  obtain ⟨rfl, -⟩ := trodVars_none hV
  obtain ⟨a1, cap1, l1, rfl, hr1, hs1⟩ := open_steps (hval 0 22 v0 rfl rfl) h0
  obtain ⟨a2, cap2, l2, rfl, hr2, hs2⟩ := open_steps (hval 1 22 v1 rfl rfl) h1
  have hn : l1.length ≤ 2199023255488 := by
    rcases shape_slice Try.underlying22 h0 with ⟨-, h⟩ | ⟨es, sp, rfl, he⟩
    · omega
    · have := sized_slice hsz (j := 0) (t := 22) (e := 30) rfl rfl Try.underlying22
      rw [bytesSt] at this
      simp only [reachBytes] at this
      omega
  refine (clockMeanwhile_walk a1 l1.length cap1 l1 a2 l2.length cap2 l2 W hr1 rfl hs1 hr2 rfl hs2 hn).mono fun e W' ⟨he, hb⟩ => ?_
  subst he
  exact ⟨_, rfl, law_post Try.laidOut (by rw [Try.params4]; decide +kernel) rfl Try.underlying4 rfl hW rfl hb⟩

theorem clockMeanwhile_holds : Rows.ClockMeanwhileSaid :=
  OpenClaim.holds_of_wide 4 Try.f4 rfl rfl rfl rfl rfl rfl rfl ⟨rfl, rfl, rfl, rfl, rfl⟩ rfl rfl rfl rfl rfl (by kernel_rfl) Try.func4 (by kernel_rfl)
    (of_decide_eq_true (by kernel_rfl)) (by unfold Func.isWrapper; first | (rw [if_pos (by decide +kernel)]; kernel_rfl) | (rw [if_neg (by decide +kernel)]; exact ⟨rfl, rfl⟩))
    (fun os started H enc _ => clockMeanwhile_lifted os started H enc)
end Go.Proofs.Ytdndljbagjfkkaa
