/- keepsakelaw13.ClockPlays returns true, whatever the number of sources, the marks and the script: no condition. -/
import Derived.Test.YtdndljbagjfkkaaOpenPl
import Derived.Test.YtdndljbagjfkkaaPl11
import Derived.Test.YtdndljbagjfkkaaPl10
import Derived.Test.YtdndljbagjfkkaaPl01
import Derived.Test.YtdndljbagjfkkaaPl00
namespace Go.Proofs.Ytdndljbagjfkkaa
open Go.ChangeShapes Go.WideShapes Go.ChangeAt Go.RowKit Go.Deep
open Go.ChangeMaps (open_string shut_string)
theorem clockPlays_any (x : Int) (A : Option Addr) (n cap : Nat) (L : List Int) (Ab : Option Addr) (m cap2 : Nat) (sp : List Sp) (w : World)
    (hr : Rd w (.slice A n cap) n (ic L)) (hL : L.length = n) (hs : Rd w (.slice Ab m cap2) m (spc sp)) (hm : sp.length = m) (hnm : ∀ s ∈ sp, s.name.size ≤ maxLen) (hn : n ≤ 17592186044410) (hmm : m ≤ 2199023255540) :
    Calls Try.prog 5 #[.int .i64 x, .slice A n cap, .slice Ab m cap2] w fun e w' => e = .returned (.bool true) ∧ Below w.heap.size w w' := by
  by_cases hx : x < 1 ∨ 64 < x
  · by_cases hok : okL L
    · exact clockPlays_01 x A n cap L Ab m cap2 sp w hr hL hs hm hnm hn hmm hx hok
    · exact clockPlays_00 x A n cap L Ab m cap2 sp w hr hL hs hm hnm hn hmm hx hok
  · obtain ⟨S, rfl⟩ : ∃ S : Nat, x = (S : Int) := ⟨x.toNat, by omega⟩
    by_cases hok : okL L
    · exact clockPlays_11 S A n cap L Ab m cap2 sp w hr hL hs hm hnm hn hmm (by omega) (by omega) hok
    · exact clockPlays_10 S A n cap L Ab m cap2 sp w hr hL hs hm hnm hn hmm (by omega) (by omega) hok

set_option maxRecDepth 100000 in
theorem clockPlays_lifted (os : Os) (started : os.Started) (H : Type) (enc : TypeId × Value → H) :
    ReturnsInHanded {} Try.checked os 5 .any (Rows.clockPlaysSpec.pre6 enc Try.prog Try.f5 Rows.clockPlaysRow.domain false) (Rows.clockPlaysSpec.post enc Try.prog Try.f5 false true false false) := by
  refine returnsInHanded_of_change_sized (C := Try.checked) Try.own started (by kernel_rfl) Try.func5
    (ChangeSpec.witness6 (enc := enc) (C := Try.checked) false ⟨#[], #[.int .i64 0, .slice none 0 0, .slice none 0 0], []⟩ 8 (by kernel_rfl) (by kernel_rfl) (by kernel_rfl) (by kernel_rfl)) ?_
  intro W base args ds gs before hval0 hW _ hsz0 _
  have hval : ∀ (j : Nat) t v, Try.f5.params[j]? = some t → args[j]? = some v → Value.okWide Try.prog W .any base t v := hval0
  have hsz : (DataW.weightsEach Try.prog (Try.f5.params.toList ++ Rows.clockPlaysSpec.plain.varTypes Try.prog) (ds ++ gs)).all (· ≤ reachBytes) = true := hsz0
  clear hsz0
  have hW' := hW
  obtain ⟨p, q, hA0, hV, -, -, -⟩ := hW'
  have hA : DataW.TrodAll enc Try.prog W 0 (fun _ => true) true Try.f5.params.toList args.toList ds p := hA0
  rw [Try.params5] at hA hval hsz
  obtain ⟨v0, vs0, d0, ds0, p0, q0, hargs, rfl, rfl, h0, r0⟩ := trodAll_cons hA
  obtain ⟨v1, vs1, d1, ds1, p1, q1, rfl, rfl, rfl, h1, r1⟩ := trodAll_cons r0
  obtain ⟨v2, vs2, d2, ds2, p2, q2, rfl, rfl, rfl, h2, r2⟩ := trodAll_cons r1
  obtain ⟨rfl, rfl, rfl⟩ := trodAll_nil r2
  obtain rfl : args = #[v0, v1, v2] := by cases args; simp_all
  obtain ⟨rfl, -⟩ := trodVars_none hV
  obtain ⟨x, rfl, rfl, rfl, hx⟩ := open_int Try.underlying3 (hval 0 3 v0 rfl rfl) h0
  obtain ⟨a, n, cap, L, rfl, hL, hr⟩ := open_nums (hval 1 32 v1 rfl rfl) h1
  obtain ⟨a2, cap2, l, rfl, hr2, hs⟩ := open_steps (hval 2 22 v2 rfl rfl) h2
  have hn : n ≤ 17592186044410 := by
    rcases shape_slice Try.underlying32 h1 with ⟨-, h⟩ | ⟨es, sp, rfl, he⟩
    · omega
    · have := sized_slice hsz (j := 1) (t := 32) (e := 2) rfl rfl Try.underlying32
      rw [bytesI64] at this
      simp only [reachBytes] at this
      omega
  have hm : l.length ≤ 2199023255540 := by
    rcases shape_slice Try.underlying22 h2 with ⟨-, h⟩ | ⟨es, sp, rfl, he⟩
    · omega
    · have := sized_slice hsz (j := 2) (t := 22) (e := 30) rfl rfl Try.underlying22
      rw [bytesSt] at this
      simp only [reachBytes] at this
      omega
  refine (clockPlays_any x a n cap L a2 l.length cap2 l W hr hL hr2 rfl hs hn hm).mono fun e W' ⟨he, hb⟩ => ?_
  subst he
  exact ⟨_, rfl, law_post Try.laidOut (by rw [Try.params5]; decide +kernel) rfl Try.underlying4 rfl hW rfl hb⟩

theorem clockPlays_holds : Rows.ClockPlaysSaid :=
  OpenClaim.holds_of_wide 5 Try.f5 rfl rfl rfl rfl rfl rfl rfl ⟨rfl, rfl, rfl, rfl, rfl⟩ rfl rfl rfl rfl rfl (by kernel_rfl) Try.func5 (by kernel_rfl)
    (of_decide_eq_true (by kernel_rfl)) (by unfold Func.isWrapper; first | (rw [if_pos (by decide +kernel)]; kernel_rfl) | (rw [if_neg (by decide +kernel)]; exact ⟨rfl, rfl⟩))
    (fun os started H enc _ => clockPlays_lifted os started H enc)
end Go.Proofs.Ytdndljbagjfkkaa
