/- keepsakelaw04.GroupsDeal returns true, whatever the two numbers and the keys: the arguments together of bulk at most the given bound. -/
import Derived.Test.YtdbbipdkaahplaaLaw
import Derived.Test.YtdbbipdkaahplaaDealNil
import Derived.JoinedCond
import Derived.Clock
namespace Go.Proofs.Ytdbbipdkaahplaa
open Go.ChangeShapes Go.WideShapes Go.ChangeAt Go.ChangeMaps Go.RowKit

theorem bulk_len {H : Type} (l : List (DataW H)) : l.length ≤ Rows.uptoBulkAll l := by
  induction l with
  | nil => simp [Rows.uptoBulkAll]
  | cons x r ih =>
    have : 1 ≤ Rows.uptoBulk x := by
      cases x with
      | lit l => cases l <;> simp [Rows.uptoBulk]
      | nil => simp [Rows.uptoBulk]
      | ptr d => simp [Rows.uptoBulk]
      | slice elems spare => simp [Rows.uptoBulk]
      | agg parts => simp [Rows.uptoBulk]
      | iface t d => simp [Rows.uptoBulk]
      | map entries => simp [Rows.uptoBulk]
      | held h => simp [Rows.uptoBulk]
    simp only [Rows.uptoBulkAll, List.length_cons]; omega

theorem dealLaw_any (p g : Int) (a : Option Addr) (cap : Nat) (ks : List ByteArray) (w : World) (ha : a = none → ks.length = 0 ∧ cap = 0) (hk : ks.length ≤ 1048576) (hs : ∀ k ∈ ks, k.size ≤ maxLen) (hr : Rd w (.slice a ks.length cap) ks.length (txCells ks)) (hw : ∀ ad, a = some ad → ∀ j u, (txCells ks)[j]? = some u → w.cell? (ad.add j) = some u) :
    Calls Try.prog 7 #[.int .i64 p, .int .i64 g, .slice a ks.length cap] w fun e w' => e = .returned (.bool true) ∧ Below w.heap.size w w' := by
  cases a with
  | none =>
    obtain ⟨h0, rfl⟩ := ha rfl
    have hr' : Rd w (.slice none 0 0) ks.length (txCells ks) := by rw [h0] at hr ⊢; exact hr
    rw [h0]
    by_cases hf : fits p g ks
    · obtain ⟨P, rfl⟩ := Int.eq_ofNat_of_zero_le (show 0 ≤ p by have := hf.1.2.2.1; omega)
      exact dealLaw_good_nil P g ks h0 w hf hk hs hr'
    · exact dealLaw_fail_nil p g ks h0 w hf hk hs hr'
  | some ad =>
    by_cases hf : fits p g ks
    · obtain ⟨P, rfl⟩ := Int.eq_ofNat_of_zero_le (show 0 ≤ p by have := hf.1.2.2.1; omega)
      exact dealLaw_good P g ad cap ks w hf hk hs hr (hw ad rfl)
    · exact dealLaw_fail p g ad cap ks w hf hk hs hr (hw ad rfl)

theorem getElem_txCells {ss : List ByteArray} {j : Nat} {u : Value} (h : (txCells ss)[j]? = some u) : j < ss.length ∧ u = .string (ss.getD j ByteArray.empty) := by
  unfold txCells at h
  rw [List.getElem?_map, Option.map_eq_some_iff] at h
  obtain ⟨s, hs, rfl⟩ := h
  have hj := (List.getElem?_eq_some_iff.1 hs).1
  exact ⟨hj, by rw [List.getD, hs]; rfl⟩

set_option maxRecDepth 100000 in
theorem deal_contract (H : Type) (enc : TypeId × Value → H) (W : World) (base : Nat) (args : Array Value) (ds gs : List (DataW H)) (before : List MemPlace)
    (hval0 : ∀ (j : Nat) t v, Try.f7.params[j]? = some t → args[j]? = some v → Value.okWide Try.prog W .any base t v)
    (hW : DataW.Whole enc Try.prog Try.f7.params.toList Rows.groupsDealSpec.vars false W args.toList ds gs before) (hk : Rows.uptoSmall H (ds ++ gs) = true) :
    Calls Try.prog 7 args W fun e W' => ∃ v, e = .returned v ∧ Rows.groupsDealSpec.post enc Try.prog Try.f7 false true false false W args v W' := by
  have hval : ∀ (j : Nat) t v, Try.f7.params[j]? = some t → args[j]? = some v → Value.okWide Try.prog W .any base t v := hval0
  have hW' := hW
  obtain ⟨p, q, hA0, hV, rfl, -, -⟩ := hW'
  have hlt : ∀ x ∈ p ++ q, x.block < W.heap.size := fun x hx => hW.lt x hx
  have hA : DataW.TrodAll enc Try.prog W 0 (fun _ => true) true Try.f7.params.toList args.toList ds p := hA0
  rw [Try.params7] at hA hval
  obtain ⟨v0, vs0, d0, ds0, p0, q0, hargs, rfl, rfl, h0, r0⟩ := trodAll_cons hA
  obtain ⟨v1, vs1, d1, ds1, p1, q1, rfl, rfl, rfl, h1, r1⟩ := trodAll_cons r0
  obtain ⟨v2, vs2, d2, ds2, p2, q2, rfl, rfl, rfl, h2, r2⟩ := trodAll_cons r1
  obtain ⟨rfl, rfl, rfl⟩ := trodAll_nil r2
  obtain rfl : args = #[v0, v1, v2] := by cases args; simp_all
  obtain ⟨rfl, rfl⟩ := trodVars_none hV
  obtain ⟨a, rfl, rfl, rfl, wa⟩ := open_int Try.underlying3 (hval 0 3 v0 rfl rfl) h0
  obtain ⟨b, rfl, rfl, rfl, wb⟩ := open_int Try.underlying3 (hval 1 3 v1 rfl rfl) h1
  obtain ⟨a0, len, cap, rfl⟩ := okWide_slice Try.underlying56 (hval 2 56 v2 rfl rfl)
  obtain ⟨fuel, hf⟩ := h2
  have fin : ∀ (e : Ending) (W' : World), e = .returned (.bool true) ∧ Below W.heap.size W W' → ∃ v, e = .returned v ∧ Rows.groupsDealSpec.post enc Try.prog Try.f7 false true false false W #[.int .i64 a, .int .i64 b, .slice a0 len cap] v W' := by
    rintro e W' ⟨rfl, hb⟩
    exact ⟨_, rfl, law_post Try.laidOut (by rw [Try.params7]; decide +kernel) rfl Try.underlying4 rfl hW rfl hb⟩
  rcases open_strings Try.underlying56 Try.underlying9 (by kernel_rfl) hf with ⟨hcs, hx⟩ | ⟨ad, len', cap', ss, hcs, _, hl, hm, hz, hx, hcell, hsz⟩
  · cases hcs
    refine Calls.mono ?_ fin
    exact dealLaw_any a b none 0 [] W (fun _ => ⟨rfl, rfl⟩) (by simp) (by simp) ⟨_, _, rfl, Nat.le_refl _, by decide, fun h => by simp at h⟩ (fun ad e => by cases e)
  · cases hcs
    cases hx
    have hlen : len ≤ 1048576 := by
      have h : Rows.uptoBulkAll _ ≤ 1048576 := of_decide_eq_true hk
      simp only [Rows.uptoBulkAll, Rows.uptoBulk, List.cons_append, List.nil_append, List.append_nil] at h
      have h2 := bulk_len (H := H) (strs (List.take len ss))
      have h3 : (strs (H := H) (List.take len ss)).length = len := by simp [strs]; split at hz <;> omega
      omega
    have hle : len ≤ ss.length := by split at hz <;> omega
    have hl3 : (ss.take len).length = len := by rw [List.length_take]; omega
    have key := dealLaw_any a b (some ad) cap (ss.take len) W (fun e => by cases e) (by omega) (fun k hk => hsz k (List.mem_of_mem_take hk))
    rw [hl3] at key
    have hc : ∀ j u, (txCells (ss.take len))[j]? = some u → W.cell? (ad.add j) = some u := by
      intro j u hj
      obtain ⟨hj1, rfl⟩ := getElem_txCells hj
      rw [hl3] at hj1
      rw [hcell j (by omega)]
      congr 2
      rw [List.getD, List.getD, List.getElem?_take_of_lt hj1]
    refine Calls.mono (key ⟨_, _, rfl, hl, hm, fun hp => ?_⟩ (fun ad' e => by cases e; exact hc)) fin
    have h00 := hcell 0 (by omega)
    have hsp : ad.spot = none := by have := World.cell?_spot h00; simpa [Addr.add] using this
    obtain ⟨g, o, sp⟩ := ad
    obtain rfl : sp = none := hsp
    refine ⟨g, o, rfl, ?_, fun j u hj => ?_⟩
    · have := Clock.block_lt h00; simpa [Addr.add] using this
    · rw [← addr_add]; exact hc j u hj

set_option maxRecDepth 100000 in
theorem groupsDeal_lifted (os : Os) (started : os.Started) (H : Type) (enc : TypeId × Value → H) (F : Stop.Interp) :
    ReturnsInHanded {} Try.checked os 7 .any ((Rows.OpenSpec.upto Rows.groupsDealSpec).pre6 enc Try.prog Try.f7 Rows.groupsDealUptoRow.domain false) (((Rows.OpenSpec.upto Rows.groupsDealSpec).at F).post enc Try.prog Try.f7 false true false false) := by
  refine returnsInHanded_of_cond (C := Try.checked) (s := Rows.OpenSpec.upto Rows.groupsDealSpec) (k := Rows.uptoSmall) rfl Try.own started (by kernel_rfl) Try.func7
    (OpenSpec.witness (enc := enc) (C := Try.checked) (s := Rows.OpenSpec.upto Rows.groupsDealSpec) (k := Rows.uptoSmall) rfl false ⟨#[], #[.int .i64 0, .int .i64 0, .slice none 0 0], []⟩ 8 (by kernel_rfl) (by kernel_rfl) (by kernel_rfl)
      (x := ([.lit (.int .i64 0), .lit (.int .i64 0), .nil], [], [])) (by kernel_rfl) rfl (by kernel_rfl)) ?_
  intro W base args ds gs before hval hW _ hk _
  exact deal_contract H enc W base args ds gs before hval hW hk

theorem groupsDeal_holds : Rows.GroupsDealUptoSaid :=
  OpenClaim.holds_of_cond 7 Try.f7 rfl rfl rfl rfl rfl rfl rfl ⟨rfl, rfl, rfl, rfl, rfl⟩ rfl rfl rfl rfl rfl (by kernel_rfl) Try.func7 (by kernel_rfl)
    (of_decide_eq_true (by kernel_rfl)) (by unfold Func.isWrapper; first | (rw [if_pos (by decide +kernel)]; kernel_rfl) | (rw [if_neg (by decide +kernel)]; exact ⟨rfl, rfl⟩))
    (fun os started H enc _ F => groupsDeal_lifted os started H enc F)
end Go.Proofs.Ytdbbipdkaahplaa
