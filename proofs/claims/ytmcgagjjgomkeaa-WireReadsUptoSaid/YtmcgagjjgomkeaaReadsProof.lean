/- keepsakelaw01.WireReads returns true, whatever is read: the arguments together of bulk at most the given bound. -/
import Derived.Test.YtmcgagjjgomkeaaOpenPut
import Derived.Test.YtmcgagjjgomkeaaAsk3
namespace Go.Proofs.Ytmcgagjjgomkeaa
open Go.ChangeShapes Go.WideShapes Go.ChangeAt Go.RowKit Go.Deep

section
variable {H : Type} {enc : TypeId × Value → H}
theorem ac_get {es : List (Int × Int)} {j : Nat} {u : Value} (h : (ac es)[j]? = some u) : ∃ k e, es[k]? = some e ∧ ((j = k * 2 + 0 ∧ u = .int .i64 e.1) ∨ (j = k * 2 + 1 ∧ u = .int .i64 e.2)) := by
  have hj : j < es.length * 2 := by rw [← ac_length]; exact (List.getElem?_eq_some_iff.1 h).1
  obtain ⟨e, he⟩ : ∃ e, es[j / 2]? = some e := ⟨_, List.getElem?_eq_getElem (by omega)⟩
  obtain ⟨h1, h2⟩ := ac_at he
  refine ⟨j / 2, e, he, ?_⟩
  rcases Nat.mod_two_eq_zero_or_one j with h0 | h0
  · rw [show j / 2 * 2 + 0 = j by omega, h] at h1
    exact .inl ⟨by omega, Option.some.inj h1⟩
  · rw [show j / 2 * 2 + 1 = j by omega, h] at h2
    exact .inr ⟨by omega, Option.some.inj h2⟩
set_option maxRecDepth 100000 in
/-- The questions that came in. -/
theorem open_asks {W : World} {v : Value} {d : DataW H} {p : List MemPlace} {base b0 : Nat} {spare : Nat → Bool} {held : Bool} (hv : Value.okWide Try.prog W .any b0 61 v) (h : DataW.Trod enc Try.prog W base spare held 61 v d p) :
    ∃ a l cap, ∃ es : List (Int × Int), v = .slice a l cap ∧ es.length = l ∧ Rd W (.slice a l cap) l (ac es) ∧ ∀ e ∈ es, e.2 ≤ 9223372036854775807 := by
  obtain ⟨a0, len, cap, rfl⟩ := okWide_slice Try.underlying61 hv
  obtain ⟨fuel, hf⟩ := h
  rcases open_slice Try.underlying61 hf with ⟨hcs, -⟩ | ⟨a, len', cap', m, n, D, Pl, hcs, -, hl, hm, hmm, hxx, hx⟩
  · cases hcs
    exact ⟨none, 0, 0, [], rfl, rfl, rd_nil W, fun e he => (by cases he)⟩
  · cases hcs
    have hlm : len ≤ m := by rw [hmm]; split <;> omega
    have each : ∀ i, ∃ e : Int × Int, e.2 ≤ 9223372036854775807 ∧ (i < len → W.cell? (a.add (i * 2)) = some (.int .i64 e.1) ∧ W.cell? (a.add (i * 2 + 1)) = some (.int .i64 e.2)) := by
      intro i
      by_cases hi : i < len
      · obtain ⟨cs', hc, ht⟩ := hx i (by omega)
        rw [show Try.prog.cellsOf 67 = 2 by kernel_rfl] at hc
        obtain ⟨-, -, hat⟩ := World.cells?_some hc
        obtain ⟨x0, e0, hw0⟩ := leaf_int (d := 3) (k := .i64) 0 ht (by kernel_rfl)
        obtain ⟨x1, e1, hw1⟩ := leaf_int (d := 3) (k := .i64) 1 ht (by kernel_rfl)
        refine ⟨(x0, x1), (i64_bd hw1).2, fun _ => ⟨?_, ?_⟩⟩
        · have := hat 0 (by omega)
          rw [e0] at this
          simpa [Addr.add] using this
        · have := hat 1 (by omega)
          rw [e1, add_add] at this
          exact this
      · exact ⟨(0, 0), by decide, fun h => absurd h hi⟩
    have F : ∃ g : Nat → Int × Int, ∀ i, (g i).2 ≤ 9223372036854775807 ∧ (i < len → W.cell? (a.add (i * 2)) = some (.int .i64 (g i).1) ∧ W.cell? (a.add (i * 2 + 1)) = some (.int .i64 (g i).2)) := ⟨fun i => Classical.choose (each i), fun i => Classical.choose_spec (each i)⟩
    obtain ⟨g, hg⟩ := F
    have hlen : ((List.range len).map g).length = len := by simp
    refine ⟨some a, len, cap, (List.range len).map g, rfl, hlen, ⟨some a, cap, rfl, hl, hm, fun hp => ?_⟩, ?_⟩
    · have h00 := ((hg 0).2 hp).1
      have hsp : a.spot = none := by have := World.cell?_spot h00; simpa [Addr.add] using this
      obtain ⟨b, o, sp⟩ := a
      obtain rfl : sp = none := hsp
      have hb := Clock.block_lt h00
      refine ⟨b, o, rfl, by simpa [Addr.add] using hb, fun j u hj => ?_⟩
      obtain ⟨k, e, hke, hor⟩ := ac_get hj
      have hk' : k < len := by have := (List.getElem?_eq_some_iff.1 hke).1; rwa [hlen] at this
      rw [List.getElem?_map, List.getElem?_range hk'] at hke
      simp only [Option.map_some, Option.some.injEq] at hke
      subst hke
      have hh := (hg k).2 hk'
      rw [addr_add, addr_add] at hh
      rcases hor with ⟨rfl, rfl⟩ | ⟨rfl, rfl⟩
      · exact hh.1
      · exact hh.2
    · intro e he
      obtain ⟨i, -, rfl⟩ := List.mem_map.1 he
      exact (hg i).1
end
set_option maxRecDepth 100000 in
theorem wireReads_contract (H : Type) (enc : TypeId × Value → H) (W : World) (base : Nat) (args : Array Value) (ds gs : List (DataW H)) (before : List MemPlace)
    (hval0 : ∀ (j : Nat) t v, Try.f7.params[j]? = some t → args[j]? = some v → Value.okWide Try.prog W .any base t v)
    (hW : DataW.Whole enc Try.prog Try.f7.params.toList Rows.wireReadsSpec.vars false W args.toList ds gs before) (hk : Rows.uptoSmall H (ds ++ gs) = true) :
    Calls Try.prog 7 args W fun e W' => ∃ v, e = .returned v ∧ Rows.wireReadsSpec.post enc Try.prog Try.f7 false true false false W args v W' := by
  have hval : ∀ (j : Nat) t v, Try.f7.params[j]? = some t → args[j]? = some v → Value.okWide Try.prog W .any base t v := hval0
  have hW' := hW
  obtain ⟨p, q, hA0, hV, rfl, -, -⟩ := hW'
  have hA : DataW.TrodAll enc Try.prog W 0 (fun _ => true) true Try.f7.params.toList args.toList ds p := hA0
  rw [Try.params7] at hA hval
  obtain ⟨v0, vs0, d0, ds0, p0, q0, hargs, rfl, rfl, h0, r0⟩ := trodAll_cons hA
  obtain ⟨v1, vs1, d1, ds1, p1, q1, rfl, rfl, rfl, h1, r1⟩ := trodAll_cons r0
  obtain ⟨rfl, rfl, rfl⟩ := trodAll_nil r1
  obtain rfl : args = #[v0, v1] := by cases args; simp_all
  obtain ⟨rfl, rfl⟩ := trodVars_none hV
  have hb : Rows.uptoBulk d0 ≤ 1048576 := by
    have h : Rows.uptoBulkAll _ ≤ 1048576 := of_decide_eq_true hk
    simp only [Rows.uptoBulkAll, List.cons_append, List.nil_append] at h
    omega
  obtain ⟨a0, l0, c0, rfl⟩ := okWide_slice Try.underlying29 (hval 0 29 v0 rfl rfl)
  obtain ⟨fuel, hf⟩ := h0
  obtain ⟨a, len, cap, hcs, bs, hbs, hrd, hdl⟩ := open_bytes_at hf
  cases hcs
  have hlb := len_bulk hdl
  obtain ⟨a2, l2, c2, es, rfl, hes, hrd2, hok⟩ := open_asks (hval 1 61 v1 rfl rfl) h1
  refine Calls.mono (wireReads_any a0 a2 l0 c0 l2 c2 bs es W hrd hbs (by simp only at hlb; omega) hrd2 hes hok) ?_
  rintro e W' ⟨rfl, hb⟩
  exact ⟨_, rfl, law_post Try.laidOut (by rw [Try.params7]; decide +kernel) rfl Try.underlying4 rfl hW rfl hb⟩

set_option maxRecDepth 100000 in
theorem wireReads_lifted (os : Os) (started : os.Started) (H : Type) (enc : TypeId × Value → H) (F : Stop.Interp) :
    ReturnsInHanded {} Try.checked os 7 .any ((Rows.OpenSpec.upto Rows.wireReadsSpec).pre6 enc Try.prog Try.f7 Rows.wireReadsUptoRow.domain false) (((Rows.OpenSpec.upto Rows.wireReadsSpec).at F).post enc Try.prog Try.f7 false true false false) := by
  refine returnsInHanded_of_cond (C := Try.checked) (s := Rows.OpenSpec.upto Rows.wireReadsSpec) (k := Rows.uptoSmall) rfl Try.own started (by kernel_rfl) Try.func7
    (OpenSpec.witness (enc := enc) (C := Try.checked) (s := Rows.OpenSpec.upto Rows.wireReadsSpec) (k := Rows.uptoSmall) rfl false ⟨#[], #[.slice none 0 0, .slice none 0 0], []⟩ 8 (by kernel_rfl) (by kernel_rfl) (by kernel_rfl)
      (x := ([.nil, .nil], [], [])) (by kernel_rfl) rfl (by kernel_rfl)) ?_
  intro W base args ds gs before hval hW _ hk _
  exact wireReads_contract H enc W base args ds gs before hval hW hk

theorem wireReads_holds : Rows.WireReadsUptoSaid :=
  OpenClaim.holds_of_cond 7 Try.f7 rfl rfl rfl rfl rfl rfl rfl ⟨rfl, rfl, rfl, rfl, rfl⟩ rfl rfl rfl rfl rfl (by kernel_rfl) Try.func7 (by kernel_rfl)
    (of_decide_eq_true (by kernel_rfl)) (by unfold Func.isWrapper; first | (rw [if_pos (by decide +kernel)]; kernel_rfl) | (rw [if_neg (by decide +kernel)]; exact ⟨rfl, rfl⟩))
    (fun os started H enc _ F => wireReads_lifted os started H enc F)
end Go.Proofs.Ytmcgagjjgomkeaa
