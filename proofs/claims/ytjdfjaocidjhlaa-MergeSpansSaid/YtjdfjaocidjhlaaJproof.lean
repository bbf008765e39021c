/- keepsakelaw09.MergeJoins returns true, whatever the windows, the span, the watermark and the hold: no condition. -/
import Derived.Test.YtjdfjaocidjhlaaLeaf
import Derived.Test.YtjdfjaocidjhlaaJlaw
namespace Go.Proofs.Ytjdfjaocidjhlaa
open Go.ChangeShapes Go.WideShapes Go.ChangeAt Go.RowKit Go.Deep
open Go.ChangeMaps (open_string shut_string)

set_option maxRecDepth 100000 in
set_option maxHeartbeats 1000000 in
theorem mergeJoins_long (v : Value) (n : Nat) (a : Option Addr) (cap : Nat) (hv : v = .slice a n cap) (hcap : cap ≤ maxLen) (hn : n ≤ cap) (S E Wm H : Int) (w : World) (hlen : 200 < n) :
    Calls Try.prog 3 #[v, .agg #[.int .i64 S, .int .i64 E, .int .i64 Wm, .int .i64 H]] w fun e w' => e = .returned (.bool true) ∧ Below w.heap.size w w' := by
  subst hv
  unfold maxLen at hcap
  have hcn : (n : Int) ≤ 9223372036854775807 := by omega
  clear hcap
  have hln : decide ((200 : Int) < (n : Int)) = true := by simp; omega
  have HB0 : Hid (Below w.heap.size w (w.alloc (.cells #[.int .i64 S, .int .i64 E, .int .i64 Wm, .int .i64 H] 26))) := below_alloc _ _
  go_enter Try.func3, Try.ntmps3
  go_wp2_with (first
    | (go_at_call 7; (with_reducible refine (known_any _).mono ?_); rintro e w1 ⟨rfl, hb1⟩))
  go_ret
  exact ⟨rfl, HB0.out.trans (hb1.mono HB0.out.size)⟩

theorem mergeJoins_any (v : Value) (l : List Wn) (S E Wm H : Int) (w : World) (hr : Rw w v l) (hSb : S ≤ 9223372036854775807) (hEb : -9223372036854775808 ≤ E) :
    Calls Try.prog 3 #[v, .agg #[.int .i64 S, .int .i64 E, .int .i64 Wm, .int .i64 H]] w fun e w' => e = .returned (.bool true) ∧ Below w.heap.size w w' := by
  by_cases hlen : l.length ≤ 200
  · by_cases hg : Ap l ∧ S < E
    · exact mergeJoins_good v l S E Wm H w hr hlen hg.1 hg.2 hSb hEb
    · exact mergeJoins_bad v l S E Wm H w hr hlen hg
  · obtain ⟨a, cap, hv, h1, h2, -⟩ := hr
    exact mergeJoins_long v _ a cap hv h2 h1 S E Wm H w (by omega)

section
variable {H : Type} {enc : TypeId × Value → H}
set_option maxRecDepth 100000 in
/-- A slice of windows that came in. -/
theorem open_wins {W : World} {v : Value} {d : DataW H} {p : List MemPlace} {base b0 : Nat} {spare : Nat → Bool} {held : Bool} (hv : Value.okWide Try.prog W .any b0 22 v) (h : DataW.Trod enc Try.prog W base spare held 22 v d p) :
    ∃ l : List Wn, Rw W v l := by
  obtain ⟨a0, len, cap, rfl⟩ := okWide_slice Try.underlying22 hv
  obtain ⟨fuel, hf⟩ := h
  rcases open_slice Try.underlying22 hf with ⟨hcs, -⟩ | ⟨a, len', cap', m, n, D, Pl, hcs, -, hl, hm, hmm, -, hx⟩
  · cases hcs
    exact ⟨[], rw_nil W⟩
  · cases hcs
    have hlm : len ≤ m := by rw [hmm]; split <;> omega
    have each : ∀ i, ∃ x : Wn, i < len → ∀ (j : Nat) (u : Value), x.cells[j]? = some u → W.cell? (a.add (i * 9 + j)) = some u := by
      intro i
      by_cases hi : i < len
      · obtain ⟨cs', hc, ht⟩ := hx i (by omega)
        rw [show Try.prog.cellsOf 43 = 9 by kernel_rfl] at hc
        obtain ⟨-, -, hat⟩ := World.cells?_some hc
        obtain ⟨x0, e0, -⟩ := leaf_int (d := 3) (k := .i64) 0 ht (by kernel_rfl)
        obtain ⟨x1, e1, -⟩ := leaf_int (d := 3) (k := .i64) 1 ht (by kernel_rfl)
        obtain ⟨x2, e2, -⟩ := leaf_int (d := 3) (k := .i64) 2 ht (by kernel_rfl)
        obtain ⟨x3, e3, -⟩ := leaf_int (d := 3) (k := .i64) 3 ht (by kernel_rfl)
        obtain ⟨x4, e4, -⟩ := leaf_int (d := 3) (k := .i64) 4 ht (by kernel_rfl)
        obtain ⟨x5, e5, -⟩ := leaf_int (d := 3) (k := .i64) 5 ht (by kernel_rfl)
        obtain ⟨x6, e6, -⟩ := leaf_int (d := 3) (k := .i64) 6 ht (by kernel_rfl)
        obtain ⟨x7, e7, -⟩ := leaf_int (d := 3) (k := .i64) 7 ht (by kernel_rfl)
        obtain ⟨x8, e8, -⟩ := leaf_int (d := 3) (k := .i64) 8 ht (by kernel_rfl)
        refine ⟨⟨x0, x1, x2, x3, x4, x5, x6, x7, x8⟩, fun _ j u hj => ?_⟩
        have hj9 : j < 9 := (List.getElem?_eq_some_iff.1 hj).1
        rw [← add_add, hat j hj9]
        have : j = 0 ∨ j = 1 ∨ j = 2 ∨ j = 3 ∨ j = 4 ∨ j = 5 ∨ j = 6 ∨ j = 7 ∨ j = 8 := by omega
        rcases this with rfl | rfl | rfl | rfl | rfl | rfl | rfl | rfl | rfl
        · exact e0.trans hj
        · exact e1.trans hj
        · exact e2.trans hj
        · exact e3.trans hj
        · exact e4.trans hj
        · exact e5.trans hj
        · exact e6.trans hj
        · exact e7.trans hj
        · exact e8.trans hj
      · exact ⟨⟨0, 0, 0, 0, 0, 0, 0, 0, 0⟩, fun h => absurd h hi⟩
    have F : ∃ g : Nat → Wn, ∀ i, i < len → ∀ (j : Nat) (u : Value), (g i).cells[j]? = some u → W.cell? (a.add (i * 9 + j)) = some u := ⟨fun i => Classical.choose (each i), fun i => Classical.choose_spec (each i)⟩
    obtain ⟨g, hg⟩ := F
    refine ⟨(List.range len).map g, some a, cap, by simp, by simpa using hl, hm, fun hp => ?_⟩
    have hp' : 0 < len := by simpa using hp
    have h00 := hg 0 hp' 0 _ rfl
    have hsp : a.spot = none := by have := World.cell?_spot h00; simpa [Addr.add] using this
    obtain ⟨b, o, sp⟩ := a
    obtain rfl : sp = none := hsp
    have hb := Clock.block_lt h00
    refine ⟨b, o, rfl, by simpa [Addr.add] using hb, fun k x hk => wnAt_of fun j u hj => ?_⟩
    have hk' : k < len := by have := (List.getElem?_eq_some_iff.1 hk).1; simpa using this
    rw [List.getElem?_map, List.getElem?_range hk'] at hk
    simp only [Option.map_some, Option.some.injEq] at hk
    subst hk
    have := hg k hk' j u hj
    rw [addr_add] at this
    rw [Nat.add_assoc]
    exact this

set_option maxRecDepth 100000 in
/-- What is asked, by value. -/
theorem open_ask {W : World} {v : Value} {d : DataW H} {p : List MemPlace} {base b0 : Nat} {spare : Nat → Bool} {held : Bool} (hv : Value.okWide Try.prog W .any b0 26 v) (h : DataW.Trod enc Try.prog W base spare held 26 v d p) :
    ∃ S E Wm H : Int, v = .agg #[.int .i64 S, .int .i64 E, .int .i64 Wm, .int .i64 H] ∧ S ≤ 9223372036854775807 ∧ -9223372036854775808 ≤ E := by
  unfold Value.okWide at hv
  rw [Try.underlying26] at hv
  obtain ⟨cs, rfl, hsz, -⟩ := hv
  have hs4 : cs.size = 4 := hsz.trans (by kernel_rfl)
  obtain ⟨l⟩ := cs
  obtain ⟨fuel, hf⟩ := h
  obtain ⟨x0, e0, w0⟩ := leaf_int (d := 3) (k := .i64) 0 hf (by kernel_rfl)
  obtain ⟨x1, e1, w1⟩ := leaf_int (d := 3) (k := .i64) 1 hf (by kernel_rfl)
  obtain ⟨x2, e2, -⟩ := leaf_int (d := 3) (k := .i64) 2 hf (by kernel_rfl)
  obtain ⟨x3, e3, -⟩ := leaf_int (d := 3) (k := .i64) 3 hf (by kernel_rfl)
  match l, hs4 with
  | [c0, c1, c2, c3], _ =>
    simp [Value.cells] at e0 e1 e2 e3
    subst e0 e1 e2 e3
    exact ⟨x0, x1, x2, x3, rfl, (i64_bd w0).2, (i64_bd w1).1⟩
end

set_option maxRecDepth 100000 in
theorem mergeJoins_lifted (os : Os) (started : os.Started) (H : Type) (enc : TypeId × Value → H) :
    ReturnsInHanded {} Try.checked os 3 .any (Rows.mergeJoinsSpec.pre6 enc Try.prog Try.f3 Rows.mergeJoinsRow.domain false) (Rows.mergeJoinsSpec.post enc Try.prog Try.f3 false true false false) := by
  refine returnsInHanded_of_change (C := Try.checked) Try.own started (by kernel_rfl) Try.func3
    (ChangeSpec.witness6 (enc := enc) (C := Try.checked) false ⟨#[], #[.slice none 0 0, .agg #[.int .i64 0, .int .i64 0, .int .i64 0, .int .i64 0]], []⟩ 8 (by kernel_rfl) (by kernel_rfl) (by kernel_rfl) (by kernel_rfl)) ?_
  intro W base args ds gs before hval0 hW _ _
  have hval : ∀ (j : Nat) t v, Try.f3.params[j]? = some t → args[j]? = some v → Value.okWide Try.prog W .any base t v := hval0
  have hW' := hW
  obtain ⟨p, q, hA0, hV, -, -, -⟩ := hW'
  have hA : DataW.TrodAll enc Try.prog W 0 (fun _ => true) true Try.f3.params.toList args.toList ds p := hA0
  rw [Try.params3] at hA hval
  obtain ⟨v0, vs0, d0, ds0, p0, q0, hargs, rfl, rfl, h0, r0⟩ := trodAll_cons hA
  obtain ⟨v1, vs1, d1, ds1, p1, q1, rfl, rfl, rfl, h1, r1⟩ := trodAll_cons r0
  obtain ⟨rfl, rfl, rfl⟩ := trodAll_nil r1
  obtain rfl : args = #[v0, v1] := by cases args; simp_all
  obtain ⟨rfl, -⟩ := trodVars_none hV
  obtain ⟨l, hl⟩ := open_wins (hval 0 22 v0 rfl rfl) h0
  obtain ⟨S, E, Wm, H', rfl, hS, hE⟩ := open_ask (hval 1 26 v1 rfl rfl) h1
  refine (mergeJoins_any v0 l S E Wm H' W hl hS hE).mono fun e W' ⟨he, hb⟩ => ?_
  subst he
  exact ⟨_, rfl, law_post Try.laidOut (by rw [Try.params3]; decide +kernel) rfl Try.underlying4 rfl hW rfl hb⟩

theorem mergeJoins_holds : Rows.MergeJoinsSaid :=
  OpenClaim.holds_of_wide 3 Try.f3 rfl rfl rfl rfl rfl rfl rfl ⟨rfl, rfl, rfl, rfl, rfl⟩ rfl rfl rfl rfl rfl (by kernel_rfl) Try.func3 (by kernel_rfl)
    (of_decide_eq_true (by kernel_rfl)) (by unfold Func.isWrapper; first | (rw [if_pos (by decide +kernel)]; kernel_rfl) | (rw [if_neg (by decide +kernel)]; exact ⟨rfl, rfl⟩))
    (fun os started H enc _ => mergeJoins_lifted os started H enc)
end Go.Proofs.Ytjdfjaocidjhlaa
