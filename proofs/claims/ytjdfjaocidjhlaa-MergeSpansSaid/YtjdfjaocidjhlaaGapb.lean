/- The walk of the program's Gaps, refused too; both Gaps at a gap that is none. -/
import Derived.Test.YtjdfjaocidjhlaaUrh
namespace Go.Proofs.Ytjdfjaocidjhlaa
open Go.RowKit Go.Shelf

set_option maxRecDepth 100000 in
set_option maxHeartbeats 4000000 in
theorem Gaps_full (sv : Value) (zs : List Int) (g : Int) (hg : 1 ≤ g) (hg2 : g ≤ 1099511627776) (hlen : zs.length ≤ 1000000) (w : World) (hI : Nums w.heap.size w sv zs) :
    Calls Try.prog 20 #[sv, .int .i64 g] w fun e w' => Below w.heap.size w w' ∧
      (((∀ t ∈ zs, gd t) ∧ ∃ v, e = .returned (.tuple #[v, .int .i64 0]) ∧ w'.ownsRow w.heap.size 24 2 v (gaps g (srt zs)).length (scells (gaps g (srt zs)))) ∨
       ((¬ ∀ t ∈ zs, gd t) ∧ e = .returned (.tuple #[.slice none 0 0, .int .i64 2]))) := by
  obtain ⟨iS, hiS, hS0, hS1, hS2⟩ := info_parts spanInfo
  obtain ⟨A, cp, rfl, hcell⟩ := id hI
  clear hcell
  have HSM : Hid (∀ t, t ∈ srt zs ↔ t ∈ zs) := fun t => srt_mem
  have HSO := Lib.hid (Sorted_any w.heap.size (.slice A zs.length cp) zs hlen (w.alloc (.cells #[.slice A zs.length cp] 47)) (by simp) (by go_simp) (by
    have := hI.below ((Below.refl w.heap.size w).alloc (Nat.le_refl _) (.cells #[.slice A zs.length cp] 47))
    obtain ⟨a, c, e, hh⟩ := this
    exact ⟨a, c, e, fun hp => by obtain ⟨b, o, h1, h2, h3⟩ := hh hp; exact ⟨b, o, h1, by simp; omega, h3⟩⟩))
  have HB0 : Hid (Below w.heap.size w (w.alloc (.cells #[.slice A zs.length cp] 47))) := (Below.refl w.heap.size w).alloc (Nat.le_refl _) _
  have hsl := srt_length zs
  generalize srt zs = s at *
  clear hI
  have d1 : decide (g < 1) = false := by simp; omega
  have d2 : decide (1099511627776 < g) = false := by simp; omega
  go_enter Try.func20, Try.ntmps20
  go_wp2_with (first
    | (go_at_call 36; (with_reducible refine (Values_any ..).mono ?_); rintro e w0 ⟨rfl, rfl⟩)
    | (go_at_call 35; (with_reducible refine HSO.out.mono ?_); rintro e w1 ⟨v, rfl, ho, hb⟩; obtain ⟨a6, c6, rfl, -, -⟩ := ownsRow_shape ho; have HR := Lib.hid ho; have HB := Lib.hid hb; clear ho hb))
  have hB1 : Below w.heap.size w w1 := HB0.out.trans (HB.out.mono (by simp))
  have HBW := Lib.hid hB1
  have hsz1 : w.heap.size < w1.heap.size := by have := HB.out.size; simp at this; omega
  clear hB1
  go_loopw [7, 22] (fun v7 i wr => ∃ k : Nat, i = .int .i64 k ∧ k ≤ s.length ∧ Hid (∀ t ∈ s.take k, gd t) ∧ Below w1.heap.size w1 wr ∧ wr.ownsRow w1.heap.size 24 2 v7 (gaps g (s.take k)).length (scells (gaps g (s.take k)))) (fun _ i _ => s.length - (intOf i).toNat)
  case atStart => exact ⟨0, rfl, Nat.zero_le _, (fun t ht => by simp at ht), Below.refl _ _, World.ownsRow_nil _ _ _ _⟩
  case round =>
    obtain ⟨k, rfl, hk, hgood, hb, hos⟩ := hrel
    by_cases hlt : k < s.length
    · obtain ⟨q, rfl, -, hq, -, -, hcq, -⟩ := ownsRow_at HR.out (by omega)
      obtain ⟨t, ht⟩ : ∃ t, s[k]? = some t := ⟨_, List.getElem?_eq_getElem hlt⟩
      have hct : wr.cell? ⟨q, k, none⟩ = some (.int .i64 t) := (hb.cell (p := ⟨q, k, none⟩) hq).trans (hcq k _ (ic_at ht))
      have hq2 : q < wr.heap.size := by have := hb.size; omega
      have HTM := Lib.hid ht
      by_cases hgt : gd t
      case neg =>
        have HBL := Lib.hid hb
        have HNT : Hid (¬ ∀ t ∈ zs, gd t) := fun hc => hgt (hc t ((HSM.out t).1 (List.mem_of_getElem? ht)))
        clear hb ht hcq
        by_cases h1 : t < -4611686018427387904
        · have d3 : decide (t < -4611686018427387904) = true := by simp [h1]
          go_wp2
          go_ret2
          exact ⟨HBW.out.trans (HBL.out.mono (by omega)), .inr ⟨(by first | exact HNT.out | simpa using HNT.out), rfl⟩⟩
        · have d3 : decide (t < -4611686018427387904) = false := by simp; omega
          have d4 : decide (4611686018427387904 < t) = true := by
            simp only [decide_eq_true_eq]
            exact Classical.byContradiction fun hc => hgt ⟨by omega, by omega⟩
          go_wp2
          go_ret2
          exact ⟨HBW.out.trans (HBL.out.mono (by omega)), .inr ⟨(by first | exact HNT.out | simpa using HNT.out), rfl⟩⟩
      obtain ⟨b1, b2⟩ := hgt
      have HGD : Hid (∀ z ∈ s.take (k + 1), gd z) := fun z hz => by
        rw [List.take_add_one, HTM.out] at hz
        rcases List.mem_append.1 hz with h | h
        · exact hgood.out z h
        · simp at h; subst h; exact ⟨b1, b2⟩
      have d3 : decide (t < -4611686018427387904) = false := by simp; omega
      have d4 : decide (4611686018427387904 < t) = false := by simp; omega
      have hTS : gaps g (s.take (k + 1)) = gstep g (gaps g (s.take k)) t := by rw [List.take_add_one, ht, ← gaps_snoc]; rfl
      have hLL : (gaps g (s.take k)).length ≤ k := Nat.le_trans (gaps_len _ _) (by simp; omega)
      have HTS := Lib.hid hTS
      clear hTS hcq ht
      generalize gaps g (s.take k) = L at *
      have HBL := Lib.hid hb
      by_cases hnew : ∀ x, L.getLast? = some x → ¬ t < x.e
      · have HG := Lib.hid (gstep_new (g := g) hnew)
        have HOA := Lib.hid (hos.alloc (.cells #[.int .i64 t, .int .i64 (t + g)] 24))
        have HBA := Lib.hid (hb.alloc hb.size (.cells #[.int .i64 t, .int .i64 (t + g)] 24))
        have HNW := Lib.hid (news_lit wr #[.int .i64 t, .int .i64 (t + g)] 24 wr.heap.size rfl)
        have hbs := hb.size
        by_cases hL0 : L = []
        · subst hL0
          obtain ⟨a7, c7, rfl, -, -⟩ := ownsRow_shape hos
          clear hos hnew
          go_wp2_with (first
            | (at_builtin; refine wpList_append_own _ rfl (.tmp 54) (.tmp 60) 51 rfl w1.heap.size 24 iS _ 2 16 Try.underlying51 hiS hS0 hS1 hS2 rfl (by decide) _ _ _ rfl HOA.out ⟨wr.heap.size, 0, none⟩ 1 1 [.int .i64 t, .int .i64 (t + g)] rfl rfl HNW.out (by simp [Value.oneCell']) (by simp only [maxLen]; simp) (by omega) (by simp; omega) ?_; intro v7 w5 hos5 hg5 _
               have HOS5 := Lib.hid hos5
               have HBL5 := Lib.hid (HBA.out.grown hg5 (by simp; omega) (fun r e => (HOA.out.lt r e).1))
               clear hos5 hg5))
          go_roundw
          case rel =>
            refine ⟨k + 1, by simp, by omega, HGD.out, HBL5.out, ?_⟩
            rw [HTS.out, HG.out]
            simpa [scells, Sn.cells] using HOS5.out
          case measure => simp [intOf]; omega
        · obtain ⟨L0, x, rfl⟩ : ∃ L0 x, L = L0 ++ [x] := ⟨L.dropLast, L.getLast hL0, (List.dropLast_concat_getLast hL0).symm⟩
          have hx : ¬ t < x.e := hnew x (by simp)
          obtain ⟨m, hm⟩ : ∃ m, L0.length = m := ⟨_, rfl⟩
          have hlen2 : (L0 ++ [x]).length = m + 1 := by simp [hm]
          have HCE := Lib.hid (hm ▸ scells_end L0 x)
          rw [hlen2] at hos hLL HOA
          obtain ⟨a7, c7, rfl, -, -⟩ := ownsRow_shape hos
          obtain ⟨r, rfl, hr0, hr1, -, -, hcr, hfr⟩ := ownsRow_at hos (by omega)
          have hce := hcr _ _ HCE.out
          have hxd : decide (t < x.e) = false := by simp; omega
          clear hos hnew hcr hfr
          go_wp2_with (first
            | (at_builtin; refine wpList_append_own _ rfl (.tmp 54) (.tmp 60) 51 rfl w1.heap.size 24 iS _ 2 16 Try.underlying51 hiS hS0 hS1 hS2 rfl (by decide) _ _ _ rfl HOA.out ⟨wr.heap.size, 0, none⟩ 1 1 [.int .i64 t, .int .i64 (t + g)] rfl rfl HNW.out (by simp [Value.oneCell']) (by simp only [maxLen]; omega) (by omega) (by simp; omega) ?_; intro v7 w5 hos5 hg5 _;                have HOS5 := Lib.hid hos5; have HBL5 := Lib.hid (HBA.out.grown hg5 (by simp; omega) (fun r e => (HOA.out.lt r e).1)); clear hos5 hg5))
          go_roundw
          case rel =>
            refine ⟨k + 1, by simp, by omega, HGD.out, HBL5.out, ?_⟩
            rw [HTS.out, HG.out, scells_snoc]
            have e2 : (L0 ++ [x] ++ [(⟨t, t + g⟩ : Sn)]).length = m + 1 + 1 := by simp [hm]
            rw [e2]
            exact HOS5.out
          case measure => simp [intOf]; omega
      · obtain ⟨L0, x, rfl, hx⟩ : ∃ L0 x, L = L0 ++ [x] ∧ t < x.e := by
          simp only [Classical.not_forall, Classical.not_not] at hnew
          obtain ⟨x, hl, hx⟩ := hnew
          obtain ⟨L0, rfl⟩ := List.getLast?_eq_some_iff.1 hl
          exact ⟨L0, x, rfl, hx⟩
        have HG := Lib.hid (gstep_old (g := g) (l0 := L0) hx)
        obtain ⟨m, hm⟩ : ∃ m, L0.length = m := ⟨_, rfl⟩
        have hlen2 : (L0 ++ [x]).length = m + 1 := by simp [hm]
        have HCE := Lib.hid (hm ▸ scells_end L0 x)
        have HCS := Lib.hid (fun e => hm ▸ scells_set L0 x e)
        rw [hlen2] at hos hLL
        obtain ⟨a7, c7, rfl, -, -⟩ := ownsRow_shape hos
        obtain ⟨r, rfl, hr0, hr1, -, -, hcr, hfr⟩ := ownsRow_at hos (by omega)
        have hce := hcr _ _ HCE.out
        have hfe := hfr (m * 2 + 1)
        have hxd : decide (t < x.e) = true := by simp [hx]
        have hqr : ¬ q = r := by omega
        have HST := Lib.hid (hos.stored (m * 2 + 1) (.int .i64 (t + g)))
        clear hos hcr hfr
        go_wp2
        go_roundw
        case rel =>
          refine ⟨k + 1, by simp, by omega, HGD.out, HBL.out.grown HST.out.2 (by have := HBL.out.size; omega) (fun r' e => by cases e; exact hr0), ?_⟩
          have h := HST.out.1
          rw [HCS.out] at h
          rw [HTS.out, HG.out]
          have e2 : (L0 ++ [(⟨x.s, t + g⟩ : Sn)]).length = m + 1 := by simp [hm]
          rw [e2]
          exact h
        case measure => simp [intOf]; omega
    · obtain rfl : k = s.length := by omega
      have HBL := Lib.hid hb
      rw [List.take_length] at hos hgood
      have HOS := Lib.hid hos
      clear hb hos
      go_wp2
      go_ret2
      exact ⟨HBW.out.trans (HBL.out.mono (by omega)), .inl ⟨fun t ht => hgood.out t ((HSM.out t).2 ht), _, rfl, World.ownsRow.mono HOS.out (by omega)⟩⟩
set_option maxHeartbeats 1000000 in
theorem Gaps_bad (a : Option Addr) (n cap : Nat) (g : Int) (hg : ¬ (1 ≤ g ∧ g ≤ 1099511627776)) (w : World) :
    Calls Try.prog 20 #[.slice a n cap, .int .i64 g] w fun e w' => e = .returned (.tuple #[.slice none 0 0, .int .i64 2]) ∧ w' = w := by
  by_cases h : g < 1
  · have d1 : decide (g < 1) = true := by simp [h]
    go_enter Try.func20, Try.ntmps20
    go_wp2
    go_ret2
    exact ⟨rfl, rfl⟩
  · have d1 : decide (g < 1) = false := by simp; omega
    have d2 : decide (1099511627776 < g) = true := by simp only [decide_eq_true_eq]; omega
    go_enter Try.func20, Try.ntmps20
    go_wp2
    go_ret2
    exact ⟨rfl, rfl⟩
set_option maxHeartbeats 1000000 in
theorem refGaps_bad (a : Option Addr) (n cap : Nat) (g : Int) (hg : ¬ (1 ≤ g ∧ g ≤ 1099511627776)) (w : World) :
    Calls Try.prog 24 #[.slice a n cap, .int .i64 g] w fun e w' => e = .returned (.tuple #[.slice none 0 0, .int .i64 2]) ∧ w' = w := by
  by_cases h : g < 1
  · have d1 : decide (g < 1) = true := by simp [h]
    go_enter Try.func24, Try.ntmps24
    go_wp2
    go_ret2
    exact ⟨rfl, rfl⟩
  · have d1 : decide (g < 1) = false := by simp; omega
    have d2 : decide (1099511627776 < g) = true := by simp only [decide_eq_true_eq]; omega
    go_enter Try.func24, Try.ntmps24
    go_wp2
    go_ret2
    exact ⟨rfl, rfl⟩
end Go.Proofs.Ytjdfjaocidjhlaa
