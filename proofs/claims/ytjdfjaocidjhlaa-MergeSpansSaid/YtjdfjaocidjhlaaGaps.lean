/- slices.Sorted at int64, and the walk of the program's Gaps. -/
import Derived.Test.YtjdfjaocidjhlaaShelf
import Derived.Test.YtjdfjaocidjhlaaJlaw
import Derived.Lib.SlKeysI
import Derived.Deep.Onto
namespace Go.Proofs.Ytjdfjaocidjhlaa
open Go.RowKit Go.Shelf

def srt (zs : List Int) : List Int := zs.mergeSort fun x y => decide (x ≤ y)
theorem srt_length (zs : List Int) : (srt zs).length = zs.length := by simp [srt]
theorem srt_mem {zs : List Int} {x : Int} : x ∈ srt zs ↔ x ∈ zs := by simp [srt]
theorem srt_sorted (zs : List Int) : (srt zs).Pairwise (· ≤ ·) := by
  have := List.pairwise_mergeSort (le := fun x y : Int => decide (x ≤ y)) (fun a b c h1 h2 => by simp at *; omega) (fun a b => by simp; omega) zs
  exact this.imp fun h => by simpa using h
set_option maxHeartbeats 2000000 in
theorem Sorted_any (Bs : Nat) (sv : Value) (zs : List Int) (hlen : zs.length ≤ 1000000) (w : World) (hBs : Bs < w.heap.size) (hc : w.cell? ⟨Bs, 0, none⟩ = some sv) (hI : Nums w.heap.size w sv zs) :
    Calls Try.prog 35 #[.func (.func 46) #[] #[.pointer (some ⟨Bs, 0, none⟩)]] w fun e W' => ∃ v, e = .returned v ∧ W'.ownsRow w.heap.size 2 1 v (srt zs).length (ic (srt zs)) ∧ Below w.heap.size w W' := by
  have HC := Lib.hid (Collect_any Bs sv zs hlen w hBs hc hI)
  clear hBs hc hI
  go_enter Try.func35, Try.ntmps35
  go_wp2_with (first | (go_at_call 44; (with_reducible refine HC.out.mono ?_); rintro e w1 ⟨v, rfl, ho, hb⟩; have HO := Lib.hid ho; have HB := Lib.hid hb; clear ho hb))
  obtain ⟨hl, ⟨rfl, hz⟩ | ⟨gb, cap, cur, rfl, hbase, hgb, r1, r2, r3, r4⟩⟩ := HO.out
  · have hss : zs = [] := List.eq_nil_of_length_eq_zero hz
    subst hss
    clear hl hz
    go_wp2_with (first | (go_at_call 45; (with_reducible refine (slices_Sort_int_none _ _ _).mono ?_); rintro e w' ⟨rfl, rfl⟩))
    go_ret
    exact ⟨_, rfl, by simpa [srt, ic] using World.ownsRow_nil _ _ _ _, HB.out⟩
  · have hgl : gb < w1.heap.size := (Array.getElem?_eq_some_iff.1 hgb).1
    have HS := Lib.hid (slices_Sort_int gb 0 cap zs w1 (holds_of_block_i hgb (by rw [← Nat.mul_one zs.length]; exact r4)) hgl (by omega))
    have HF := Lib.hid hgb
    clear hl r4 hgb
    go_wp2_with (first | (go_at_call 45; (with_reducible refine HS.out.mono ?_); rintro e w' ⟨rfl, nn, os, hw⟩; have HW := Lib.hid hw; clear hw))
    go_ret
    have hw := HW.out
    subst hw
    refine ⟨_, rfl, ?_, HB.out.grown (grownBy_sorted_i _) HB.out.size (fun j hj => by cases hj; exact hbase)⟩
    rw [srt_length]
    exact ownsRow_sorted_i (by simp) hbase HF.out r1 r2 r3
theorem gstep_len (g : Int) (l : List Sn) (t : Int) : (gstep g l t).length ≤ l.length + 1 := by
  unfold gstep
  cases h : l.getLast? with
  | none => simp
  | some x => simp only; split <;> simp <;> omega
theorem gaps_snoc (g : Int) (p : List Int) (t : Int) : gaps g (p ++ [t]) = gstep g (gaps g p) t := by simp [gaps]
theorem gaps_len (g : Int) (p : List Int) : (gaps g p).length ≤ p.length := by
  suffices ∀ (q : List Int) (l : List Sn), (q.foldl (gstep g) l).length ≤ l.length + q.length by simpa [gaps] using this p []
  intro q
  induction q with
  | nil => simp
  | cons t q ih => intro l; have := ih (gstep g l t); have := gstep_len g l t; simp at *; omega
theorem gstep_new {g : Int} {l : List Sn} {t : Int} (h : ∀ x, l.getLast? = some x → ¬ t < x.e) : gstep g l t = l ++ [⟨t, t + g⟩] := by
  unfold gstep
  cases hl : l.getLast? with
  | none => rfl
  | some x => simp only; rw [if_neg (h x hl)]
theorem gstep_old {g : Int} {l0 : List Sn} {x : Sn} {t : Int} (h : t < x.e) : gstep g (l0 ++ [x]) t = l0 ++ [⟨x.s, t + g⟩] := by
  unfold gstep; simp [h]
theorem scells_length (l : List Sn) : (scells l).length = l.length * 2 := by
  induction l with
  | nil => rfl
  | cons x l ih => simp only [scells, List.flatMap_cons, List.length_append, List.length_cons] at *; rw [ih]; simp [Sn.cells]; omega
theorem scells_end (l0 : List Sn) (x : Sn) : (scells (l0 ++ [x]))[l0.length * 2 + 1]? = some (.int .i64 x.e) := by
  rw [scells_snoc, List.getElem?_append_right (by rw [scells_length]; omega), scells_length]; simp
theorem scells_set (l0 : List Sn) (x : Sn) (e : Int) : (scells (l0 ++ [x])).set (l0.length * 2 + 1) (.int .i64 e) = scells (l0 ++ [⟨x.s, e⟩]) := by
  rw [scells_snoc, scells_snoc, List.set_append_right _ _ (by rw [scells_length]; omega), scells_length]; simp
set_option maxRecDepth 100000 in
set_option maxHeartbeats 4000000 in
theorem Gaps_any (sv : Value) (zs : List Int) (g : Int) (hg : 1 ≤ g) (hg2 : g ≤ 1099511627776) (hz : ∀ t ∈ zs, -4611686018427387904 ≤ t ∧ t ≤ 4611686018427387904) (hlen : zs.length ≤ 1000000) (w : World) (hI : Nums w.heap.size w sv zs) :
    Calls Try.prog 20 #[sv, .int .i64 g] w fun e w' => ∃ v, e = .returned (.tuple #[v, .int .i64 0]) ∧ w'.ownsRow w.heap.size 24 2 v (gaps g (srt zs)).length (scells (gaps g (srt zs))) ∧ Below w.heap.size w w' := by
  obtain ⟨iS, hiS, hS0, hS1, hS2⟩ := info_parts spanInfo
  obtain ⟨A, cp, rfl, hcell⟩ := id hI
  clear hcell
  have hz2 : ∀ t ∈ srt zs, -4611686018427387904 ≤ t ∧ t ≤ 4611686018427387904 := fun t ht => hz t (srt_mem.1 ht)
  have HSO := Lib.hid (Sorted_any w.heap.size (.slice A zs.length cp) zs hlen (w.alloc (.cells #[.slice A zs.length cp] 47)) (by simp) (by go_simp) (by
    have := hI.below ((Below.refl w.heap.size w).alloc (Nat.le_refl _) (.cells #[.slice A zs.length cp] 47))
    obtain ⟨a, c, e, hh⟩ := this
    exact ⟨a, c, e, fun hp => by obtain ⟨b, o, h1, h2, h3⟩ := hh hp; exact ⟨b, o, h1, by simp; omega, h3⟩⟩))
  have HB0 : Hid (Below w.heap.size w (w.alloc (.cells #[.slice A zs.length cp] 47))) := (Below.refl w.heap.size w).alloc (Nat.le_refl _) _
  have hsl := srt_length zs
  generalize srt zs = s at *
  clear hI hz
  have d1 : decide (g < 1) = false := by simp; omega
  have d2 : decide (1099511627776 < g) = false := by simp; omega
  go_enter Try.func20, Try.ntmps20
  go_wp2_with (first
    | (go_at_call 36; (with_reducible refine (Values_any ..).mono ?_); rintro e w0 ⟨rfl, rfl⟩)
    | (go_at_call 35; (with_reducible refine HSO.out.mono ?_); rintro e w1 ⟨v, rfl, ho, hb⟩; obtain ⟨a6, c6, rfl, -, -⟩ := ownsRow_shape ho; have HR := Lib.hid ho; have HB := Lib.hid hb; clear ho hb))
  have hB1 : Below w.heap.size w w1 := HB0.out.trans (HB.out.mono (by simp))
  have HBW := Lib.hid hB1
  have hsz1 : w.heap.size < w1.heap.size := by have := HB.out.size; simp at this; omega
  clear hB1
  go_loopw [7, 22] (fun v7 i wr => ∃ k : Nat, i = .int .i64 k ∧ k ≤ s.length ∧ Below w1.heap.size w1 wr ∧ wr.ownsRow w1.heap.size 24 2 v7 (gaps g (s.take k)).length (scells (gaps g (s.take k)))) (fun _ i _ => s.length - (intOf i).toNat)
  case atStart => exact ⟨0, rfl, Nat.zero_le _, Below.refl _ _, World.ownsRow_nil _ _ _ _⟩
  case round =>
    obtain ⟨k, rfl, hk, hb, hos⟩ := hrel
    by_cases hlt : k < s.length
    · obtain ⟨q, rfl, -, hq, -, -, hcq, -⟩ := ownsRow_at HR.out (by omega)
      obtain ⟨t, ht⟩ : ∃ t, s[k]? = some t := ⟨_, List.getElem?_eq_getElem hlt⟩
      have hct : wr.cell? ⟨q, k, none⟩ = some (.int .i64 t) := (hb.cell (p := ⟨q, k, none⟩) hq).trans (hcq k _ (ic_at ht))
      have hq2 : q < wr.heap.size := by have := hb.size; omega
      obtain ⟨b1, b2⟩ := hz2 t (List.mem_of_getElem? ht)
      have d3 : decide (t < -4611686018427387904) = false := by simp; omega
      have d4 : decide (4611686018427387904 < t) = false := by simp; omega
      have hTS : gaps g (s.take (k + 1)) = gstep g (gaps g (s.take k)) t := by rw [List.take_add_one, ht, ← gaps_snoc]; rfl
      have hLL : (gaps g (s.take k)).length ≤ k := Nat.le_trans (gaps_len _ _) (by simp; omega)
      have HTS := Lib.hid hTS
      clear hTS hcq ht
      generalize gaps g (s.take k) = L at *
      have HBL := Lib.hid hb
      by_cases hnew : ∀ x, L.getLast? = some x → ¬ t < x.e
      · have HG := Lib.hid (gstep_new (g := g) hnew)
        have HOA := Lib.hid (hos.alloc (.cells #[.int .i64 t, .int .i64 (t + g)] 24))
        have HBA := Lib.hid (hb.alloc hb.size (.cells #[.int .i64 t, .int .i64 (t + g)] 24))
        have HNW := Lib.hid (news_lit wr #[.int .i64 t, .int .i64 (t + g)] 24 wr.heap.size rfl)
        have hbs := hb.size
        by_cases hL0 : L = []
        · subst hL0
          obtain ⟨a7, c7, rfl, -, -⟩ := ownsRow_shape hos
          clear hos hnew
          go_wp2_with (first
            | (at_builtin; refine wpList_append_own _ rfl (.tmp 54) (.tmp 60) 51 rfl w1.heap.size 24 iS _ 2 16 Try.underlying51 hiS hS0 hS1 hS2 rfl (by decide) _ _ _ rfl HOA.out ⟨wr.heap.size, 0, none⟩ 1 1 [.int .i64 t, .int .i64 (t + g)] rfl rfl HNW.out (by simp [Value.oneCell']) (by simp only [maxLen]; simp) (by omega) (by simp; omega) ?_; intro v7 w5 hos5 hg5 _
               have HOS5 := Lib.hid hos5
               have HBL5 := Lib.hid (HBA.out.grown hg5 (by simp; omega) (fun r e => (HOA.out.lt r e).1))
               clear hos5 hg5))
          go_roundw
          case rel =>
            refine ⟨k + 1, by simp, by omega, HBL5.out, ?_⟩
            rw [HTS.out, HG.out]
            simpa [scells, Sn.cells] using HOS5.out
          case measure => simp [intOf]; omega
        · obtain ⟨L0, x, rfl⟩ : ∃ L0 x, L = L0 ++ [x] := ⟨L.dropLast, L.getLast hL0, (List.dropLast_concat_getLast hL0).symm⟩
          have hx : ¬ t < x.e := hnew x (by simp)
          obtain ⟨m, hm⟩ : ∃ m, L0.length = m := ⟨_, rfl⟩
          have hlen2 : (L0 ++ [x]).length = m + 1 := by simp [hm]
          have HCE := Lib.hid (hm ▸ scells_end L0 x)
          rw [hlen2] at hos hLL HOA
          obtain ⟨a7, c7, rfl, -, -⟩ := ownsRow_shape hos
          obtain ⟨r, rfl, hr0, hr1, -, -, hcr, hfr⟩ := ownsRow_at hos (by omega)
          have hce := hcr _ _ HCE.out
          have hxd : decide (t < x.e) = false := by simp; omega
          clear hos hnew hcr hfr
          go_wp2_with (first
            | (at_builtin; refine wpList_append_own _ rfl (.tmp 54) (.tmp 60) 51 rfl w1.heap.size 24 iS _ 2 16 Try.underlying51 hiS hS0 hS1 hS2 rfl (by decide) _ _ _ rfl HOA.out ⟨wr.heap.size, 0, none⟩ 1 1 [.int .i64 t, .int .i64 (t + g)] rfl rfl HNW.out (by simp [Value.oneCell']) (by simp only [maxLen]; omega) (by omega) (by simp; omega) ?_; intro v7 w5 hos5 hg5 _;                have HOS5 := Lib.hid hos5; have HBL5 := Lib.hid (HBA.out.grown hg5 (by simp; omega) (fun r e => (HOA.out.lt r e).1)); clear hos5 hg5))
          go_roundw
          case rel =>
            refine ⟨k + 1, by simp, by omega, HBL5.out, ?_⟩
            rw [HTS.out, HG.out, scells_snoc]
            have e2 : (L0 ++ [x] ++ [(⟨t, t + g⟩ : Sn)]).length = m + 1 + 1 := by simp [hm]
            rw [e2]
            exact HOS5.out
          case measure => simp [intOf]; omega
      · obtain ⟨L0, x, rfl, hx⟩ : ∃ L0 x, L = L0 ++ [x] ∧ t < x.e := by
          simp only [Classical.not_forall, Classical.not_not] at hnew
          obtain ⟨x, hl, hx⟩ := hnew
          obtain ⟨L0, rfl⟩ := List.getLast?_eq_some_iff.1 hl
          exact ⟨L0, x, rfl, hx⟩
        have HG := Lib.hid (gstep_old (g := g) (l0 := L0) hx)
        obtain ⟨m, hm⟩ : ∃ m, L0.length = m := ⟨_, rfl⟩
        have hlen2 : (L0 ++ [x]).length = m + 1 := by simp [hm]
        have HCE := Lib.hid (hm ▸ scells_end L0 x)
        have HCS := Lib.hid (fun e => hm ▸ scells_set L0 x e)
        rw [hlen2] at hos hLL
        obtain ⟨a7, c7, rfl, -, -⟩ := ownsRow_shape hos
        obtain ⟨r, rfl, hr0, hr1, -, -, hcr, hfr⟩ := ownsRow_at hos (by omega)
        have hce := hcr _ _ HCE.out
        have hfe := hfr (m * 2 + 1)
        have hxd : decide (t < x.e) = true := by simp [hx]
        have hqr : ¬ q = r := by omega
        have HST := Lib.hid (hos.stored (m * 2 + 1) (.int .i64 (t + g)))
        clear hos hcr hfr
        go_wp2
        go_roundw
        case rel =>
          refine ⟨k + 1, by simp, by omega, HBL.out.grown HST.out.2 (by have := HBL.out.size; omega) (fun r' e => by cases e; exact hr0), ?_⟩
          have h := HST.out.1
          rw [HCS.out] at h
          rw [HTS.out, HG.out]
          have e2 : (L0 ++ [(⟨x.s, t + g⟩ : Sn)]).length = m + 1 := by simp [hm]
          rw [e2]
          exact h
        case measure => simp [intOf]; omega
    · obtain rfl : k = s.length := by omega
      have HBL := Lib.hid hb
      rw [List.take_length] at hos
      have HOS := Lib.hid hos
      clear hb hos
      go_wp2
      go_ret2
      exact ⟨_, rfl, World.ownsRow.mono HOS.out (by omega), HBW.out.trans (HBL.out.mono (by omega))⟩
end Go.Proofs.Ytjdfjaocidjhlaa
