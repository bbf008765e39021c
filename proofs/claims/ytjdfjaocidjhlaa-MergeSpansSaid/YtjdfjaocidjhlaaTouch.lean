/- The walks of the program's Touch and of the search in it. -/
import Derived.Test.YtjdfjaocidjhlaaRefApart
namespace Go.Proofs.Ytjdfjaocidjhlaa
open Go.RowKit

theorem cmp_yes (x : Wn) (S : Int) (w : World) (h : x.e ≤ S) : Calls Try.prog 26 #[.agg #[.int .i64 x.s, .int .i64 x.e, .int .i64 x.h, .int .i64 x.c, .int .i64 x.u, .int .i64 x.lo, .int .i64 x.hi, .int .i64 x.si, .int .i64 x.pa], .int .i64 S] w fun e w' => e = .returned (.int .i64 (-1)) ∧ Below w.heap.size w w' := by
  go_enter Try.func26, Try.ntmps26
  go_wp2
  go_ret
  exact ⟨rfl, below_alloc _ _⟩
theorem cmp_no (x : Wn) (S : Int) (w : World) (h : ¬ x.e ≤ S) : Calls Try.prog 26 #[.agg #[.int .i64 x.s, .int .i64 x.e, .int .i64 x.h, .int .i64 x.c, .int .i64 x.u, .int .i64 x.lo, .int .i64 x.hi, .int .i64 x.si, .int .i64 x.pa], .int .i64 S] w fun e w' => e = .returned (.int .i64 1) ∧ Below w.heap.size w w' := by
  go_enter Try.func26, Try.ntmps26
  go_wp2
  go_ret
  exact ⟨rfl, below_alloc _ _⟩

set_option maxRecDepth 100000 in
set_option maxHeartbeats 1000000 in
theorem search_any (v : Value) (l : List Wn) (S : Int) (w : World) (hr : Rw w v l) (hap : Ap l) (hlen : l.length ≤ 100000) :
    Calls Try.prog 25 #[v, .int .i64 S, .func (.func 26) #[] #[]] w fun e w' => e = .returned (.tuple #[.int .i64 (frm l S : Nat), .bool false]) ∧ Below w.heap.size w w' := by
  obtain ⟨a, cap, rfl, hc, hm, hr⟩ := hr
  have hfl := frm_le l S
  obtain ⟨n, hn⟩ : ∃ n, l.length = n := ⟨_, rfl⟩
  rw [hn] at hc hr hfl hlen ⊢
  unfold maxLen at hm
  have HN := Lib.hid hn
  have HR := Lib.hid hr
  have HF : Hid (∀ (k : Nat) (x : Wn), l[k]? = some x → (k < frm l S ↔ x.e ≤ S)) := fun k x hk => frm_idx hap S hk
  generalize frm l S = f at *
  clear hn hr hap
  go_enter Try.func25, Try.ntmps25
  go_wp2
  go_loopw [9, 10] (fun i j wr => ∃ a b : Nat, i = .int .i64 a ∧ j = .int .i64 b ∧ a ≤ f ∧ f ≤ b ∧ b ≤ n ∧ Below w.heap.size w wr) (fun i j _ => (intOf j - intOf i).toNat)
  case atStart => exact ⟨0, n, rfl, rfl, Nat.zero_le _, hfl, Nat.le_refl _, Below.refl _ _⟩
  case round =>
    obtain ⟨a, b, rfl, rfl, ha, hb, hbn, hbw⟩ := hrel
    have hsz := hbw.size
    by_cases hlt : a < b
    · obtain ⟨m, hmm⟩ : ∃ m, (a + b) / 2 = m := ⟨_, rfl⟩
      obtain ⟨g, off, rfl, hg, hx⟩ := HR.out (by omega)
      obtain ⟨x, hxk⟩ : ∃ x, l[m]? = some x := ⟨_, List.getElem?_eq_getElem (by have := HN.out; omega)⟩
      obtain ⟨c0, c1, c2, c3, c4, c5, c6, c7, c8⟩ := (hx m x hxk).below hbw hg
      have hgr : g < wr.heap.size := Nat.lt_of_lt_of_le hg hsz
      have HX := Lib.hid hxk
      clear hx hxk
      have hma : a ≤ m := by omega
      have hmb : m < b := by omega
      have hq : ((a : Int) + (b : Int)) / 2 = (m : Int) := by omega
      have hmn : m < n := by omega
      clear hmm
      by_cases he : x.e ≤ S
      · have hmf : m < f := (HF.out m x HX.out).2 he
        go_wp2_with (go_at_call 26; (with_reducible refine (cmp_yes x S _ he).mono ?_); rintro e w7 ⟨rfl, hb7⟩)
        go_roundw
        case rel => exact ⟨m + 1, b, by go_num, rfl, by omega, hb, hbn, hbw.trans (hb7.mono hsz)⟩
        case measure => simp [intOf]; omega
      · have hmf : ¬ m < f := fun h => he ((HF.out m x HX.out).1 h)
        go_wp2_with (go_at_call 26; (with_reducible refine (cmp_no x S _ he).mono ?_); rintro e w7 ⟨rfl, hb7⟩)
        go_roundw
        case rel => exact ⟨a, m, rfl, rfl, ha, by omega, by omega, hbw.trans (hb7.mono hsz)⟩
        case measure => simp [intOf]; omega
    · obtain rfl : a = f := by omega
      obtain rfl : b = a := by omega
      by_cases hbn2 : b < n
      · obtain ⟨g, off, rfl, hg, hx⟩ := HR.out (by omega)
        obtain ⟨x, hxk⟩ : ∃ x, l[b]? = some x := ⟨_, List.getElem?_eq_getElem (by have := HN.out; omega)⟩
        obtain ⟨c0, c1, c2, c3, c4, c5, c6, c7, c8⟩ := (hx b x hxk).below hbw hg
        have hgr : g < wr.heap.size := Nat.lt_of_lt_of_le hg hsz
        have he : ¬ x.e ≤ S := fun h => by have := (HF.out b x hxk).2 h; omega
        clear hx hxk
        go_wp2_with (go_at_call 26; (with_reducible refine (cmp_no x S _ he).mono ?_); rintro e w7 ⟨rfl, hb7⟩)
        go_ret2
        exact ⟨rfl, hbw.trans (hb7.mono hsz)⟩
      · go_wp2
        go_ret2
        exact ⟨rfl, hbw⟩

theorem ovr_idx {l : List Wn} (hap : Ap l) {S E : Int} (hse : S < E) {t : Nat} {x : Wn} (hx : l[t]? = some x) (ht : frm l S ≤ t) : ovr x.s x.e S E = decide (t < too l E) := by
  have h1 := frm_idx hap S hx
  have h2 := too_idx hap E hx
  have h3 := (ap_okw hap hx).lt
  have h4 : ¬ x.e ≤ S := fun h => by have := h1.2 h; omega
  by_cases h5 : x.s < E
  · rw [decide_eq_true (h2.2 h5)]; exact ovr_yes (by omega)
  · rw [decide_eq_false (fun h => h5 (h2.1 h))]; exact ovr_no (by omega)

set_option maxRecDepth 100000 in
set_option maxHeartbeats 1000000 in
theorem Touch_yes (v : Value) (l : List Wn) (S E : Int) (w : World) (hr : Rw w v l) (hap : Ap l) (hse : S < E) (hlen : l.length ≤ 100000) :
    Calls Try.prog 9 #[v, .agg #[.int .i64 S, .int .i64 E]] w fun e w' => e = .returned (.tuple #[.int .i64 (frm l S : Nat), .int .i64 (too l E : Nat), .int .i64 0]) ∧ Below w.heap.size w w' := by
  have HRW := Lib.hid hr
  obtain ⟨a, cap, rfl, hc, hm, hr⟩ := hr
  have htl := too_le l E
  have hft := frm_too hap hse
  obtain ⟨n, hn⟩ : ∃ n, l.length = n := ⟨_, rfl⟩
  have hse' : decide (E ≤ S) = false := by simp; omega
  have HAP : Hid (∀ W, Below w.heap.size w W → Calls Try.prog 13 #[.slice a n cap] W fun e w' => e = .returned (.bool true) ∧ Below W.heap.size W w') := fun W hb => by
    have := Apart_any _ l W (HRW.out.below hb)
    rw [apB_yes hap, hn] at this; exact this
  have HSE : Hid (∀ W, Below w.heap.size w W → Calls Try.prog 25 #[.slice a n cap, .int .i64 S, .func (.func 26) #[] #[]] W fun e w' => e = .returned (.tuple #[.int .i64 (frm l S : Nat), .bool false]) ∧ Below W.heap.size W w') := fun W hb => by
    have := search_any _ l S W (HRW.out.below hb) hap hlen
    rw [hn] at this; exact this
  rw [hn] at hc hr htl hlen ⊢
  unfold maxLen at hm
  have HN := Lib.hid hn
  have HR := Lib.hid hr
  have HO : Hid (∀ (t : Nat) (x : Wn), l[t]? = some x → frm l S ≤ t → ovr x.s x.e S E = decide (t < too l E)) := fun t x hx ht => ovr_idx hap hse hx ht
  generalize frm l S = f at *
  generalize too l E = z at *
  clear hn hr hap
  obtain ⟨B, hB⟩ : ∃ B, w.heap.size = B := ⟨_, rfl⟩
  have hb0 : Below w.heap.size w (w.alloc (.cells #[.int .i64 S, .int .i64 E] 24)) := below_alloc _ _
  have HB0 := Lib.hid hb0
  go_enter Try.func9, Try.ntmps9
  go_wp2_with (first
    | (go_at_call 13; (with_reducible refine (HAP.out _ HB0.out).mono ?_); rintro e w1 ⟨rfl, hb1⟩; have HB1 := Lib.hid (HB0.out.trans (hb1.mono hb0.size)); obtain ⟨fc, ff⟩ := bcell hb1)
    | (go_at_call 25; (with_reducible refine (HSE.out _ HB1.out).mono ?_); rintro e w2 ⟨rfl, hb2⟩))
  have hs0 : w.heap.size < (w.alloc (.cells #[.int .i64 S, .int .i64 E] 24)).heap.size := by simp
  have hs1 := hb1.size
  have hs2 := hb2.size
  have HB2 : Hid (Below w.heap.size w w2) := HB1.out.trans (hb2.mono (by have := hb0.size; omega))
  have x0 : w2.cell? ⟨w.heap.size, 0, none⟩ = some (.int .i64 S) := by
    rw [hb2.cell (p := ⟨w.heap.size, 0, none⟩) (by show w.heap.size < _; omega), hb1.cell (p := ⟨w.heap.size, 0, none⟩) hs0]; go_simp
  have x1 : w2.cell? ⟨w.heap.size, 1, none⟩ = some (.int .i64 E) := by
    rw [hb2.cell (p := ⟨w.heap.size, 1, none⟩) (by show w.heap.size < _; omega), hb1.cell (p := ⟨w.heap.size, 1, none⟩) hs0]; go_simp
  have hBs : B < w2.heap.size := by omega
  have hBw : w.heap.size ≤ w2.heap.size := by omega
  rw [hB] at x0 x1
  have HX0 := Lib.hid x0
  have HX1 := Lib.hid x1
  clear x0 x1 hb0 hb1 hb2 fc ff hs0 hs1 hs2 HAP HSE HB0 HB1
  go_loopw [9] (fun i wr => ∃ t : Nat, i = .int .i64 t ∧ f ≤ t ∧ t ≤ z ∧ Below w2.heap.size w2 wr) (fun i _ => z - (intOf i).toNat)
  case atStart => exact ⟨f, rfl, Nat.le_refl _, hft, Below.refl _ _⟩
  case round =>
    obtain ⟨t, rfl, h1, h2, hb⟩ := hrel
    have hsz := hb.size
    have b0 := (hb.cell (p := ⟨B, 0, none⟩) hBs).trans HX0.out
    have b1 := (hb.cell (p := ⟨B, 1, none⟩) hBs).trans HX1.out
    by_cases htn : t < n
    · obtain ⟨g, off, rfl, hg, hx⟩ := HR.out (by omega)
      obtain ⟨x, hxk⟩ : ∃ x, l[t]? = some x := ⟨_, List.getElem?_eq_getElem (by have := HN.out; omega)⟩
      obtain ⟨c0, c1, -, -, -, -, -, -, -⟩ := ((hx t x hxk).below HB2.out hg).below hb (by omega)
      have hgr : g < wr.heap.size := by omega
      have hov := HO.out t x hxk h1
      have hji : (t : Int) < (n : Int) := by omega
      have HKS : Hid (∀ W, Below wr.heap.size wr W → Below wr.heap.size wr W ∧ W.cell? ⟨g, off + t * 9, none⟩ = some (.int .i64 x.s) ∧ W.cell? ⟨g, off + t * 9 + 1, none⟩ = some (.int .i64 x.e) ∧ W.cell? ⟨B, 0, none⟩ = some (.int .i64 S) ∧ W.cell? ⟨B, 1, none⟩ = some (.int .i64 E)) := fun W hb => ⟨hb, (hb.cell (p := ⟨g, off + t * 9, none⟩) hgr).trans c0, (hb.cell (p := ⟨g, off + t * 9 + 1, none⟩) hgr).trans c1, (hb.cell (p := ⟨B, 0, none⟩) (by show B < _; omega)).trans b0, (hb.cell (p := ⟨B, 1, none⟩) (by show B < _; omega)).trans b1⟩
      clear hx hxk
      by_cases htz : t < z
      · have hov : ovr x.s x.e S E = true := by rw [hov]; simp [htz]
        go_wp2
        go_region_held3 (fun W => Below wr.heap.size wr W ∧ W.cell? ⟨g, off + t * 9, none⟩ = some (.int .i64 x.s) ∧ W.cell? ⟨g, off + t * 9 + 1, none⟩ = some (.int .i64 x.e) ∧ W.cell? ⟨B, 0, none⟩ = some (.int .i64 S) ∧ W.cell? ⟨B, 1, none⟩ = some (.int .i64 E))
          (first
            | exact HKS.out _ (below_drew wr)
            | exact HKS.out _ hb7)
          ((go_at_call 27; (with_reducible refine (Overlap_any _ _ _ _ _).mono ?_); rintro e w7 ⟨rfl, hb7'⟩; have hb7 : Below wr.heap.size wr w7 := below_trans (below_drew wr) hb7'))
        go_wp2
        go_roundw
        case rel => exact ⟨t + 1, by go_num, by omega, by omega, hb.trans (hb7.mono hsz)⟩
        case measure => simp [intOf]; omega
      · have hov : ovr x.s x.e S E = false := by rw [hov]; simp [htz]
        obtain rfl : t = z := by omega
        go_wp2
        go_region_held3 (fun W => Below wr.heap.size wr W ∧ W.cell? ⟨g, off + t * 9, none⟩ = some (.int .i64 x.s) ∧ W.cell? ⟨g, off + t * 9 + 1, none⟩ = some (.int .i64 x.e) ∧ W.cell? ⟨B, 0, none⟩ = some (.int .i64 S) ∧ W.cell? ⟨B, 1, none⟩ = some (.int .i64 E))
          (first
            | exact HKS.out _ (below_drew wr)
            | exact HKS.out _ hb7)
          ((go_at_call 27; (with_reducible refine (Overlap_any _ _ _ _ _).mono ?_); rintro e w7 ⟨rfl, hb7'⟩; have hb7 : Below wr.heap.size wr w7 := below_trans (below_drew wr) hb7'))
        go_wp2
        go_ret3
        exact ⟨rfl, hB ▸ HB2.out.trans ((hb.trans (hb7.mono hsz)).mono hBw)⟩
    · obtain rfl : t = z := by omega
      have hdd : decide (t < n) = false := by simp; omega
      go_wp2
      go_quiet (fail)
      go_wp2
      go_ret3
      exact ⟨rfl, hB ▸ HB2.out.trans ((below_drewN hb _).mono hBw)⟩

set_option maxRecDepth 100000 in
set_option maxHeartbeats 1000000 in
theorem Touch_no (v : Value) (l : List Wn) (S E : Int) (w : World) (hr : Rw w v l) (hno : ¬ (Ap l ∧ S < E)) :
    Calls Try.prog 9 #[v, .agg #[.int .i64 S, .int .i64 E]] w fun e w' => e = .returned (.tuple #[.int .i64 0, .int .i64 0, .int .i64 190]) ∧ Below w.heap.size w w' := by
  have hb0 : Below w.heap.size w (w.alloc (.cells #[.int .i64 S, .int .i64 E] 24)) := below_alloc _ _
  have HB0 := Lib.hid hb0
  by_cases hse : S < E
  · have hse' : decide (E ≤ S) = false := by simp; omega
    have HAP : Hid (∀ W, Below w.heap.size w W → Calls Try.prog 13 #[v] W fun e w' => e = .returned (.bool false) ∧ Below W.heap.size W w') := fun W hb => by
      have := Apart_any _ l W (hr.below hb)
      rw [apB_no (fun h => hno ⟨h, hse⟩)] at this; exact this
    clear hr hno hb0
    go_enter Try.func9, Try.ntmps9
    go_wp2_with (go_at_call 13; (with_reducible refine (HAP.out _ HB0.out).mono ?_); rintro e w1 ⟨rfl, hb1⟩)
    go_ret3
    exact ⟨rfl, HB0.out.trans (hb1.mono HB0.out.size)⟩
  · have hse' : decide (E ≤ S) = true := by simp; omega
    clear hr hno hb0
    go_enter Try.func9, Try.ntmps9
    go_wp2
    go_ret3
    exact ⟨rfl, HB0.out⟩
end Go.Proofs.Ytjdfjaocidjhlaa
