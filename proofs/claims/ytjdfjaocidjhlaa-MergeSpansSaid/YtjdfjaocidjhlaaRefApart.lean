/- The walks of the reference's Overlap and Apart. -/
import Derived.Test.YtjdfjaocidjhlaaApart
import Derived.Deep.RegionHeld3
namespace Go.Proofs.Ytjdfjaocidjhlaa
open Go.RowKit

theorem ovr_iff (s e t f : Int) : ovr s e t f = true ↔ s < e ∧ t < f ∧ s < f ∧ t < e := by unfold ovr; simp only [decide_eq_true_eq]; omega
theorem ovr_yes {s e t f : Int} (h : s < e ∧ t < f ∧ s < f ∧ t < e) : ovr s e t f = true := (ovr_iff s e t f).2 h
theorem ovr_no {s e t f : Int} (h : ¬ (s < e ∧ t < f ∧ s < f ∧ t < e)) : ovr s e t f = false := by
  cases hh : ovr s e t f with
  | false => rfl
  | true => exact absurd ((ovr_iff s e t f).1 hh) h

set_option maxHeartbeats 400000 in
theorem refOverlap_any (s e t f : Int) (w : World) : Calls Try.prog 17 #[.agg #[.int .i64 s, .int .i64 e], .agg #[.int .i64 t, .int .i64 f]] w fun e' w' => e' = .returned (.bool (ovr s e t f)) ∧ Below w.heap.size w w' := by
  have fin := ((Below.refl w.heap.size w).alloc (Nat.le_refl _) (.cells #[.int .i64 s, .int .i64 e] 24)).alloc (by simp) (.cells #[.int .i64 t, .int .i64 f] 24)
  have FIN := Lib.hid fin
  clear fin
  by_cases h1 : s < e
  · by_cases h2 : t < f
    · by_cases h3 : s < f
      · by_cases h4 : t < e
        · have ho := Lib.hid (ovr_yes ⟨h1, h2, h3, h4⟩)
          go_enter Try.func17, Try.ntmps17
          go_wp2
          go_ret
          exact ⟨ret_bool ho.out.symm, FIN.out⟩
        · have ho := Lib.hid (ovr_no (s := s) (e := e) (t := t) (f := f) fun h => h4 h.2.2.2)
          go_enter Try.func17, Try.ntmps17
          go_wp2
          go_ret
          exact ⟨ret_bool ho.out.symm, FIN.out⟩
      · have ho := Lib.hid (ovr_no (s := s) (e := e) (t := t) (f := f) fun h => h3 h.2.2.1)
        go_enter Try.func17, Try.ntmps17
        go_wp2
        go_ret
        exact ⟨ret_bool ho.out.symm, FIN.out⟩
    · have ho := Lib.hid (ovr_no (s := s) (e := e) (t := t) (f := f) fun h => h2 h.2.1)
      go_enter Try.func17, Try.ntmps17
      go_wp2
      go_ret
      exact ⟨ret_bool ho.out.symm, FIN.out⟩
  · have ho := Lib.hid (ovr_no (s := s) (e := e) (t := t) (f := f) fun h => h1 h.1)
    go_enter Try.func17, Try.ntmps17
    go_wp2
    go_ret
    exact ⟨ret_bool ho.out.symm, FIN.out⟩

/-- What the round over the windows ahead keeps. -/
structure RA (w W : World) (B g o : Nat) (x y : Wn) : Prop where
  below : Below w.heap.size w W
  a0 : W.cell? ⟨g, o, none⟩ = some (.int .i64 y.s)
  a1 : W.cell? ⟨g, o + 1, none⟩ = some (.int .i64 y.e)
  b0 : W.cell? ⟨B, 0, none⟩ = some (.int .i64 x.s)
  b1 : W.cell? ⟨B, 1, none⟩ = some (.int .i64 x.e)

set_option maxRecDepth 100000 in
set_option maxHeartbeats 2000000 in
theorem refApart_any (v : Value) (l : List Wn) (w : World) (hr : Rw w v l) :
    Calls Try.prog 14 #[v] w fun e w' => e = .returned (.bool (apB l)) ∧ Below w.heap.size w w' := by
  obtain ⟨a, cap, rfl, hc, hm, hr⟩ := hr
  obtain ⟨n, hn⟩ : ∃ n, l.length = n := ⟨_, rfl⟩
  rw [hn] at hc hr ⊢
  unfold maxLen at hm
  have HN := Lib.hid hn
  have HR := Lib.hid hr
  clear hn hr
  go_enter Try.func14, Try.ntmps14
  go_wp2
  go_loopw [3] (fun i wr => ∃ k : Nat, i = .int .i64 k ∧ k ≤ n ∧ Below w.heap.size w wr ∧ Ap (l.take k)) (fun i _ => n - (intOf i).toNat)
  case atStart => exact ⟨0, rfl, Nat.zero_le _, Below.refl _ _, by simp; exact ap_nil⟩
  case round =>
    obtain ⟨k, rfl, hk, hb, hap⟩ := hrel
    have HA := Lib.hid hap
    have hsz := hb.size
    clear hap
    by_cases hlt : k < n
    · obtain ⟨g, off, rfl, hg, hx⟩ := HR.out (by omega)
      obtain ⟨x, hxk⟩ : ∃ x, l[k]? = some x := ⟨_, List.getElem?_eq_getElem (by have := HN.out; omega)⟩
      obtain ⟨c0, c1, c2, c3, c4, c5, c6, c7, c8⟩ := (hx k x hxk).below hb hg
      have hgr : g < wr.heap.size := Nat.lt_of_lt_of_le hg hsz
      have HX := Lib.hid hxk
      have HXX := Lib.hid hx
      clear hx hxk
      by_cases g1 : x.s < x.e
      · have g1' : decide (x.e ≤ x.s) = false := by simp; omega
        cases g2 : cnt x.c with
        | false =>
          have ho : Hid (apB l = false) := apB_no fun h => by have ho := ap_okw h HX.out; exact absurd (g2.symm.trans ho.c) (by simp)
          go_wp2_with (go_at_call 34; (with_reducible refine (counts_any _ _).mono ?_); rintro e w' ⟨rfl, rfl⟩)
          go_ret
          exact ⟨ret_bool ho.out.symm, hb.alloc hsz _⟩
        | true =>
          cases g3 : cnt x.si with
          | false =>
            have ho : Hid (apB l = false) := apB_no fun h => by have ho := ap_okw h HX.out; exact absurd (g3.symm.trans ho.si) (by simp)
            go_wp2_with (go_at_call 34; (with_reducible refine (counts_any _ _).mono ?_); rintro e w' ⟨rfl, rfl⟩)
            go_ret
            exact ⟨ret_bool ho.out.symm, hb.alloc hsz _⟩
          | true =>
            cases g4 : cnt x.pa with
            | false =>
              have ho : Hid (apB l = false) := apB_no fun h => by have ho := ap_okw h HX.out; exact absurd (g4.symm.trans ho.pa) (by simp)
              go_wp2_with (go_at_call 34; (with_reducible refine (counts_any _ _).mono ?_); rintro e w' ⟨rfl, rfl⟩)
              go_ret
              exact ⟨ret_bool ho.out.symm, hb.alloc hsz _⟩
            | true =>

              have HOK := Lib.hid (show Okw x from ⟨g1, g2, g3, g4⟩)
              go_wp2_with (go_at_call 34; (with_reducible refine (counts_any _ _).mono ?_); rintro e w' ⟨rfl, rfl⟩)
              have hbx : Below w.heap.size w (wr.alloc (.cells #[.int .i64 x.s, .int .i64 x.e, .int .i64 x.h, .int .i64 x.c, .int .i64 x.u, .int .i64 x.lo, .int .i64 x.hi, .int .i64 x.si, .int .i64 x.pa] 43)) := hb.alloc hsz _
              have hx0 : (wr.alloc (.cells #[.int .i64 x.s, .int .i64 x.e, .int .i64 x.h, .int .i64 x.c, .int .i64 x.u, .int .i64 x.lo, .int .i64 x.hi, .int .i64 x.si, .int .i64 x.pa] 43)).cell? ⟨wr.heap.size, 0, none⟩ = some (.int .i64 x.s) := by go_simp
              have hx1 : (wr.alloc (.cells #[.int .i64 x.s, .int .i64 x.e, .int .i64 x.h, .int .i64 x.c, .int .i64 x.u, .int .i64 x.lo, .int .i64 x.hi, .int .i64 x.si, .int .i64 x.pa] 43)).cell? ⟨wr.heap.size, 1, none⟩ = some (.int .i64 x.e) := by go_simp
              have hzz : wr.heap.size < (wr.alloc (.cells #[.int .i64 x.s, .int .i64 x.e, .int .i64 x.h, .int .i64 x.c, .int .i64 x.u, .int .i64 x.lo, .int .i64 x.hi, .int .i64 x.si, .int .i64 x.pa] 43)).heap.size := by simp
              generalize (wr.alloc (.cells #[.int .i64 x.s, .int .i64 x.e, .int .i64 x.h, .int .i64 x.c, .int .i64 x.u, .int .i64 x.lo, .int .i64 x.hi, .int .i64 x.si, .int .i64 x.pa] 43)) = W1 at *
              have hsw := hbx.size
              have HBX := Lib.hid hbx
              have HX0 := Lib.hid hx0
              have HX1 := Lib.hid hx1
              generalize wr.heap.size = B at *
              clear hbx hx0 hx1 c0 c1 c2 c3 c4 c5 c6 c7 c8 hb g1' g2 g3 g4
              go_loopw [5] (fun i wi => ∃ j : Nat, i = .int .i64 j ∧ j ≤ k ∧ Below W1.heap.size W1 wi ∧ ∀ (t : Nat) (y : Wn), t < j → l[t]? = some y → y.e ≤ x.s) (fun i _ => k - (intOf i).toNat)
              case atStart => exact ⟨0, rfl, Nat.zero_le _, Below.refl _ _, fun t y h => by omega⟩
              case round =>
                obtain ⟨j, rfl, hj, hbi, hal⟩ := hrel
                have HAL := Lib.hid hal
                have HBI := Lib.hid hbi
                have hsi := hbi.size
                clear hal hbi
                by_cases hjk : j < k
                · obtain ⟨y, hyj⟩ : ∃ y, l[j]? = some y := ⟨_, List.getElem?_eq_getElem (by have := HN.out; omega)⟩
                  have HY := Lib.hid hyj
                  have hRA : RA wr wr B g (off + j * 9) x y := ⟨Below.refl _ _, (((HXX.out j y hyj).below HBX.out hg).below HBI.out (by omega)).c0, (((HXX.out j y hyj).below HBX.out hg).below HBI.out (by omega)).c1, (HBI.out.cell (p := ⟨B, 0, none⟩) hzz).trans HX0.out, (HBI.out.cell (p := ⟨B, 1, none⟩) hzz).trans HX1.out⟩
                  have HKS : Hid (∀ W, Below wr.heap.size wr W → Below wr.heap.size wr W ∧ W.cell? ⟨g, off + j * 9, none⟩ = some (.int .i64 y.s) ∧ W.cell? ⟨g, off + j * 9 + 1, none⟩ = some (.int .i64 y.e) ∧ W.cell? ⟨B, 0, none⟩ = some (.int .i64 x.s) ∧ W.cell? ⟨B, 1, none⟩ = some (.int .i64 x.e)) := fun W hb => ⟨hb, (hb.cell (p := ⟨g, off + j * 9, none⟩) (by show g < _; omega)).trans hRA.a0, (hb.cell (p := ⟨g, off + j * 9 + 1, none⟩) (by show g < _; omega)).trans hRA.a1, (hb.cell (p := ⟨B, 0, none⟩) (by show B < _; omega)).trans hRA.b0, (hb.cell (p := ⟨B, 1, none⟩) (by show B < _; omega)).trans hRA.b1⟩
                  obtain ⟨-, a0, a1, b0, b1⟩ := hRA
                  clear hyj
                  have hji : (j : Int) < (n : Int) := by omega
                  have hjn' : j < n := by omega
                  by_cases hgd : y.e ≤ x.s
                  · have hyo : y.s < y.e := (ap_okw HA.out (k := j) (by rw [List.getElem?_take_of_lt hjk]; exact HY.out)).lt
                    have hov : ovr y.s y.e x.s x.e = false := ovr_no fun h => by omega
                    have hge : decide (x.s ≤ y.s) = false := by simp; omega
                    go_wp2
                    go_region_held3 (fun W => Below wr.heap.size wr W ∧ W.cell? ⟨g, off + j * 9, none⟩ = some (.int .i64 y.s) ∧ W.cell? ⟨g, off + j * 9 + 1, none⟩ = some (.int .i64 y.e) ∧ W.cell? ⟨B, 0, none⟩ = some (.int .i64 x.s) ∧ W.cell? ⟨B, 1, none⟩ = some (.int .i64 x.e))
                      (first
                        | exact HKS.out _ (below_drew wr)
                        | exact HKS.out _ hb7)
                      ((go_at_call 17; (with_reducible refine (refOverlap_any _ _ _ _ _).mono ?_); rintro e w7 ⟨rfl, hb7'⟩; have hb7 : Below wr.heap.size wr w7 := below_trans (below_drew wr) hb7'))
                    obtain ⟨-, a0', a1', b0', b1'⟩ := HKS.out _ hb7
                    have hb7s := hb7.size
                    clear a0 a1 b0 b1
                    go_wp2
                    go_quiet (fail)
                    go_wp2
                    go_roundw
                    case rel => exact ⟨j + 1, by go_num, by omega, HBI.out.trans ((below_drewN hb7 _).mono hsi), fun t z ht hz => by
                      by_cases htj : t < j
                      · exact HAL.out t z htj hz
                      · obtain rfl : t = j := by omega
                        have := HY.out.symm.trans hz; cases this; exact hgd⟩
                    case measure => simp [intOf]; omega
                  · have ho : Hid (apB l = false) := apB_no fun h => hgd (ap_lt h HY.out HX.out hjk)
                    cases hov : ovr y.s y.e x.s x.e with
                    | true =>
                      go_wp2
                      go_region_held3 (fun W => Below wr.heap.size wr W ∧ W.cell? ⟨g, off + j * 9, none⟩ = some (.int .i64 y.s) ∧ W.cell? ⟨g, off + j * 9 + 1, none⟩ = some (.int .i64 y.e) ∧ W.cell? ⟨B, 0, none⟩ = some (.int .i64 x.s) ∧ W.cell? ⟨B, 1, none⟩ = some (.int .i64 x.e))
                        (first
                          | exact HKS.out _ (below_drew wr)
                          | exact HKS.out _ hb7)
                        ((go_at_call 17; (with_reducible refine (refOverlap_any _ _ _ _ _).mono ?_); rintro e w7 ⟨rfl, hb7'⟩; have hb7 : Below wr.heap.size wr w7 := below_trans (below_drew wr) hb7'))
                      obtain ⟨-, a0', a1', b0', b1'⟩ := HKS.out _ hb7
                      have hb7s := hb7.size
                      clear a0 a1 b0 b1
                      go_wp2
                      go_quiet (fail)
                      go_wp2
                      go_ret
                      exact ⟨ret_bool ho.out.symm, HBX.out.trans ((HBI.out.trans ((below_drewN hb7 _).mono hsi)).mono hsw)⟩
                    | false =>
                      have hyo : y.s < y.e := (ap_okw HA.out (k := j) (by rw [List.getElem?_take_of_lt hjk]; exact HY.out)).lt
                      have hge : decide (x.s ≤ y.s) = true := by
                        rw [decide_eq_true_eq]
                        rcases Int.lt_or_le y.s x.s with hq | hq
                        · have : ovr y.s y.e x.s x.e = true := ovr_yes (by have := HOK.out.lt; omega)
                          rw [hov] at this; cases this
                        · exact hq
                      go_wp2
                      go_region_held3 (fun W => Below wr.heap.size wr W ∧ W.cell? ⟨g, off + j * 9, none⟩ = some (.int .i64 y.s) ∧ W.cell? ⟨g, off + j * 9 + 1, none⟩ = some (.int .i64 y.e) ∧ W.cell? ⟨B, 0, none⟩ = some (.int .i64 x.s) ∧ W.cell? ⟨B, 1, none⟩ = some (.int .i64 x.e))
                        (first
                          | exact HKS.out _ (below_drew wr)
                          | exact HKS.out _ hb7)
                        ((go_at_call 17; (with_reducible refine (refOverlap_any _ _ _ _ _).mono ?_); rintro e w7 ⟨rfl, hb7'⟩; have hb7 : Below wr.heap.size wr w7 := below_trans (below_drew wr) hb7'))
                      obtain ⟨-, a0', a1', b0', b1'⟩ := HKS.out _ hb7
                      have hb7s := hb7.size
                      clear a0 a1 b0 b1
                      go_wp2
                      go_quiet (fail)
                      go_wp2
                      go_ret
                      exact ⟨ret_bool ho.out.symm, HBX.out.trans ((HBI.out.trans ((below_drewN hb7 _).mono hsi)).mono hsw)⟩
                · have hjn : j = k := by omega
                  have hap2 : Hid (Ap (l.take (k + 1))) := ap_take_succ HX.out HA.out HOK.out (fun z h0 hz => HAL.out (k - 1) z (by omega) hz)
                  go_wp2
                  go_roundw
                  case rel => exact ⟨k + 1, by go_num, by omega, HBX.out.trans (HBI.out.mono hsw), hap2.out⟩
                  case measure => simp [intOf]; omega
      · have g1' : decide (x.e ≤ x.s) = true := by simp; omega
        have ho : Hid (apB l = false) := apB_no fun h => by have ho := ap_okw h HX.out; exact absurd ho.lt g1
        go_wp2_with (go_at_call 34; (with_reducible refine (counts_any _ _).mono ?_); rintro e w' ⟨rfl, rfl⟩)
        go_ret
        exact ⟨ret_bool ho.out.symm, hb.alloc hsz _⟩
    · have hkn : k = n := by omega
      have ho : Hid (apB l = true) := apB_yes (by have := HA.out; rwa [List.take_of_length_le (by have := HN.out; omega)] at this)
      go_wp2
      go_ret
      exact ⟨ret_bool ho.out.symm, hb⟩
end Go.Proofs.Ytjdfjaocidjhlaa
