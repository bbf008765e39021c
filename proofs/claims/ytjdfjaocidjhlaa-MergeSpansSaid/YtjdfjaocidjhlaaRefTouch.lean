/- The walks of the reference's Touch. -/
import Derived.Test.YtjdfjaocidjhlaaTouch
namespace Go.Proofs.Ytjdfjaocidjhlaa
open Go.RowKit

set_option maxRecDepth 100000 in
set_option maxHeartbeats 1000000 in
theorem refTouch_yes (v : Value) (l : List Wn) (S E : Int) (w : World) (hr : Rw w v l) (hap : Ap l) (hse : S < E) (hlen : l.length ≤ 100000) :
    Calls Try.prog 10 #[v, .agg #[.int .i64 S, .int .i64 E]] w fun e w' => e = .returned (.tuple #[.int .i64 (frm l S : Nat), .int .i64 (too l E : Nat), .int .i64 0]) ∧ Below w.heap.size w w' := by
  have HRW := Lib.hid hr
  obtain ⟨a, cap, rfl, hc, hm, hr⟩ := hr
  have htl := too_le l E
  have hft := frm_too hap hse
  obtain ⟨n, hn⟩ : ∃ n, l.length = n := ⟨_, rfl⟩
  have hse' : decide (E ≤ S) = false := by simp; omega
  have HAP : Hid (∀ W, Below w.heap.size w W → Calls Try.prog 14 #[.slice a n cap] W fun e w' => e = .returned (.bool true) ∧ Below W.heap.size W w') := fun W hb => by
    have := refApart_any _ l W (HRW.out.below hb)
    rw [apB_yes hap, hn] at this; exact this
  rw [hn] at hc hr htl hlen ⊢
  unfold maxLen at hm
  have HN := Lib.hid hn
  have HR := Lib.hid hr
  have HO : Hid (∀ (t : Nat) (x : Wn), l[t]? = some x → (t < frm l S → ovr x.s x.e S E = false ∧ x.e ≤ S) ∧ (frm l S ≤ t → ovr x.s x.e S E = decide (t < too l E) ∧ ¬ x.e ≤ S)) := fun t x hx =>
    ⟨fun ht => ⟨ovr_no fun h => by have := (frm_idx hap S hx).1 ht; omega, (frm_idx hap S hx).1 ht⟩, fun ht => ⟨ovr_idx hap hse hx ht, fun h => by have := (frm_idx hap S hx).2 h; omega⟩⟩
  generalize frm l S = f at *
  generalize too l E = z at *
  clear hn hr hap
  obtain ⟨B, hB⟩ : ∃ B, w.heap.size = B := ⟨_, rfl⟩
  have hb0 : Below w.heap.size w (w.alloc (.cells #[.int .i64 S, .int .i64 E] 24)) := below_alloc _ _
  have HB0 := Lib.hid hb0
  go_enter Try.func10, Try.ntmps10
  go_wp2_with (first
    | (go_at_call 14; (with_reducible refine (HAP.out _ HB0.out).mono ?_); rintro e w1 ⟨rfl, hb1⟩; have HB1 := Lib.hid (HB0.out.trans (hb1.mono hb0.size)); obtain ⟨fc, ff⟩ := bcell hb1))
  have hs0 : w.heap.size < (w.alloc (.cells #[.int .i64 S, .int .i64 E] 24)).heap.size := by simp
  have hs1 := hb1.size
  have x0 : w1.cell? ⟨w.heap.size, 0, none⟩ = some (.int .i64 S) := by
    rw [hb1.cell (p := ⟨w.heap.size, 0, none⟩) hs0]; go_simp
  have x1 : w1.cell? ⟨w.heap.size, 1, none⟩ = some (.int .i64 E) := by
    rw [hb1.cell (p := ⟨w.heap.size, 1, none⟩) hs0]; go_simp
  have hBs : B < w1.heap.size := by omega
  have hBw : w.heap.size ≤ w1.heap.size := by omega
  rw [hB] at x0 x1
  have HX0 := Lib.hid x0
  have HX1 := Lib.hid x1
  clear x0 x1 hb0 hb1 fc ff hs0 hs1 HAP HB0
  go_loopw [8, 9, 10] (fun p q r wr => ∃ i a c : Nat, p = .int .i64 a ∧ q = .int .i64 c ∧ r = .int .i64 i ∧ i ≤ n ∧ (a = min i f ∧ c + a = min i z) ∧ Below w1.heap.size w1 wr) (fun _ _ r _ => n - (intOf r).toNat)
  case atStart => exact ⟨0, 0, 0, rfl, rfl, rfl, Nat.zero_le _, by omega, Below.refl _ _⟩
  case round =>
    obtain ⟨i, a', c, rfl, rfl, rfl, h1, he, hb⟩ := hrel
    have HE := Lib.hid he
    have ha1 : a' ≤ i := by omega
    have ha2 : c ≤ i := by omega
    have hsz := hb.size
    clear he
    have b0 := (hb.cell (p := ⟨B, 0, none⟩) hBs).trans HX0.out
    have b1 := (hb.cell (p := ⟨B, 1, none⟩) hBs).trans HX1.out
    by_cases htn : i < n
    · obtain ⟨g, off, rfl, hg, hx⟩ := HR.out (by omega)
      obtain ⟨x, hxk⟩ : ∃ x, l[i]? = some x := ⟨_, List.getElem?_eq_getElem (by have := HN.out; omega)⟩
      obtain ⟨c0, c1, -, -, -, -, -, -, -⟩ := ((hx i x hxk).below HB1.out hg).below hb (by omega)
      have hgr : g < wr.heap.size := by omega
      have hov := HO.out i x hxk
      have hji : (i : Int) < (n : Int) := by omega
      have HKS : Hid (∀ W, Below wr.heap.size wr W → Below wr.heap.size wr W ∧ W.cell? ⟨g, off + i * 9, none⟩ = some (.int .i64 x.s) ∧ W.cell? ⟨g, off + i * 9 + 1, none⟩ = some (.int .i64 x.e) ∧ W.cell? ⟨B, 0, none⟩ = some (.int .i64 S) ∧ W.cell? ⟨B, 1, none⟩ = some (.int .i64 E)) := fun W hb => ⟨hb, (hb.cell (p := ⟨g, off + i * 9, none⟩) hgr).trans c0, (hb.cell (p := ⟨g, off + i * 9 + 1, none⟩) hgr).trans c1, (hb.cell (p := ⟨B, 0, none⟩) (by show B < _; omega)).trans b0, (hb.cell (p := ⟨B, 1, none⟩) (by show B < _; omega)).trans b1⟩
      clear hx hxk
      by_cases htf : i < f
      · obtain ⟨hov, hle⟩ := hov.1 htf
        have hle' : decide (x.e ≤ S) = true := by simp [hle]
        go_wp2
        go_region_held3 (fun W => Below wr.heap.size wr W ∧ W.cell? ⟨g, off + i * 9, none⟩ = some (.int .i64 x.s) ∧ W.cell? ⟨g, off + i * 9 + 1, none⟩ = some (.int .i64 x.e) ∧ W.cell? ⟨B, 0, none⟩ = some (.int .i64 S) ∧ W.cell? ⟨B, 1, none⟩ = some (.int .i64 E))
          (first
            | exact HKS.out _ (below_drew wr)
            | exact HKS.out _ hb7)
          ((go_at_call 17; (with_reducible refine (refOverlap_any _ _ _ _ _).mono ?_); rintro e w7 ⟨rfl, hb7'⟩; have hb7 : Below wr.heap.size wr w7 := below_trans (below_drew wr) hb7'))
        obtain ⟨-, a0', a1', b0', b1'⟩ := HKS.out _ hb7
        have hb7s := hb7.size
        clear c0 c1 b0 b1
        go_wp2
        go_quiet (fail)
        go_wp2
        go_roundw
        case rel => exact ⟨i + 1, a' + 1, c, by go_num, rfl, by go_num, by omega, by have := HE.out; omega, hb.trans ((below_drewN hb7 _).mono hsz)⟩
        case measure => simp [intOf]; omega
      · obtain ⟨hov, hle⟩ := hov.2 (by omega)
        have hle' : decide (x.e ≤ S) = false := by simp; omega
        by_cases htz : i < z
        · have hov : ovr x.s x.e S E = true := by rw [hov]; simp [htz]
          go_wp2
          go_region_held3 (fun W => Below wr.heap.size wr W ∧ W.cell? ⟨g, off + i * 9, none⟩ = some (.int .i64 x.s) ∧ W.cell? ⟨g, off + i * 9 + 1, none⟩ = some (.int .i64 x.e) ∧ W.cell? ⟨B, 0, none⟩ = some (.int .i64 S) ∧ W.cell? ⟨B, 1, none⟩ = some (.int .i64 E))
            (first
              | exact HKS.out _ (below_drew wr)
              | exact HKS.out _ hb7)
            ((go_at_call 17; (with_reducible refine (refOverlap_any _ _ _ _ _).mono ?_); rintro e w7 ⟨rfl, hb7'⟩; have hb7 : Below wr.heap.size wr w7 := below_trans (below_drew wr) hb7'))
          go_wp2
          go_roundw
          case rel => exact ⟨i + 1, a', c + 1, rfl, by go_num, by go_num, by omega, by have := HE.out; omega, hb.trans (hb7.mono hsz)⟩
          case measure => simp [intOf]; omega
        · have hov : ovr x.s x.e S E = false := by rw [hov]; simp [htz]
          go_wp2
          go_region_held3 (fun W => Below wr.heap.size wr W ∧ W.cell? ⟨g, off + i * 9, none⟩ = some (.int .i64 x.s) ∧ W.cell? ⟨g, off + i * 9 + 1, none⟩ = some (.int .i64 x.e) ∧ W.cell? ⟨B, 0, none⟩ = some (.int .i64 S) ∧ W.cell? ⟨B, 1, none⟩ = some (.int .i64 E))
            (first
              | exact HKS.out _ (below_drew wr)
              | exact HKS.out _ hb7)
            ((go_at_call 17; (with_reducible refine (refOverlap_any _ _ _ _ _).mono ?_); rintro e w7 ⟨rfl, hb7'⟩; have hb7 : Below wr.heap.size wr w7 := below_trans (below_drew wr) hb7'))
          obtain ⟨-, a0', a1', b0', b1'⟩ := HKS.out _ hb7
          have hb7s := hb7.size
          clear c0 c1 b0 b1
          go_wp2
          go_quiet (fail)
          go_wp2
          go_roundw
          case rel => exact ⟨i + 1, a', c, rfl, rfl, by go_num, by omega, by have := HE.out; omega, hb.trans ((below_drewN hb7 _).mono hsz)⟩
          case measure => simp [intOf]; omega
    · have hi : a' = f := by have := HE.out; omega
      have hz : (f : Int) + (c : Int) = (z : Int) := by have := HE.out; omega
      subst hi
      go_wp2
      go_ret3
      exact ⟨rfl, hB ▸ HB1.out.trans (hb.mono hBw)⟩

set_option maxRecDepth 100000 in
set_option maxHeartbeats 1000000 in
theorem refTouch_no (v : Value) (l : List Wn) (S E : Int) (w : World) (hr : Rw w v l) (hno : ¬ (Ap l ∧ S < E)) :
    Calls Try.prog 10 #[v, .agg #[.int .i64 S, .int .i64 E]] w fun e w' => e = .returned (.tuple #[.int .i64 0, .int .i64 0, .int .i64 190]) ∧ Below w.heap.size w w' := by
  have hb0 : Below w.heap.size w (w.alloc (.cells #[.int .i64 S, .int .i64 E] 24)) := below_alloc _ _
  have HB0 := Lib.hid hb0
  have HAP : Hid (∀ W, Below w.heap.size w W → Calls Try.prog 14 #[v] W fun e w' => e = .returned (.bool (apB l)) ∧ Below W.heap.size W w') := fun W hb => refApart_any _ l W (hr.below hb)
  cases hap : apB l with
  | true =>
    have hse : ¬ S < E := fun h => hno ⟨apB_iff.1 hap, h⟩
    have hse' : decide (E ≤ S) = true := by simp; omega
    rw [hap] at HAP
    clear hr hno hb0
    go_enter Try.func10, Try.ntmps10
    go_wp2_with (go_at_call 14; (with_reducible refine (HAP.out _ HB0.out).mono ?_); rintro e w1 ⟨rfl, hb1⟩; obtain ⟨fc, ff⟩ := bcell hb1)
    go_ret3
    exact ⟨rfl, HB0.out.trans (hb1.mono HB0.out.size)⟩
  | false =>
    rw [hap] at HAP
    clear hr hno hb0
    go_enter Try.func10, Try.ntmps10
    go_wp2_with (go_at_call 14; (with_reducible refine (HAP.out _ HB0.out).mono ?_); rintro e w1 ⟨rfl, hb1⟩; obtain ⟨fc, ff⟩ := bcell hb1)
    go_ret3
    exact ⟨rfl, HB0.out.trans (hb1.mono HB0.out.size)⟩
end Go.Proofs.Ytjdfjaocidjhlaa
