/- The walk of the law MergeStays where the first span can be joined. -/
import Derived.Test.YtjdfjaocidjhlaaStays
namespace Go.Proofs.Ytjdfjaocidjhlaa
open Go.RowKit

set_option maxRecDepth 100000 in
set_option maxHeartbeats 4000000 in
theorem mergeStays_one (n : Nat) (a : Option Addr) (cap : Nat) (l : List Wn) (S1 E1 W1 H1 S2 E2 W2 H2 : Int) (w : World) (hr : Rw w (.slice a n cap) l) (hll : l.length = n) (hlen : n ≤ 100) (hap : Ap l) (hse1 : S1 < E1) (hse2 : ¬ S2 < E2) (b1 : B64 S1) (b2 : B64 E1) (b3 : B64 S2) (b4 : B64 E2) :
    Calls Try.prog 4 #[.slice a n cap, .agg #[.int .i64 S1, .int .i64 E1, .int .i64 W1, .int .i64 H1], .agg #[.int .i64 S2, .int .i64 E2, .int .i64 W2, .int .i64 H2]] w fun e w' => e = .returned (.bool true) ∧ Below w.heap.size w w' := by
  have hln : decide ((100 : Int) < (n : Int)) = false := by simp; omega
  have HMA := Lib.hid (mst_start (S1 := S1) (E1 := E1) (W1 := W1) (H1 := H1) (S2 := S2) (E2 := E2) (W2 := W2) (H2 := H2) hr)
  have hapJ : Ap (joinW l S1 E1 W1 H1) := ap_join hap hse1 b1 b2
  have hJl := joinW_length (l := l) (S := S1) (E := E1) (W := W1) (H := H1)
  have hfz := frm_too hap hse1
  have hzl := too_le l E1
  have HJ1 : Hid (∀ W, Rw W (.slice a n cap) l → Calls Try.prog 11 #[.slice a n cap, .agg #[.int .i64 S1, .int .i64 E1], .int .i64 W1, .int .i64 H1] W fun e w' => ∃ v', e = .returned (.tuple #[v', .int .i64 (frm l S1 : Nat), .int .i64 0]) ∧ Below W.heap.size W w' ∧ w'.ownsRow W.heap.size 43 9 v' (joinW l S1 E1 W1 H1).length (wcells (joinW l S1 E1 W1 H1))) := fun W h => Join_yes _ l S1 E1 W1 H1 W h hap hse1 (by omega)
  have HAP : Hid (∀ W v, Rw W v (joinW l S1 E1 W1 H1) → Calls Try.prog 13 #[v] W fun e w' => e = .returned (.bool true) ∧ Below W.heap.size W w') := fun W v h => by
    have := Apart_any v _ W h
    rw [apB_yes hapJ] at this; exact this
  have HTH : Hid (∀ (i : Nat) (x : Wn), l[i]? = some x → (i < frm l S1 ∨ too l E1 ≤ i) → ∃ k, k ≠ frm l S1 ∧ (joinW l S1 E1 W1 H1)[k]? = some x) := fun i x hx hi => joinW_there hap hse1 hx hi
  have HOV : Hid (∀ (i : Nat) (x : Wn), l[i]? = some x → ((i < frm l S1 ∨ too l E1 ≤ i) → ovr x.s x.e S1 E1 = false) ∧ (¬ (i < frm l S1 ∨ too l E1 ≤ i) → ovr x.s x.e S1 E1 = true)) := fun i x hx => by
    have q1 := frm_idx hap S1 hx
    have q2 := too_idx hap E1 hx
    have q3 := (ap_okw hap hx).lt
    exact ⟨fun hd => ovr_no (by omega), fun hd => ovr_yes (by omega)⟩
  have hse2' : decide (E2 ≤ S2) = true := by simp; omega
  generalize joinW l S1 E1 W1 H1 = J at *
  generalize frm l S1 = f at *
  generalize too l E1 = z at *
  obtain ⟨L, hL⟩ : ∃ L, J.length = L := ⟨_, rfl⟩
  rw [hll] at hJl hzl
  rw [hL] at hJl HJ1
  have HL := Lib.hid hL
  have HN := Lib.hid hll
  have hcc : n ≤ cap ∧ cap ≤ maxLen := by obtain ⟨_, _, hv, h1, h2, _⟩ := hr; cases hv; exact ⟨h1, h2⟩
  obtain ⟨hcc1, hcc2⟩ := hcc
  unfold maxLen at hcc2
  have hLz : L = f + 1 + (n - z) := hJl
  have HLZ := Lib.hid hLz
  have hL1 : 1 ≤ L := by omega
  have hL2 : L ≤ 101 := by omega
  clear hr hap hapJ hL hll hJl hLz b1 b2 b3 b4
  go_enter Try.func4, Try.ntmps4
  go_wp2_with (first
    | (go_at_call 11; (with_reducible refine (HJ1.out _ HMA.out.rw).mono ?_); rintro e w1 ⟨v1, rfl, hb1, ho1⟩
       have HM1 := Lib.hid (HMA.out.next hb1)
       have HR1 : Hid (Rw w1 v1 J) := Rw.of_owns (by rw [HL.out]; exact ho1)
       clear hb1 ho1)
    | (go_at_call 13; (with_reducible refine (HAP.out _ _ HR1.out).mono ?_); rintro e w2 ⟨rfl, hb2⟩
       have HM2 := Lib.hid (HM1.out.next hb2)
       have HR2 := Lib.hid (HR1.out.below hb2)
       clear hb2))
  obtain ⟨a1, c1, hv1, hc11, hc12, -⟩ := id HR2.out
  rw [HL.out] at hv1 hc11
  unfold maxLen at hc12
  subst hv1
  go_loopw [10, 11] (fun p q wr => ∃ i c : Nat, p = .int .i64 c ∧ q = .int .i64 i ∧ i ≤ n ∧ c = min i f + (i - min i z) ∧ Below w2.heap.size w2 wr) (fun _ q _ => n - (intOf q).toNat)
  case atStart => exact ⟨0, 0, rfl, rfl, Nat.zero_le _, by omega, Below.refl _ _⟩
  case round =>
    obtain ⟨i, c, rfl, rfl, hi, hc, hb⟩ := hrel
    have HC := Lib.hid hc
    have hci : c ≤ i := by omega
    clear hc
    have HMR := Lib.hid (HM2.out.next hb)
    have HRR := Lib.hid (HR2.out.below hb)
    have hsz := hb.size
    have HB := Lib.hid hb
    clear hb
    by_cases hin : i < n
    · obtain ⟨_, _, hv, -, -, hx⟩ := HMR.out.rw
      cases hv
      have hnl := HN.out
      obtain ⟨g, off, rfl, hg, hx⟩ := hx (by omega)
      obtain ⟨x, hxi⟩ : ∃ x, l[i]? = some x := ⟨_, List.getElem?_eq_getElem (by omega)⟩
      obtain ⟨c0, c1', c2, c3, c4, c5, c6, c7, c8⟩ := hx i x hxi
      have hov := HOV.out i x hxi
      have HXI := Lib.hid hxi
      have x0 : wr.cell? ⟨w.heap.size, 0, none⟩ = some (.int .i64 S1) := HMR.out.b1.cell 0
      have x1 : wr.cell? ⟨w.heap.size, 1, none⟩ = some (.int .i64 E1) := HMR.out.b1.cell 1
      have hBl := HMR.out.b1.lt
      have hKS : Hid (∀ W, Below wr.heap.size wr W → Below wr.heap.size wr W ∧ W.cell? ⟨g, off + i * 9, none⟩ = some (.int .i64 x.s) ∧ W.cell? ⟨g, off + i * 9 + 1, none⟩ = some (.int .i64 x.e) ∧ W.cell? ⟨w.heap.size, 0, none⟩ = some (.int .i64 S1) ∧ W.cell? ⟨w.heap.size, 1, none⟩ = some (.int .i64 E1)) := fun W hb => ⟨hb, (hb.cell (p := ⟨g, off + i * 9, none⟩) hg).trans c0, (hb.cell (p := ⟨g, off + i * 9 + 1, none⟩) hg).trans c1', (hb.cell (p := ⟨w.heap.size, 0, none⟩) hBl).trans x0, (hb.cell (p := ⟨w.heap.size, 1, none⟩) hBl).trans x1⟩
      have hji : (i : Int) < (l.length : Int) := by omega
      have hjn : i < l.length := by omega
      clear hx hxi
      by_cases hd : i < f ∨ z ≤ i
      · have hov := hov.1 hd
        obtain ⟨kk, hkk, hJk⟩ := HTH.out i x HXI.out hd
        have hkl : kk < L := by have := (List.getElem?_eq_some_iff.1 hJk).1; have := HL.out; omega
        have HJK := Lib.hid hJk
        have hcs : Hid (c + 1 = min (i + 1) f + (i + 1 - min (i + 1) z)) := by have := HC.out; show _ = _; omega
        clear hJk hd
        go_wp2
        go_region_held3 (fun W => Below wr.heap.size wr W ∧ W.cell? ⟨g, off + i * 9, none⟩ = some (.int .i64 x.s) ∧ W.cell? ⟨g, off + i * 9 + 1, none⟩ = some (.int .i64 x.e) ∧ W.cell? ⟨w.heap.size, 0, none⟩ = some (.int .i64 S1) ∧ W.cell? ⟨w.heap.size, 1, none⟩ = some (.int .i64 E1))
          (first
            | exact hKS.out _ (below_drew wr)
            | exact hKS.out _ hb7)
          ((go_at_call 17; (with_reducible refine (refOverlap_any _ _ _ _ _).mono ?_); rintro e w7 ⟨rfl, hb7'⟩; have hb7 : Below wr.heap.size wr w7 := below_trans (below_drew wr) hb7'))
        go_wp2
        have hnx := Lib.hid (show ∀ (W : World), Below wr.heap.size wr W → WnAt W g (off + i * 9) x from fun W hb => (⟨c0, c1', c2, c3, c4, c5, c6, c7, c8⟩ : WnAt wr g (off + i * 9) x).below hb hg)
        clear c0 c1' c2 c3 c4 c5 c6 c7 c8 x0 x1
        have hb7s := hb7.size
        have HB7 := Lib.hid hb7
        clear hb7
        obtain ⟨wq, rfl⟩ : ∃ wq, wq = wr := ⟨_, rfl⟩
        go_loopw [12, 13] (fun p q wr => ∃ (k : Nat) (t : Bool), p = .bool t ∧ q = .int .i64 k ∧ k ≤ L ∧ (k ≤ kk ∨ t = true) ∧ Below wq.heap.size wq wr) (fun _ q _ => L - (intOf q).toNat)
        case atStart => exact ⟨0, false, rfl, rfl, Nat.zero_le _, .inl (Nat.zero_le _), HB7.out⟩
        case round =>
          obtain ⟨k, t, rfl, rfl, hk, ht, hb⟩ := hrel
          have HBK := Lib.hid hb
          have hszk := hb.size
          clear hb
          by_cases hkL : k < L
          · obtain ⟨_, _, hv, -, -, hy⟩ := HRR.out.below HBK.out
            cases hv
            have hJL := HL.out
            obtain ⟨g1, off1, rfl, hg1, hy⟩ := hy (by omega)
            obtain ⟨y, hyk⟩ : ∃ y, J[k]? = some y := ⟨_, List.getElem?_eq_getElem (by omega)⟩
            obtain ⟨d0, d1, d2, d3, d4, d5, d6, d7, d8⟩ := hy k y hyk
            obtain ⟨c0, c1', c2, c3, c4, c5, c6, c7, c8⟩ := hnx.out _ HBK.out
            have HYK := Lib.hid hyk
            have hkJ : (k : Int) < (J.length : Int) := by omega
            have hkJ' : k < J.length := by omega
            clear hy hyk hJL
            cases t with
            | true =>
              go_wp2
              go_quiet (fail)
              go_wp2
              go_roundw
              case rel => exact ⟨k + 1, true, rfl, by go_num, by omega, .inr rfl, below_drewN HBK.out _⟩
              case measure => simp [intOf]; omega
            | false =>
              have hkk2 : k ≤ kk := by rcases ht with h | h; exact h; cases h
              clear ht
              by_cases hkf : k = f
              · subst hkf
                have hne : ((k : Int) != (k : Int)) = false := by simp
                go_wp2
                go_quiet (fail)
                go_wp2
                go_roundw
                case rel => exact ⟨k + 1, false, rfl, by go_num, by omega, .inl (by omega), below_drewN HBK.out _⟩
                case measure => simp [intOf]; omega
              · have hne : ((k : Int) != (f : Int)) = true := by simp; omega
                obtain ⟨q, hq1, hq2⟩ := weq_run y x
                have hqk : k = kk → q = true := fun h => hq2 (by have := HYK.out.symm.trans (h ▸ HJK.out); exact Option.some.inj this)
                clear hq2
                have HQK := Lib.hid hqk
                clear hqk
                go_wp2
                go_quiet (fail)
                go_wp2
                go_roundw
                case rel => exact ⟨k + 1, q, rfl, by go_num, by omega, by
                  by_cases h : k = kk
                  · exact .inr (HQK.out h)
                  · exact .inl (by omega), below_drewN HBK.out _⟩
                case measure => simp [intOf]; omega
          · obtain rfl : t = true := by rcases ht with h | h; exact absurd h (by omega); exact h
            go_wp2
            go_roundw
            case rel => exact ⟨i + 1, c + 1, by go_num, by go_num, by omega, hcs.out, HB.out.trans (HBK.out.mono hsz)⟩
            case measure => simp [intOf]; omega
      · have hov := hov.2 hd
        have hcs : Hid (c = min (i + 1) f + (i + 1 - min (i + 1) z)) := by have := HC.out; show _ = _; omega
        clear hd
        go_wp2
        go_region_held3 (fun W => Below wr.heap.size wr W ∧ W.cell? ⟨g, off + i * 9, none⟩ = some (.int .i64 x.s) ∧ W.cell? ⟨g, off + i * 9 + 1, none⟩ = some (.int .i64 x.e) ∧ W.cell? ⟨w.heap.size, 0, none⟩ = some (.int .i64 S1) ∧ W.cell? ⟨w.heap.size, 1, none⟩ = some (.int .i64 E1))
          (first
            | exact hKS.out _ (below_drew wr)
            | exact hKS.out _ hb7)
          ((go_at_call 17; (with_reducible refine (refOverlap_any _ _ _ _ _).mono ?_); rintro e w7 ⟨rfl, hb7'⟩; have hb7 : Below wr.heap.size wr w7 := below_trans (below_drew wr) hb7'))
        go_wp2
        go_roundw
        case rel => exact ⟨i + 1, c, rfl, by go_num, by omega, hcs.out, HB.out.trans (hb7.mono hsz)⟩
        case measure => simp [intOf]; omega
    · have hcL : ((L : Int) != ((c : Int) + 1)) = false := by have := HC.out; have := HLZ.out; simp; omega
      have y0 : wr.cell? ⟨w.heap.size + 1, 0, none⟩ = some (.int .i64 S2) := HMR.out.b2.cell 0
      have y1 : wr.cell? ⟨w.heap.size + 1, 1, none⟩ = some (.int .i64 E2) := HMR.out.b2.cell 1
      go_wp2_with (first
        | (go_at_call 7; (with_reducible refine (known_any _).mono ?_); rintro e w9 ⟨rfl, hb9⟩))
      go_ret
      exact ⟨rfl, HMR.out.below.trans (hb9.mono HMR.out.below.size)⟩

set_option maxRecDepth 100000 in
set_option maxHeartbeats 4000000 in
theorem mergeStays_two (n : Nat) (a : Option Addr) (cap : Nat) (l : List Wn) (S1 E1 W1 H1 S2 E2 W2 H2 : Int) (w : World) (hr : Rw w (.slice a n cap) l) (hll : l.length = n) (hlen : n ≤ 100) (hap : Ap l) (hse1 : S1 < E1) (hse2 : S2 < E2) (b1 : B64 S1) (b2 : B64 E1) (b3 : B64 S2) (b4 : B64 E2) :
    Calls Try.prog 4 #[.slice a n cap, .agg #[.int .i64 S1, .int .i64 E1, .int .i64 W1, .int .i64 H1], .agg #[.int .i64 S2, .int .i64 E2, .int .i64 W2, .int .i64 H2]] w fun e w' => e = .returned (.bool true) ∧ Below w.heap.size w w' := by
  have hln : decide ((100 : Int) < (n : Int)) = false := by simp; omega
  have HMA := Lib.hid (mst_start (S1 := S1) (E1 := E1) (W1 := W1) (H1 := H1) (S2 := S2) (E2 := E2) (W2 := W2) (H2 := H2) hr)
  have hapJ : Ap (joinW l S1 E1 W1 H1) := ap_join hap hse1 b1 b2
  have hJl := joinW_length (l := l) (S := S1) (E := E1) (W := W1) (H := H1)
  have hfz := frm_too hap hse1
  have hzl := too_le l E1
  have HJ1 : Hid (∀ W, Rw W (.slice a n cap) l → Calls Try.prog 11 #[.slice a n cap, .agg #[.int .i64 S1, .int .i64 E1], .int .i64 W1, .int .i64 H1] W fun e w' => ∃ v', e = .returned (.tuple #[v', .int .i64 (frm l S1 : Nat), .int .i64 0]) ∧ Below W.heap.size W w' ∧ w'.ownsRow W.heap.size 43 9 v' (joinW l S1 E1 W1 H1).length (wcells (joinW l S1 E1 W1 H1))) := fun W h => Join_yes _ l S1 E1 W1 H1 W h hap hse1 (by omega)
  have HAP : Hid (∀ W v, Rw W v (joinW l S1 E1 W1 H1) → Calls Try.prog 13 #[v] W fun e w' => e = .returned (.bool true) ∧ Below W.heap.size W w') := fun W v h => by
    have := Apart_any v _ W h
    rw [apB_yes hapJ] at this; exact this
  have HTH : Hid (∀ (i : Nat) (x : Wn), l[i]? = some x → (i < frm l S1 ∨ too l E1 ≤ i) → ∃ k, k ≠ frm l S1 ∧ (joinW l S1 E1 W1 H1)[k]? = some x) := fun i x hx hi => joinW_there hap hse1 hx hi
  have HOV : Hid (∀ (i : Nat) (x : Wn), l[i]? = some x → ((i < frm l S1 ∨ too l E1 ≤ i) → ovr x.s x.e S1 E1 = false) ∧ (¬ (i < frm l S1 ∨ too l E1 ≤ i) → ovr x.s x.e S1 E1 = true)) := fun i x hx => by
    have q1 := frm_idx hap S1 hx
    have q2 := too_idx hap E1 hx
    have q3 := (ap_okw hap hx).lt
    exact ⟨fun hd => ovr_no (by omega), fun hd => ovr_yes (by omega)⟩
  have hse2' : decide (E2 ≤ S2) = false := by simp; omega
  have hapX : Ap (joinW l S2 E2 W2 H2) := ap_join hap hse2 b3 b4
  have hXl := joinW_length (l := l) (S := S2) (E := E2) (W := W2) (H := H2)
  have hzl2 := too_le l E2
  have hfl2 := frm_le l S2
  have hfl1 := frm_le l S1
  have hst := stays hap (W1 := W1) (H1 := H1) (W2 := W2) (H2 := H2) hse1 hse2 b1 b2 b3 b4
  have HJ2 : Hid (∀ W v, Rw W v (joinW l S1 E1 W1 H1) → Calls Try.prog 11 #[v, .agg #[.int .i64 S2, .int .i64 E2], .int .i64 W2, .int .i64 H2] W fun e w' => ∃ v', e = .returned (.tuple #[v', .int .i64 (frm (joinW l S1 E1 W1 H1) S2 : Nat), .int .i64 0]) ∧ Below W.heap.size W w' ∧ w'.ownsRow W.heap.size 43 9 v' (joinW (joinW l S1 E1 W1 H1) S2 E2 W2 H2).length (wcells (joinW (joinW l S1 E1 W1 H1) S2 E2 W2 H2))) := fun W v h => Join_yes v _ S2 E2 W2 H2 W h hapJ hse2 (by omega)
  have HJ3 : Hid (∀ W, Rw W (.slice a n cap) l → Calls Try.prog 11 #[.slice a n cap, .agg #[.int .i64 S2, .int .i64 E2], .int .i64 W2, .int .i64 H2] W fun e w' => ∃ v', e = .returned (.tuple #[v', .int .i64 (frm l S2 : Nat), .int .i64 0]) ∧ Below W.heap.size W w' ∧ w'.ownsRow W.heap.size 43 9 v' (joinW l S2 E2 W2 H2).length (wcells (joinW l S2 E2 W2 H2))) := fun W h => Join_yes _ l S2 E2 W2 H2 W h hap hse2 (by omega)
  have HJ4 : Hid (∀ W v, Rw W v (joinW l S2 E2 W2 H2) → Calls Try.prog 11 #[v, .agg #[.int .i64 S1, .int .i64 E1], .int .i64 W1, .int .i64 H1] W fun e w' => ∃ v', e = .returned (.tuple #[v', .int .i64 (frm (joinW l S2 E2 W2 H2) S1 : Nat), .int .i64 0]) ∧ Below W.heap.size W w' ∧ w'.ownsRow W.heap.size 43 9 v' (joinW (joinW l S2 E2 W2 H2) S1 E1 W1 H1).length (wcells (joinW (joinW l S2 E2 W2 H2) S1 E1 W1 H1))) := fun W v h => Join_yes v _ S1 E1 W1 H1 W h hapX hse1 (by omega)
  generalize frm (joinW l S1 E1 W1 H1) S2 = fa at *
  generalize frm (joinW l S2 E2 W2 H2) S1 = fb at *
  generalize joinW (joinW l S1 E1 W1 H1) S2 E2 W2 H2 = JA at *
  generalize joinW (joinW l S2 E2 W2 H2) S1 E1 W1 H1 = JB at *
  generalize joinW l S2 E2 W2 H2 = JX at *
  generalize frm l S2 = f2 at *
  have hlab : JB.length = JA.length := by have := congrArg List.length hst; simpa using this.symm
  have HST := Lib.hid hst
  obtain ⟨LA, hLA⟩ : ∃ LA, JA.length = LA := ⟨_, rfl⟩
  have HLA := Lib.hid hLA
  have HLB := Lib.hid (hlab.trans hLA)
  rw [hlab.trans hLA] at HJ4
  rw [hLA] at HJ2
  clear hlab hLA hst hapX hXl hzl2 hfl2 hfl1
  generalize joinW l S1 E1 W1 H1 = J at *
  generalize frm l S1 = f at *
  generalize too l E1 = z at *
  obtain ⟨L, hL⟩ : ∃ L, J.length = L := ⟨_, rfl⟩
  rw [hll] at hJl hzl
  rw [hL] at hJl HJ1
  have HL := Lib.hid hL
  have HN := Lib.hid hll
  have hcc : n ≤ cap ∧ cap ≤ maxLen := by obtain ⟨_, _, hv, h1, h2, _⟩ := hr; cases hv; exact ⟨h1, h2⟩
  obtain ⟨hcc1, hcc2⟩ := hcc
  unfold maxLen at hcc2
  have hLz : L = f + 1 + (n - z) := hJl
  have HLZ := Lib.hid hLz
  have hL1 : 1 ≤ L := by omega
  have hL2 : L ≤ 101 := by omega
  clear hr hap hapJ hL hll hJl hLz b1 b2 b3 b4
  go_enter Try.func4, Try.ntmps4
  go_wp2_with (first
    | (go_at_call 11; (with_reducible refine (HJ1.out _ HMA.out.rw).mono ?_); rintro e w1 ⟨v1, rfl, hb1, ho1⟩
       have HM1 := Lib.hid (HMA.out.next hb1)
       have HR1 : Hid (Rw w1 v1 J) := Rw.of_owns (by rw [HL.out]; exact ho1)
       clear hb1 ho1)
    | (go_at_call 13; (with_reducible refine (HAP.out _ _ HR1.out).mono ?_); rintro e w2 ⟨rfl, hb2⟩
       have HM2 := Lib.hid (HM1.out.next hb2)
       have HR2 := Lib.hid (HR1.out.below hb2)
       clear hb2))
  obtain ⟨a1, c1, hv1, hc11, hc12, -⟩ := id HR2.out
  rw [HL.out] at hv1 hc11
  unfold maxLen at hc12
  subst hv1
  go_loopw [10, 11] (fun p q wr => ∃ i c : Nat, p = .int .i64 c ∧ q = .int .i64 i ∧ i ≤ n ∧ c = min i f + (i - min i z) ∧ Below w2.heap.size w2 wr) (fun _ q _ => n - (intOf q).toNat)
  case atStart => exact ⟨0, 0, rfl, rfl, Nat.zero_le _, by omega, Below.refl _ _⟩
  case round =>
    obtain ⟨i, c, rfl, rfl, hi, hc, hb⟩ := hrel
    have HC := Lib.hid hc
    have hci : c ≤ i := by omega
    clear hc
    have HMR := Lib.hid (HM2.out.next hb)
    have HRR := Lib.hid (HR2.out.below hb)
    have hsz := hb.size
    have HB := Lib.hid hb
    clear hb
    by_cases hin : i < n
    · obtain ⟨_, _, hv, -, -, hx⟩ := HMR.out.rw
      cases hv
      have hnl := HN.out
      obtain ⟨g, off, rfl, hg, hx⟩ := hx (by omega)
      obtain ⟨x, hxi⟩ : ∃ x, l[i]? = some x := ⟨_, List.getElem?_eq_getElem (by omega)⟩
      obtain ⟨c0, c1', c2, c3, c4, c5, c6, c7, c8⟩ := hx i x hxi
      have hov := HOV.out i x hxi
      have HXI := Lib.hid hxi
      have x0 : wr.cell? ⟨w.heap.size, 0, none⟩ = some (.int .i64 S1) := HMR.out.b1.cell 0
      have x1 : wr.cell? ⟨w.heap.size, 1, none⟩ = some (.int .i64 E1) := HMR.out.b1.cell 1
      have hBl := HMR.out.b1.lt
      have hKS : Hid (∀ W, Below wr.heap.size wr W → Below wr.heap.size wr W ∧ W.cell? ⟨g, off + i * 9, none⟩ = some (.int .i64 x.s) ∧ W.cell? ⟨g, off + i * 9 + 1, none⟩ = some (.int .i64 x.e) ∧ W.cell? ⟨w.heap.size, 0, none⟩ = some (.int .i64 S1) ∧ W.cell? ⟨w.heap.size, 1, none⟩ = some (.int .i64 E1)) := fun W hb => ⟨hb, (hb.cell (p := ⟨g, off + i * 9, none⟩) hg).trans c0, (hb.cell (p := ⟨g, off + i * 9 + 1, none⟩) hg).trans c1', (hb.cell (p := ⟨w.heap.size, 0, none⟩) hBl).trans x0, (hb.cell (p := ⟨w.heap.size, 1, none⟩) hBl).trans x1⟩
      have hji : (i : Int) < (l.length : Int) := by omega
      have hjn : i < l.length := by omega
      clear hx hxi
      by_cases hd : i < f ∨ z ≤ i
      · have hov := hov.1 hd
        obtain ⟨kk, hkk, hJk⟩ := HTH.out i x HXI.out hd
        have hkl : kk < L := by have := (List.getElem?_eq_some_iff.1 hJk).1; have := HL.out; omega
        have HJK := Lib.hid hJk
        have hcs : Hid (c + 1 = min (i + 1) f + (i + 1 - min (i + 1) z)) := by have := HC.out; show _ = _; omega
        clear hJk hd
        go_wp2
        go_region_held3 (fun W => Below wr.heap.size wr W ∧ W.cell? ⟨g, off + i * 9, none⟩ = some (.int .i64 x.s) ∧ W.cell? ⟨g, off + i * 9 + 1, none⟩ = some (.int .i64 x.e) ∧ W.cell? ⟨w.heap.size, 0, none⟩ = some (.int .i64 S1) ∧ W.cell? ⟨w.heap.size, 1, none⟩ = some (.int .i64 E1))
          (first
            | exact hKS.out _ (below_drew wr)
            | exact hKS.out _ hb7)
          ((go_at_call 17; (with_reducible refine (refOverlap_any _ _ _ _ _).mono ?_); rintro e w7 ⟨rfl, hb7'⟩; have hb7 : Below wr.heap.size wr w7 := below_trans (below_drew wr) hb7'))
        go_wp2
        have hnx := Lib.hid (show ∀ (W : World), Below wr.heap.size wr W → WnAt W g (off + i * 9) x from fun W hb => (⟨c0, c1', c2, c3, c4, c5, c6, c7, c8⟩ : WnAt wr g (off + i * 9) x).below hb hg)
        clear c0 c1' c2 c3 c4 c5 c6 c7 c8 x0 x1
        have hb7s := hb7.size
        have HB7 := Lib.hid hb7
        clear hb7
        obtain ⟨wq, rfl⟩ : ∃ wq, wq = wr := ⟨_, rfl⟩
        go_loopw [12, 13] (fun p q wr => ∃ (k : Nat) (t : Bool), p = .bool t ∧ q = .int .i64 k ∧ k ≤ L ∧ (k ≤ kk ∨ t = true) ∧ Below wq.heap.size wq wr) (fun _ q _ => L - (intOf q).toNat)
        case atStart => exact ⟨0, false, rfl, rfl, Nat.zero_le _, .inl (Nat.zero_le _), HB7.out⟩
        case round =>
          obtain ⟨k, t, rfl, rfl, hk, ht, hb⟩ := hrel
          have HBK := Lib.hid hb
          have hszk := hb.size
          clear hb
          by_cases hkL : k < L
          · obtain ⟨_, _, hv, -, -, hy⟩ := HRR.out.below HBK.out
            cases hv
            have hJL := HL.out
            obtain ⟨g1, off1, rfl, hg1, hy⟩ := hy (by omega)
            obtain ⟨y, hyk⟩ : ∃ y, J[k]? = some y := ⟨_, List.getElem?_eq_getElem (by omega)⟩
            obtain ⟨d0, d1, d2, d3, d4, d5, d6, d7, d8⟩ := hy k y hyk
            obtain ⟨c0, c1', c2, c3, c4, c5, c6, c7, c8⟩ := hnx.out _ HBK.out
            have HYK := Lib.hid hyk
            have hkJ : (k : Int) < (J.length : Int) := by omega
            have hkJ' : k < J.length := by omega
            clear hy hyk hJL
            cases t with
            | true =>
              go_wp2
              go_quiet (fail)
              go_wp2
              go_roundw
              case rel => exact ⟨k + 1, true, rfl, by go_num, by omega, .inr rfl, below_drewN HBK.out _⟩
              case measure => simp [intOf]; omega
            | false =>
              have hkk2 : k ≤ kk := by rcases ht with h | h; exact h; cases h
              clear ht
              by_cases hkf : k = f
              · subst hkf
                have hne : ((k : Int) != (k : Int)) = false := by simp
                go_wp2
                go_quiet (fail)
                go_wp2
                go_roundw
                case rel => exact ⟨k + 1, false, rfl, by go_num, by omega, .inl (by omega), below_drewN HBK.out _⟩
                case measure => simp [intOf]; omega
              · have hne : ((k : Int) != (f : Int)) = true := by simp; omega
                obtain ⟨q, hq1, hq2⟩ := weq_run y x
                have hqk : k = kk → q = true := fun h => hq2 (by have := HYK.out.symm.trans (h ▸ HJK.out); exact Option.some.inj this)
                clear hq2
                have HQK := Lib.hid hqk
                clear hqk
                go_wp2
                go_quiet (fail)
                go_wp2
                go_roundw
                case rel => exact ⟨k + 1, q, rfl, by go_num, by omega, by
                  by_cases h : k = kk
                  · exact .inr (HQK.out h)
                  · exact .inl (by omega), below_drewN HBK.out _⟩
                case measure => simp [intOf]; omega
          · obtain rfl : t = true := by rcases ht with h | h; exact absurd h (by omega); exact h
            go_wp2
            go_roundw
            case rel => exact ⟨i + 1, c + 1, by go_num, by go_num, by omega, hcs.out, HB.out.trans (HBK.out.mono hsz)⟩
            case measure => simp [intOf]; omega
      · have hov := hov.2 hd
        have hcs : Hid (c = min (i + 1) f + (i + 1 - min (i + 1) z)) := by have := HC.out; show _ = _; omega
        clear hd
        go_wp2
        go_region_held3 (fun W => Below wr.heap.size wr W ∧ W.cell? ⟨g, off + i * 9, none⟩ = some (.int .i64 x.s) ∧ W.cell? ⟨g, off + i * 9 + 1, none⟩ = some (.int .i64 x.e) ∧ W.cell? ⟨w.heap.size, 0, none⟩ = some (.int .i64 S1) ∧ W.cell? ⟨w.heap.size, 1, none⟩ = some (.int .i64 E1))
          (first
            | exact hKS.out _ (below_drew wr)
            | exact hKS.out _ hb7)
          ((go_at_call 17; (with_reducible refine (refOverlap_any _ _ _ _ _).mono ?_); rintro e w7 ⟨rfl, hb7'⟩; have hb7 : Below wr.heap.size wr w7 := below_trans (below_drew wr) hb7'))
        go_wp2
        go_roundw
        case rel => exact ⟨i + 1, c, rfl, by go_num, by omega, hcs.out, HB.out.trans (hb7.mono hsz)⟩
        case measure => simp [intOf]; omega
    · have hcL : ((L : Int) != ((c : Int) + 1)) = false := by have := HC.out; have := HLZ.out; simp; omega
      have y0 : wr.cell? ⟨w.heap.size + 1, 0, none⟩ = some (.int .i64 S2) := HMR.out.b2.cell 0
      have y1 : wr.cell? ⟨w.heap.size + 1, 1, none⟩ = some (.int .i64 E2) := HMR.out.b2.cell 1
      have y2 : wr.cell? ⟨w.heap.size + 1, 2, none⟩ = some (.int .i64 W2) := HMR.out.b2.cell 2
      have y3 : wr.cell? ⟨w.heap.size + 1, 3, none⟩ = some (.int .i64 H2) := HMR.out.b2.cell 3
      go_wp2_with (first
        | (go_at_call 11; (with_reducible refine (HJ2.out _ _ HRR.out).mono ?_); rintro e w3 ⟨v3, rfl, hb3, ho3⟩
           have HM3 := Lib.hid (HMR.out.next hb3)
           have HR3 : Hid (Rw w3 v3 JA) := Rw.of_owns (by rw [HLA.out]; exact ho3)
           have y0 : w3.cell? ⟨w.heap.size + 1, 0, none⟩ = some (.int .i64 S2) := HM3.out.b2.cell 0
           have y1 : w3.cell? ⟨w.heap.size + 1, 1, none⟩ = some (.int .i64 E2) := HM3.out.b2.cell 1
           have y2 : w3.cell? ⟨w.heap.size + 1, 2, none⟩ = some (.int .i64 W2) := HM3.out.b2.cell 2
           have y3 : w3.cell? ⟨w.heap.size + 1, 3, none⟩ = some (.int .i64 H2) := HM3.out.b2.cell 3
           clear hb3 ho3)
        | (go_at_call 11; (with_reducible refine (HJ3.out _ HM3.out.rw).mono ?_); rintro e w4 ⟨v4, rfl, hb4, ho4⟩
           have HM4 := Lib.hid (HM3.out.next hb4)
           have HR3' := Lib.hid (HR3.out.below hb4)
           have HR4 : Hid (Rw w4 v4 JX) := Rw.of_owns ho4
           have x0 : w4.cell? ⟨w.heap.size, 0, none⟩ = some (.int .i64 S1) := HM4.out.b1.cell 0
           have x1 : w4.cell? ⟨w.heap.size, 1, none⟩ = some (.int .i64 E1) := HM4.out.b1.cell 1
           have x2 : w4.cell? ⟨w.heap.size, 2, none⟩ = some (.int .i64 W1) := HM4.out.b1.cell 2
           have x3 : w4.cell? ⟨w.heap.size, 3, none⟩ = some (.int .i64 H1) := HM4.out.b1.cell 3
           clear hb4 ho4)
        | (go_at_call 11; (with_reducible refine (HJ4.out _ _ HR4.out).mono ?_); rintro e w5 ⟨v5, rfl, hb5, ho5⟩
           have HM5 := Lib.hid (HM4.out.next hb5)
           have HRA := Lib.hid (HR3'.out.below hb5)
           have HRB : Hid (Rw w5 v5 JB) := Rw.of_owns (by rw [HLB.out]; exact ho5)
           obtain ⟨aA, cA, hvA, hcA1, hcA2, -⟩ := id HRA.out
           obtain ⟨aB, cB, hvB, hcB1, hcB2, -⟩ := id HRB.out
           rw [HLA.out] at hvA hcA1
           rw [HLB.out] at hvB hcB1
           unfold maxLen at hcA2 hcB2
           subst hvA hvB
           clear hb5 ho5))
      go_loopw [23] (fun q wr => ∃ k : Nat, q = .int .i64 k ∧ k ≤ LA ∧ Below w5.heap.size w5 wr) (fun q _ => LA - (intOf q).toNat)
      case atStart => exact ⟨0, rfl, Nat.zero_le _, Below.refl _ _⟩
      case round =>
        obtain ⟨k, rfl, hk, hb⟩ := hrel
        have HBK := Lib.hid hb
        have hszk := hb.size
        clear hb
        by_cases hkL : k < LA
        · obtain ⟨_, _, hv, -, -, hp⟩ := HRA.out.below HBK.out
          obtain ⟨rfl, -, rfl⟩ := Value.slice.inj hv
          clear hv
          obtain ⟨_, _, hv, -, -, hq⟩ := HRB.out.below HBK.out
          obtain ⟨rfl, -, rfl⟩ := Value.slice.inj hv
          clear hv
          have hlA := HLA.out
          have hlB := HLB.out
          obtain ⟨g1, off1, rfl, hg1, hp⟩ := hp (by omega)
          obtain ⟨g2, off2, rfl, hg2, hq⟩ := hq (by omega)
          obtain ⟨p, hpk⟩ : ∃ p, JA[k]? = some p := ⟨_, List.getElem?_eq_getElem (by omega)⟩
          obtain ⟨q, hqk⟩ : ∃ q, JB[k]? = some q := ⟨_, List.getElem?_eq_getElem (by omega)⟩
          have hpq : nh p = nh q := by
            have h := congrArg (fun m : List Wn => m[k]?) HST.out
            simp only [List.getElem?_map, hpk, hqk, Option.map_some, Option.some.injEq] at h
            exact h
          obtain ⟨d0, d1, -, d3, d4, d5, d6, d7, d8⟩ := hp k p hpk
          obtain ⟨c0, c1', -, c3, c4, c5, c6, c7, c8⟩ := hq k q hqk
          obtain ⟨s1, s2, s3, s4, s5, s6, s7, s8, s9⟩ := p
          obtain ⟨t1, t2, t3, t4, t5, t6, t7, t8, t9⟩ := q
          simp only [nh, Wn.mk.injEq, true_and] at hpq
          obtain ⟨rfl, rfl, rfl, rfl, rfl, rfl, rfl, rfl⟩ := hpq
          have hkA : (k : Int) < (LA : Int) := by omega
          clear hp hq hpk hqk hlA hlB
          go_wp2
          go_quiet (fail)
          go_wp2
          go_roundw
          case rel => exact ⟨k + 1, by go_num, by omega, below_drewN HBK.out _⟩
          case measure => simp [intOf]; omega
        · go_wp2_with (first
            | (go_at_call 7; (with_reducible refine (known_any _).mono ?_); rintro e w9 ⟨rfl, hb9⟩))
          go_ret
          exact ⟨rfl, (HM5.out.next HBK.out).below.trans (hb9.mono (HM5.out.next HBK.out).below.size)⟩
end Go.Proofs.Ytjdfjaocidjhlaa
