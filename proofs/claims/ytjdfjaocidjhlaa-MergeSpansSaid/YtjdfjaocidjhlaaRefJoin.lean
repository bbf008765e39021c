/- The walk of the reference's Join. -/
import Derived.Test.YtjdfjaocidjhlaaJoin
namespace Go.Proofs.Ytjdfjaocidjhlaa
open Go.RowKit

theorem Sum_any (a b : Int) (w : World) (h1 : 0 ≤ a) (h2 : a ≤ 9007199254740992) (h3 : 0 ≤ b) (h4 : b ≤ 9007199254740992) : Calls Try.prog 31 #[.int .i64 a, .int .i64 b] w fun e w' => e = .returned (.int .i64 (min (a + b) 9007199254740992)) ∧ w = w' := by
  by_cases h : 9007199254740992 < a + b
  · have hm : Hid (min (a + b) 9007199254740992 = 9007199254740992) := by show _ = _; omega
    go_enter Try.func31, Try.ntmps31
    go_wp2
    go_ret
    exact ⟨ret_int hm.out.symm, rfl⟩
  · have hm : Hid (min (a + b) 9007199254740992 = a + b) := by show _ = _; omega
    go_enter Try.func31, Try.ntmps31
    go_wp2
    go_ret
    exact ⟨ret_int hm.out.symm, rfl⟩
theorem Bk.new' (w : World) (t : TypeId) (cs : Array Value) (g : Nat) (hg : w.heap.size = g) : Bk (w.alloc (.cells cs t)) g t cs := by subst hg; exact Bk.new w t cs
theorem Sum_b (a b : Int) (w : World) (h1 : 0 ≤ a) (h2 : a ≤ 9007199254740992) (h3 : 0 ≤ b) (h4 : b ≤ 9007199254740992) : Calls Try.prog 31 #[.int .i64 a, .int .i64 b] w fun e w' => e = .returned (.int .i64 (min (a + b) 9007199254740992)) ∧ Below w.heap.size w w' :=
  (Sum_any a b w h1 h2 h3 h4).mono fun _ _ ⟨h, e⟩ => ⟨h, e ▸ Below.refl _ _⟩

set_option maxRecDepth 100000 in
set_option maxHeartbeats 4000000 in
theorem refJoin_yes (v : Value) (l : List Wn) (S E W H : Int) (w : World) (hr : Rw w v l) (hap : Ap l) (hse : S < E) (hlen : l.length ≤ 10000) (hSb : S ≤ 9223372036854775807) (hEb : -9223372036854775808 ≤ E) :
    Calls Try.prog 12 #[v, .agg #[.int .i64 S, .int .i64 E], .int .i64 W, .int .i64 H] w fun e w' => ∃ v', e = .returned (.tuple #[v', .int .i64 (frm l S : Nat), .int .i64 0]) ∧ Below w.heap.size w w' ∧ w'.ownsRow w.heap.size 43 9 v' (joinW l S E W H).length (wcells (joinW l S E W H)) := by
  obtain ⟨iS, hiS, hS0, hS1, hS2⟩ := info_parts spanInfo
  obtain ⟨iT, hiT, hT0, hT1, hT2⟩ := info_parts tallyInfo
  obtain ⟨iW, hiW, hW0, hW1, hW2⟩ := info_parts winInfo
  obtain ⟨a, cap, rfl, _, _, _⟩ := id hr
  have htl := too_le l E
  have hft := frm_too hap hse
  have HMN : Hid (smin [⟨S, E⟩] = S ∧ smax [⟨S, E⟩] = E) := ⟨by show min 9223372036854775807 S = S; omega, by show max (-9223372036854775808) E = E; omega⟩
  clear hSb hEb
  obtain ⟨AA, cA, hsA, hRA⟩ := run_front hr (frm l S) (by omega)
  obtain ⟨AC, cC, hsC, hRC⟩ := run_back hr (too l E) htl
  have hml := midW_length hap hse
  have HTO : Hid (∀ W, Below w.heap.size w W → Calls Try.prog 10 #[.slice a l.length cap, .agg #[.int .i64 S, .int .i64 E]] W fun e w' => e = .returned (.tuple #[.int .i64 (frm l S : Nat), .int .i64 (too l E : Nat), .int .i64 0]) ∧ Below W.heap.size W w') := fun W hb => refTouch_yes _ l S E W (hr.below hb) hap hse (by omega)
  have HOK : Hid (∀ x ∈ midW l S E, Okw x) := midW_okw hap S E
  have HJL : Hid ((joinW l S E W H).length = frm l S + 1 + (l.length - too l E)) := joinW_length
  have HJC : Hid (wcells (joinW l S E W H) = [] ++ wcells (l.take (frm l S)) ++ (jn S E W H (midW l S E)).cells ++ wcells (l.drop (too l E))) := by
    unfold joinW; rw [wcells_append, wcells_append]; show _ = _; simp [wcells]
  have HM : Hid (midW l S E = (l.take (too l E)).drop (frm l S)) := rfl
  have HJN : Hid (jn S E W H (midW l S E) = ⟨smin (⟨S, E⟩ :: (midW l S E).map Wn.sp), smax (⟨S, E⟩ :: (midW l S E).map Wn.sp), hld W H (midW l S E), (tly ((midW l S E).map Wn.tl)).c, (tly ((midW l S E).map Wn.tl)).u, (tly ((midW l S E).map Wn.tl)).lo, (tly ((midW l S E).map Wn.tl)).hi, sinc (midW l S E), pans (midW l S E)⟩) := rfl
  have HRA := Lib.hid hRA
  have HRC := Lib.hid hRC
  have hal : (l.take (frm l S)).length = frm l S := by simp; omega
  have HAL := Lib.hid hal
  have HCL : Hid ((l.drop (too l E)).length = l.length - too l E) := by simp; trivial
  have HHR := Lib.hid hr
  obtain ⟨n, hn⟩ : ∃ n, l.length = n := ⟨_, rfl⟩
  have HHN := Lib.hid hn
  rw [hn] at htl hlen hsA hsC hRC ⊢ HTO HJL HCL HRC
  generalize frm l S = f at *
  generalize too l E = z at *
  generalize hJ : joinW l S E W H = J at *
  generalize jn S E W H (midW l S E) = jw at *
  generalize midW l S E = M at *
  clear hr hRA hRC hap hn hJ hal
  obtain ⟨B, hB⟩ : ∃ B, w.heap.size = B := ⟨_, rfl⟩
  have HB := Lib.hid hB
  have HB0 : Hid (Below w.heap.size w (w.alloc (.cells #[.int .i64 S, .int .i64 E] 24))) := below_alloc _ _
  clear hB
  go_enter Try.func12, Try.ntmps12
  go_wp2_with (first
    | (go_at_call 10; (with_reducible refine (HTO.out _ HB0.out).mono ?_); rintro e w1 ⟨rfl, hb1⟩
       have HB1 := Lib.hid (HB0.out.trans (hb1.mono HB0.out.size))
       have hz1 : w.heap.size < w1.heap.size := by have := hb1.size; simp at this; omega
       have s0 : w1.cell? ⟨w.heap.size, 0, none⟩ = some (.int .i64 S) := by rw [hb1.cell (p := ⟨w.heap.size, 0, none⟩) (by simp)]; go_simp
       have s1 : w1.cell? ⟨w.heap.size, 1, none⟩ = some (.int .i64 E) := by rw [hb1.cell (p := ⟨w.heap.size, 1, none⟩) (by simp)]; go_simp
       clear hb1))
  clear s0 s1
  have hBw1 : B ≤ w1.heap.size := by have := HB.out; omega
  have HBe : Hid (Below B w (w1.alloc (.cells #[.int .i64 S, .int .i64 E, .int .i64 H, .int .i64 0, .int .i64 0, .int .i64 0, .int .i64 0, .int .i64 0, .int .i64 0] 43))) := HB.out ▸ (HB1.out.alloc (by omega) _)
  have HBX : Hid (Bk (w1.alloc (.cells #[.int .i64 S, .int .i64 E, .int .i64 H, .int .i64 0, .int .i64 0, .int .i64 0, .int .i64 0, .int .i64 0, .int .i64 0] 43)) w1.heap.size 43 #[.int .i64 (smin (⟨S, E⟩ :: (M.take (f - f)).map Wn.sp)), .int .i64 (smax (⟨S, E⟩ :: (M.take (f - f)).map Wn.sp)), .int .i64 (hld W H (M.take (f - f))), .int .i64 0, .int .i64 0, .int .i64 0, .int .i64 0, .int .i64 (sinc (M.take (f - f))), .int .i64 (pans (M.take (f - f)))]) := by
    rw [Nat.sub_self, List.take_zero, List.map_nil, HMN.out.1, HMN.out.2]
    exact Bk.new w1 _ _
  go_loopw [15, 16] (fun v15 i wr => ∃ k : Nat, i = .int .i64 k ∧ f ≤ k ∧ k ≤ z ∧ Below B w wr ∧ wr.ownsRow B 41 4 v15 (k - f) (tcells ((M.take (k - f)).map Wn.tl)) ∧ Bk wr w1.heap.size 43 #[.int .i64 (smin (⟨S, E⟩ :: (M.take (k - f)).map Wn.sp)), .int .i64 (smax (⟨S, E⟩ :: (M.take (k - f)).map Wn.sp)), .int .i64 (hld W H (M.take (k - f))), .int .i64 0, .int .i64 0, .int .i64 0, .int .i64 0, .int .i64 (sinc (M.take (k - f))), .int .i64 (pans (M.take (k - f)))]) (fun _ i _ => z - (intOf i).toNat)
  case atStart => exact ⟨f, rfl, Nat.le_refl _, hft, HBe.out, by rw [Nat.sub_self]; exact World.ownsRow_nil _ _ _ _, HBX.out⟩
  case round =>
    obtain ⟨k, rfl, hk0, hk, hb, hot, hbx⟩ := hrel
    by_cases hlt : k < z
    · obtain ⟨_, _, hv, hcB, hmB, hxB⟩ := HHR.out
      have hML : M.length = z - f := hml
      cases hv
      have hln := HHN.out
      obtain ⟨g, off, rfl, hg, hx⟩ := hxB (by omega)
      obtain ⟨x, hxl⟩ : ∃ x, l[k]? = some x := ⟨_, List.getElem?_eq_getElem (by omega)⟩
      have hxk : M[k - f]? = some x := by rw [HM.out, List.getElem?_drop, show f + (k - f) = k by omega, List.getElem?_take_of_lt hlt]; exact hxl
      have hgB : g < B := by have := HB.out; omega
      obtain ⟨c0, c1, c2, c3, c4, c5, c6, c7, c8⟩ := (hx k x hxl).below hb hgB
      have hgr : g < wr.heap.size := by have := hb.size; have := HB.out; omega
      have hkx := HOK.out x (List.mem_of_getElem? hxk)
      obtain ⟨e1, e2⟩ := cnt_bd hkx.si
      obtain ⟨e3, e4⟩ := cnt_bd hkx.pa
      have hMk : ∀ y ∈ M.take (k - f), Okw y := fun y hy => HOK.out y (List.mem_of_mem_take hy)
      obtain ⟨e5, e6⟩ := sinc_bd hMk
      obtain ⟨e7, e8⟩ := pans_bd hMk
      have HT1 := Lib.hid (hld_take (W := W) (H := H) hxk)
      have HT2 := Lib.hid (sinc_take hxk)
      have HT3 := Lib.hid (pans_take hxk)
      have HT5 := Lib.hid (map_take_succ Wn.tl hxk)
      have HT6 : Hid (smin (⟨S, E⟩ :: (M.take (k - f + 1)).map Wn.sp) = min (smin (⟨S, E⟩ :: (M.take (k - f)).map Wn.sp)) x.s) := by rw [map_take_succ Wn.sp hxk, ← List.cons_append, smin_snoc]; trivial
      have HT7 : Hid (smax (⟨S, E⟩ :: (M.take (k - f + 1)).map Wn.sp) = max (smax (⟨S, E⟩ :: (M.take (k - f)).map Wn.sp)) x.e) := by rw [map_take_succ Wn.sp hxk, ← List.cons_append, smax_snoc]; trivial
      have HKF : Hid (k + 1 - f = k - f + 1) := by show _ = _; omega
      have hkn : (k : Int) < (l.length : Int) := by omega
      have hkn2 : k < l.length := by omega
      generalize hld W H (M.take (k - f)) = hk0 at *
      generalize sinc (M.take (k - f)) = sk0 at *
      generalize pans (M.take (k - f)) = pk0 at *
      generalize smin (⟨S, E⟩ :: (M.take (k - f)).map Wn.sp) = mn0 at *
      generalize smax (⟨S, E⟩ :: (M.take (k - f)).map Wn.sp) = mx0 at *
      generalize (M.take (k - f)).map Wn.tl = TL at *
      clear hx hxk hkx hMk hxB hcB hmB hln hxl
      have HSM1 := Lib.hid (fun W => Sum_b sk0 x.si W e5 e6 e1 e2)
      have HSM2 := Lib.hid (fun W => Sum_b pk0 x.pa W e7 e8 e3 e4)
      have hBr : B ≤ wr.heap.size := by have := hb.size; have := HB.out; omega
      have hXlt := hbx.lt
      have hne1 : ¬ w1.heap.size = wr.heap.size := by omega
      have hne2 : ¬ wr.heap.size = w1.heap.size := by omega
      by_cases hdue : x.e ≤ W
      · have hdue' : decide (W < x.e) = false := by simp; omega
        rw [if_pos hdue] at HT1
        have HXA := Lib.hid (((hbx.set 0 (.int .i64 (min mn0 x.s))).set 1 (.int .i64 (max mx0 x.e))).alloc (.cells #[.int .i64 x.s, .int .i64 x.e, .int .i64 x.h, .int .i64 x.c, .int .i64 x.u, .int .i64 x.lo, .int .i64 x.hi, .int .i64 x.si, .int .i64 x.pa] 43))
        have HYA := Lib.hid (Bk.new' ((wr.setCell ⟨w1.heap.size, 0, none⟩ (.int .i64 (min mn0 x.s))).setCell ⟨w1.heap.size, 1, none⟩ (.int .i64 (max mx0 x.e))) 43 #[.int .i64 x.s, .int .i64 x.e, .int .i64 x.h, .int .i64 x.c, .int .i64 x.u, .int .i64 x.lo, .int .i64 x.hi, .int .i64 x.si, .int .i64 x.pa] wr.heap.size (by simp))
        have HOTA := Lib.hid ((own_set (own_set hot hbx (by decide) 0 (.int .i64 (min mn0 x.s))) (hbx.set 0 _) (by decide) 1 (.int .i64 (max mx0 x.e))).alloc (.cells #[.int .i64 x.s, .int .i64 x.e, .int .i64 x.h, .int .i64 x.c, .int .i64 x.u, .int .i64 x.lo, .int .i64 x.hi, .int .i64 x.si, .int .i64 x.pa] 43))
        have HBLA := Lib.hid (((hb.setCell (p := ⟨w1.heap.size, 0, none⟩) hBw1 (.int .i64 (min mn0 x.s))).setCell (p := ⟨w1.heap.size, 1, none⟩) hBw1 (.int .i64 (max mx0 x.e))).alloc (by simp; omega) (.cells #[.int .i64 x.s, .int .i64 x.e, .int .i64 x.h, .int .i64 x.c, .int .i64 x.u, .int .i64 x.lo, .int .i64 x.hi, .int .i64 x.si, .int .i64 x.pa] 43))
        have x0 : wr.cell? ⟨w1.heap.size, 0, none⟩ = some (.int .i64 mn0) := hbx.cell 0
        have x1 : wr.cell? ⟨w1.heap.size, 1, none⟩ = some (.int .i64 mx0) := hbx.cell 1
        have x7 : wr.cell? ⟨w1.heap.size, 7, none⟩ = some (.int .i64 sk0) := hbx.cell 7
        have f0 := hbx.frozen 0
        have f1 := hbx.frozen 1
        clear hot hbx
        go_wp2_with (first
          | (go_at_call 31; (with_reducible refine (HSM1.out _).mono ?_); rintro e w5 ⟨rfl, hb5⟩
             have HX5 := Lib.hid (HXA.out.below hb5)
             have HY5 := Lib.hid (HYA.out.below hb5)
             have HOT5 := Lib.hid (own_below HOTA.out hb5)
             have HBL5 := Lib.hid (HBLA.out.trans (hb5.mono (by simp; omega)))
             have hs5 : wr.heap.size + 1 ≤ w5.heap.size := by have := hb5.size; simpa using this
             have x7' : w5.cell? ⟨w1.heap.size, 7, none⟩ = some (.int .i64 sk0) := HX5.out.cell 7
             have x8' : w5.cell? ⟨w1.heap.size, 8, none⟩ = some (.int .i64 pk0) := HX5.out.cell 8
             have f7' := HX5.out.frozen 7
             have y8' : w5.cell? ⟨wr.heap.size, 8, none⟩ = some (.int .i64 x.pa) := HY5.out.cell 8
             clear hb5 x0 x1 x7 f0 f1)
          | (go_at_call 31; (with_reducible refine (HSM2.out _).mono ?_); rintro e w6 ⟨rfl, hb6⟩
             have HX6 := Lib.hid ((HX5.out.set 7 (.int .i64 (min (sk0 + x.si) 9007199254740992))).below hb6)
             have HY6 := Lib.hid ((HY5.out.far (p := ⟨w1.heap.size, 7, none⟩) hne2 (.int .i64 (min (sk0 + x.si) 9007199254740992))).below hb6)
             have HOT6 := Lib.hid (own_below (own_set HOT5.out HX5.out (by decide) 7 (.int .i64 (min (sk0 + x.si) 9007199254740992))) hb6)
             have HBL6 := Lib.hid ((HBL5.out.setCell (p := ⟨w1.heap.size, 7, none⟩) hBw1 (.int .i64 (min (sk0 + x.si) 9007199254740992))).trans (hb6.mono (by simp; omega)))
             have hs6 : w5.heap.size ≤ w6.heap.size := by have := hb6.size; simpa using this
             have HOT7 := Lib.hid ((own_set HOT6.out HX6.out (by decide) 8 (.int .i64 (min (pk0 + x.pa) 9007199254740992))).alloc (.cells #[.int .i64 x.c, .int .i64 x.u, .int .i64 x.lo, .int .i64 x.hi] 41))
             have HX7 := Lib.hid (((HX6.out.set 8 (.int .i64 (min (pk0 + x.pa) 9007199254740992)))).alloc (.cells #[.int .i64 x.c, .int .i64 x.u, .int .i64 x.lo, .int .i64 x.hi] 41))
             have HBL7 := Lib.hid (((HBL6.out.setCell (p := ⟨w1.heap.size, 8, none⟩) hBw1 (.int .i64 (min (pk0 + x.pa) 9007199254740992)))).alloc (by simp; omega) (.cells #[.int .i64 x.c, .int .i64 x.u, .int .i64 x.lo, .int .i64 x.hi] 41))
             have x2' : w6.cell? ⟨w1.heap.size, 2, none⟩ = some (.int .i64 hk0) := HX6.out.cell 2
             have x8' : w6.cell? ⟨w1.heap.size, 8, none⟩ = some (.int .i64 pk0) := HX6.out.cell 8
             have f2' := HX6.out.frozen 2
             have f8' := HX6.out.frozen 8
             have y1' : w6.cell? ⟨wr.heap.size, 1, none⟩ = some (.int .i64 x.e) := HY6.out.cell 1
             have y2' : w6.cell? ⟨wr.heap.size, 2, none⟩ = some (.int .i64 x.h) := HY6.out.cell 2
             have y3' : w6.cell? ⟨wr.heap.size, 3, none⟩ = some (.int .i64 x.c) := HY6.out.cell 3
             have y4' : w6.cell? ⟨wr.heap.size, 4, none⟩ = some (.int .i64 x.u) := HY6.out.cell 4
             have y5' : w6.cell? ⟨wr.heap.size, 5, none⟩ = some (.int .i64 x.lo) := HY6.out.cell 5
             have y6' : w6.cell? ⟨wr.heap.size, 6, none⟩ = some (.int .i64 x.hi) := HY6.out.cell 6
             have hYlt : wr.heap.size < w6.heap.size := by omega
             have hXlt7 : w1.heap.size < w6.heap.size := by omega
             clear hb6 x7' f7' y8')
          | (at_builtin; refine wpList_append_own _ rfl (.tmp 83) (.tmp 86) 64 rfl B 41 iT _ 4 32 Try.underlying64 hiT hT0 hT1 hT2 rfl (by decide) _ (k - f) _ rfl HOT7.out ⟨w6.heap.size, 0, none⟩ 1 1 [.int .i64 x.c, .int .i64 x.u, .int .i64 x.lo, .int .i64 x.hi] rfl rfl (news_lit _ #[.int .i64 x.c, .int .i64 x.u, .int .i64 x.lo, .int .i64 x.hi] 41 w6.heap.size (by simp)) (by simp [Value.oneCell']) (by simp only [maxLen]; omega) (by omega) (by simp; omega) ?_; intro v16 w7 hot7 hg7 _
             have HBX8 := Lib.hid (HX7.out.grownOwn HOT7.out (by decide) hg7)
             have HBL8 := Lib.hid (HBL7.out.grown hg7 (by simp; omega) (fun r e => (HOT7.out.lt r e).1))
             have HOT8 := Lib.hid hot7
             clear hot7 hg7))
        go_roundw
        case rel => exact ⟨k + 1, by go_num, by omega, by omega, HBL8.out, by
          rw [HKF.out, HT5.out, tcells_snoc]
          exact HOT8.out, by
          rw [HKF.out, HT1.out, HT2.out, HT3.out, HT6.out, HT7.out]
          exact HBX8.out⟩
        case measure => simp [intOf]; omega
      · have hdue' : decide (W < x.e) = true := by simp; omega
        rw [if_neg hdue] at HT1
        have HXA := Lib.hid (((hbx.set 0 (.int .i64 (min mn0 x.s))).set 1 (.int .i64 (max mx0 x.e))).alloc (.cells #[.int .i64 x.s, .int .i64 x.e, .int .i64 x.h, .int .i64 x.c, .int .i64 x.u, .int .i64 x.lo, .int .i64 x.hi, .int .i64 x.si, .int .i64 x.pa] 43))
        have HYA := Lib.hid (Bk.new' ((wr.setCell ⟨w1.heap.size, 0, none⟩ (.int .i64 (min mn0 x.s))).setCell ⟨w1.heap.size, 1, none⟩ (.int .i64 (max mx0 x.e))) 43 #[.int .i64 x.s, .int .i64 x.e, .int .i64 x.h, .int .i64 x.c, .int .i64 x.u, .int .i64 x.lo, .int .i64 x.hi, .int .i64 x.si, .int .i64 x.pa] wr.heap.size (by simp))
        have HOTA := Lib.hid ((own_set (own_set hot hbx (by decide) 0 (.int .i64 (min mn0 x.s))) (hbx.set 0 _) (by decide) 1 (.int .i64 (max mx0 x.e))).alloc (.cells #[.int .i64 x.s, .int .i64 x.e, .int .i64 x.h, .int .i64 x.c, .int .i64 x.u, .int .i64 x.lo, .int .i64 x.hi, .int .i64 x.si, .int .i64 x.pa] 43))
        have HBLA := Lib.hid (((hb.setCell (p := ⟨w1.heap.size, 0, none⟩) hBw1 (.int .i64 (min mn0 x.s))).setCell (p := ⟨w1.heap.size, 1, none⟩) hBw1 (.int .i64 (max mx0 x.e))).alloc (by simp; omega) (.cells #[.int .i64 x.s, .int .i64 x.e, .int .i64 x.h, .int .i64 x.c, .int .i64 x.u, .int .i64 x.lo, .int .i64 x.hi, .int .i64 x.si, .int .i64 x.pa] 43))
        have x0 : wr.cell? ⟨w1.heap.size, 0, none⟩ = some (.int .i64 mn0) := hbx.cell 0
        have x1 : wr.cell? ⟨w1.heap.size, 1, none⟩ = some (.int .i64 mx0) := hbx.cell 1
        have x7 : wr.cell? ⟨w1.heap.size, 7, none⟩ = some (.int .i64 sk0) := hbx.cell 7
        have f0 := hbx.frozen 0
        have f1 := hbx.frozen 1
        clear hot hbx
        go_wp2_with (first
          | (go_at_call 31; (with_reducible refine (HSM1.out _).mono ?_); rintro e w5 ⟨rfl, hb5⟩
             have HX5 := Lib.hid (HXA.out.below hb5)
             have HY5 := Lib.hid (HYA.out.below hb5)
             have HOT5 := Lib.hid (own_below HOTA.out hb5)
             have HBL5 := Lib.hid (HBLA.out.trans (hb5.mono (by simp; omega)))
             have hs5 : wr.heap.size + 1 ≤ w5.heap.size := by have := hb5.size; simpa using this
             have x7' : w5.cell? ⟨w1.heap.size, 7, none⟩ = some (.int .i64 sk0) := HX5.out.cell 7
             have x8' : w5.cell? ⟨w1.heap.size, 8, none⟩ = some (.int .i64 pk0) := HX5.out.cell 8
             have f7' := HX5.out.frozen 7
             have y8' : w5.cell? ⟨wr.heap.size, 8, none⟩ = some (.int .i64 x.pa) := HY5.out.cell 8
             clear hb5 x0 x1 x7 f0 f1)
          | (go_at_call 31; (with_reducible refine (HSM2.out _).mono ?_); rintro e w6 ⟨rfl, hb6⟩
             have HX6 := Lib.hid ((HX5.out.set 7 (.int .i64 (min (sk0 + x.si) 9007199254740992))).below hb6)
             have HY6 := Lib.hid ((HY5.out.far (p := ⟨w1.heap.size, 7, none⟩) hne2 (.int .i64 (min (sk0 + x.si) 9007199254740992))).below hb6)
             have HOT6 := Lib.hid (own_below (own_set HOT5.out HX5.out (by decide) 7 (.int .i64 (min (sk0 + x.si) 9007199254740992))) hb6)
             have HBL6 := Lib.hid ((HBL5.out.setCell (p := ⟨w1.heap.size, 7, none⟩) hBw1 (.int .i64 (min (sk0 + x.si) 9007199254740992))).trans (hb6.mono (by simp; omega)))
             have hs6 : w5.heap.size ≤ w6.heap.size := by have := hb6.size; simpa using this
             have HOT7 := Lib.hid ((own_set (own_set HOT6.out HX6.out (by decide) 8 (.int .i64 (min (pk0 + x.pa) 9007199254740992))) (HX6.out.set 8 _) (by decide) 2 (.int .i64 (min hk0 x.h))).alloc (.cells #[.int .i64 x.c, .int .i64 x.u, .int .i64 x.lo, .int .i64 x.hi] 41))
             have HX7 := Lib.hid (((HX6.out.set 8 (.int .i64 (min (pk0 + x.pa) 9007199254740992))).set 2 (.int .i64 (min hk0 x.h))).alloc (.cells #[.int .i64 x.c, .int .i64 x.u, .int .i64 x.lo, .int .i64 x.hi] 41))
             have HBL7 := Lib.hid (((HBL6.out.setCell (p := ⟨w1.heap.size, 8, none⟩) hBw1 (.int .i64 (min (pk0 + x.pa) 9007199254740992))).setCell (p := ⟨w1.heap.size, 2, none⟩) hBw1 (.int .i64 (min hk0 x.h))).alloc (by simp; omega) (.cells #[.int .i64 x.c, .int .i64 x.u, .int .i64 x.lo, .int .i64 x.hi] 41))
             have x2' : w6.cell? ⟨w1.heap.size, 2, none⟩ = some (.int .i64 hk0) := HX6.out.cell 2
             have x8' : w6.cell? ⟨w1.heap.size, 8, none⟩ = some (.int .i64 pk0) := HX6.out.cell 8
             have f2' := HX6.out.frozen 2
             have f8' := HX6.out.frozen 8
             have y1' : w6.cell? ⟨wr.heap.size, 1, none⟩ = some (.int .i64 x.e) := HY6.out.cell 1
             have y2' : w6.cell? ⟨wr.heap.size, 2, none⟩ = some (.int .i64 x.h) := HY6.out.cell 2
             have y3' : w6.cell? ⟨wr.heap.size, 3, none⟩ = some (.int .i64 x.c) := HY6.out.cell 3
             have y4' : w6.cell? ⟨wr.heap.size, 4, none⟩ = some (.int .i64 x.u) := HY6.out.cell 4
             have y5' : w6.cell? ⟨wr.heap.size, 5, none⟩ = some (.int .i64 x.lo) := HY6.out.cell 5
             have y6' : w6.cell? ⟨wr.heap.size, 6, none⟩ = some (.int .i64 x.hi) := HY6.out.cell 6
             have hYlt : wr.heap.size < w6.heap.size := by omega
             have hXlt7 : w1.heap.size < w6.heap.size := by omega
             clear hb6 x7' f7' y8')
          | (at_builtin; refine wpList_append_own _ rfl (.tmp 83) (.tmp 86) 64 rfl B 41 iT _ 4 32 Try.underlying64 hiT hT0 hT1 hT2 rfl (by decide) _ (k - f) _ rfl HOT7.out ⟨w6.heap.size, 0, none⟩ 1 1 [.int .i64 x.c, .int .i64 x.u, .int .i64 x.lo, .int .i64 x.hi] rfl rfl (news_lit _ #[.int .i64 x.c, .int .i64 x.u, .int .i64 x.lo, .int .i64 x.hi] 41 w6.heap.size (by simp)) (by simp [Value.oneCell']) (by simp only [maxLen]; omega) (by omega) (by simp; omega) ?_; intro v16 w7 hot7 hg7 _
             have HBX8 := Lib.hid (HX7.out.grownOwn HOT7.out (by decide) hg7)
             have HBL8 := Lib.hid (HBL7.out.grown hg7 (by simp; omega) (fun r e => (HOT7.out.lt r e).1))
             have HOT8 := Lib.hid hot7
             clear hot7 hg7))
        go_roundw
        case rel => exact ⟨k + 1, by go_num, by omega, by omega, HBL8.out, by
          rw [HKF.out, HT5.out, tcells_snoc]
          exact HOT8.out, by
          rw [HKF.out, HT1.out, HT2.out, HT3.out, HT6.out, HT7.out]
          exact HBX8.out⟩
        case measure => simp [intOf]; omega
    · obtain rfl : k = z := by omega
      have hML : M.length = k - f := hml
      have hMt : M.take (k - f) = M := List.take_of_length_le (by omega)
      rw [hMt] at hot hbx
      have hBr : B ≤ wr.heap.size := by have := hb.size; have := HB.out; omega
      have hl2 : (M.map Wn.tl).length = k - f := by simp; omega
      have HTJ : Hid (∀ W', W'.ownsRow B 41 4 u15 (k - f) (tcells (M.map Wn.tl)) → Calls Try.prog 32 #[u15] W' fun e w' => e = .returned (.agg #[.int .i64 (tly (M.map Wn.tl)).c, .int .i64 (tly (M.map Wn.tl)).u, .int .i64 (tly (M.map Wn.tl)).lo, .int .i64 (tly (M.map Wn.tl)).hi]) ∧ Below W'.heap.size W' w') := fun W' h => refTallyJoin_any u15 (M.map Wn.tl) W' (by rw [hl2]; exact Rd.of_owns h)
      generalize smin (⟨S, E⟩ :: M.map Wn.sp) = mn at *
      generalize smax (⟨S, E⟩ :: M.map Wn.sp) = mx at *
      generalize hld W H M = hd at *
      generalize sinc M = sc at *
      generalize pans M = pn at *
      generalize (tly (M.map Wn.tl)).c = t0 at *
      generalize (tly (M.map Wn.tl)).u = t1 at *
      generalize (tly (M.map Wn.tl)).lo = t2 at *
      generalize (tly (M.map Wn.tl)).hi = t3 at *
      have HOT := Lib.hid hot
      have HBX := Lib.hid hbx
      have HBL := Lib.hid hb
      have hXlt := hbx.lt
      have hza : (l.drop k).length = n - k := HCL.out
      have HZA := Lib.hid hza
      have HRA2 : Hid (∀ W', Below B w W' → Rd W' (.slice AA f cA) f (wcells (l.take f))) := fun W' hb => by
        have h := (HRA.out.below (HB.out.symm ▸ hb)).rd
        rw [HAL.out] at h
        exact h
      have HRC2 : Hid (∀ W', Below B w W' → Rd W' (.slice AC (n - k) cC) (n - k) (wcells (l.drop k))) := fun W' hb => by
        have h := (HRC.out.below (HB.out.symm ▸ hb)).rd
        rw [HZA.out] at h
        exact h
      clear hot hbx hb hML hMt hl2 hml hza
      go_wp2_with (first
        | (go_at_call 32; (with_reducible refine (HTJ.out _ HOT.out).mono ?_); rintro e w10 ⟨rfl, hb10⟩
           have HBX10 := Lib.hid (HBX.out.below hb10)
           have HBL10 := Lib.hid (HBL.out.trans (hb10.mono hBr))
           have hs10 := hb10.size
           have z3 : w10.cell? ⟨w1.heap.size, 3, none⟩ = some (.int .i64 0) := HBX10.out.cell 3
           have z4 : w10.cell? ⟨w1.heap.size, 4, none⟩ = some (.int .i64 0) := HBX10.out.cell 4
           have z5 : w10.cell? ⟨w1.heap.size, 5, none⟩ = some (.int .i64 0) := HBX10.out.cell 5
           have z6 : w10.cell? ⟨w1.heap.size, 6, none⟩ = some (.int .i64 0) := HBX10.out.cell 6
           have f3 := HBX10.out.frozen 3
           have f4 := HBX10.out.frozen 4
           have f5 := HBX10.out.frozen 5
           have f6 := HBX10.out.frozen 6
           have HBX11 : Hid (Bk ((((w10.setCell ⟨w1.heap.size, 3, none⟩ (.int .i64 t0)).setCell ⟨w1.heap.size, 4, none⟩ (.int .i64 t1)).setCell ⟨w1.heap.size, 5, none⟩ (.int .i64 t2)).setCell ⟨w1.heap.size, 6, none⟩ (.int .i64 t3)) w1.heap.size 43 #[.int .i64 mn, .int .i64 mx, .int .i64 hd, .int .i64 t0, .int .i64 t1, .int .i64 t2, .int .i64 t3, .int .i64 sc, .int .i64 pn]) := ((((HBX10.out.set 3 (.int .i64 t0)).set 4 (.int .i64 t1)).set 5 (.int .i64 t2)).set 6 (.int .i64 t3))
           have HBL11 : Hid (Below B w ((((w10.setCell ⟨w1.heap.size, 3, none⟩ (.int .i64 t0)).setCell ⟨w1.heap.size, 4, none⟩ (.int .i64 t1)).setCell ⟨w1.heap.size, 5, none⟩ (.int .i64 t2)).setCell ⟨w1.heap.size, 6, none⟩ (.int .i64 t3))) := ((((HBL10.out.setCell (p := ⟨w1.heap.size, 3, none⟩) hBw1 (.int .i64 t0)).setCell (p := ⟨w1.heap.size, 4, none⟩) hBw1 (.int .i64 t1)).setCell (p := ⟨w1.heap.size, 5, none⟩) hBw1 (.int .i64 t2)).setCell (p := ⟨w1.heap.size, 6, none⟩) hBw1 (.int .i64 t3))
           clear hb10)
        | (at_builtin; refine wpList_append_rd _ rfl (.tmp 91) (.tmp 94) 22 rfl B 43 iW _ 9 72 Try.underlying22 hiW hW0 hW1 hW2 rfl (by decide) (.slice none 0 0) 0 [] rfl (World.ownsRow_nil _ _ _ _) AA f cA (wcells (l.take f)) rfl (by rw [wcells_length, HAL.out]) (HRA2.out _ HBL11.out) (wcells_one _) (by simp only [maxLen]; omega) (by omega) (by simp; omega) ?_; intro v12 w12 hoa12 hg12 hat12
           have HBX12 := Lib.hid (HBX11.out.grown hg12 (by simp [Value.ownBlock]))
           have HBL12 := Lib.hid (HBL11.out.grown hg12 (by simp; omega) (fun r e => by simp [Value.ownBlock] at e))
           have hs12 : w10.heap.size ≤ w12.heap.size := by have := hg12.size; simpa using this
           have HOA12 := Lib.hid (hoa12.alloc (.cells #[.int .i64 mn, .int .i64 mx, .int .i64 hd, .int .i64 t0, .int .i64 t1, .int .i64 t2, .int .i64 t3, .int .i64 sc, .int .i64 pn] 43))
           have q0 : w12.cell? ⟨w1.heap.size, 0, none⟩ = some (.int .i64 mn) := HBX12.out.cell 0
           have q1 : w12.cell? ⟨w1.heap.size, 1, none⟩ = some (.int .i64 mx) := HBX12.out.cell 1
           have q2 : w12.cell? ⟨w1.heap.size, 2, none⟩ = some (.int .i64 hd) := HBX12.out.cell 2
           have q3 : w12.cell? ⟨w1.heap.size, 3, none⟩ = some (.int .i64 t0) := HBX12.out.cell 3
           have q4 : w12.cell? ⟨w1.heap.size, 4, none⟩ = some (.int .i64 t1) := HBX12.out.cell 4
           have q5 : w12.cell? ⟨w1.heap.size, 5, none⟩ = some (.int .i64 t2) := HBX12.out.cell 5
           have q6 : w12.cell? ⟨w1.heap.size, 6, none⟩ = some (.int .i64 t3) := HBX12.out.cell 6
           have q7 : w12.cell? ⟨w1.heap.size, 7, none⟩ = some (.int .i64 sc) := HBX12.out.cell 7
           have q8 : w12.cell? ⟨w1.heap.size, 8, none⟩ = some (.int .i64 pn) := HBX12.out.cell 8
           clear hoa12 hg12 hat12 z3 z4 z5 z6 f3 f4 f5 f6)
        | (at_builtin; refine wpList_append_own _ rfl (.tmp 96) (.tmp 98) 22 rfl B 43 iW _ 9 72 Try.underlying22 hiW hW0 hW1 hW2 rfl (by decide) _ (0 + f) _ rfl HOA12.out ⟨w12.heap.size, 0, none⟩ 1 1 [.int .i64 mn, .int .i64 mx, .int .i64 hd, .int .i64 t0, .int .i64 t1, .int .i64 t2, .int .i64 t3, .int .i64 sc, .int .i64 pn] rfl rfl (news_lit w12 #[.int .i64 mn, .int .i64 mx, .int .i64 hd, .int .i64 t0, .int .i64 t1, .int .i64 t2, .int .i64 t3, .int .i64 sc, .int .i64 pn] 43 w12.heap.size rfl) (by simp [Value.oneCell']) (by simp only [maxLen]; omega) (by omega) (by simp; omega) ?_; intro v13 w13 hoa13 hg13 _
           have HBL13 := Lib.hid ((HBL12.out.alloc (by omega) (.cells #[.int .i64 mn, .int .i64 mx, .int .i64 hd, .int .i64 t0, .int .i64 t1, .int .i64 t2, .int .i64 t3, .int .i64 sc, .int .i64 pn] 43)).grown hg13 (by simp; omega) (fun r e => (HOA12.out.lt r e).1))
           have HOA13 := Lib.hid hoa13
           have hs13 : w12.heap.size + 1 ≤ w13.heap.size := by have := hg13.size; simpa using this
           clear hoa13 hg13 q0 q1 q2 q3 q4 q5 q6 q7 q8)
        | (at_builtin; refine wpList_append_rd _ rfl (.tmp 100) (.tmp 103) 22 rfl B 43 iW _ 9 72 Try.underlying22 hiW hW0 hW1 hW2 rfl (by decide) _ (0 + f + 1) _ rfl HOA13.out AC (n - k) cC (wcells (l.drop k)) rfl (by rw [wcells_length, HZA.out]) (HRC2.out _ HBL13.out) (wcells_one _) (by simp only [maxLen]; omega) (by omega) (by omega) ?_; intro v14 w14 hoa14 hg14 _
           have HBL14 := Lib.hid (HBL13.out.grown hg14 (by omega) (fun r e => (HOA13.out.lt r e).1))
           have HOA14 := Lib.hid hoa14
           clear hoa14 hg14))
      go_ret3
      refine ⟨v14, rfl, HB.out.symm ▸ HBL14.out, ?_⟩
      have h := HOA14.out
      rw [Nat.zero_add] at h
      rw [HB.out, HJL.out, HJC.out, HJN.out]
      exact h

set_option maxRecDepth 100000 in
set_option maxHeartbeats 1000000 in
theorem refJoin_no (v : Value) (l : List Wn) (S E W H : Int) (w : World) (hr : Rw w v l) (hno : ¬ (Ap l ∧ S < E)) :
    Calls Try.prog 12 #[v, .agg #[.int .i64 S, .int .i64 E], .int .i64 W, .int .i64 H] w fun e w' => e = .returned (.tuple #[.slice none 0 0, .int .i64 0, .int .i64 190]) ∧ Below w.heap.size w w' := by
  have HTO : Hid (∀ W, Below w.heap.size w W → Calls Try.prog 10 #[v, .agg #[.int .i64 S, .int .i64 E]] W fun e w' => e = .returned (.tuple #[.int .i64 0, .int .i64 0, .int .i64 190]) ∧ Below W.heap.size W w') := fun W hb => refTouch_no _ l S E W (hr.below hb) hno
  have HB0 : Hid (Below w.heap.size w (w.alloc (.cells #[.int .i64 S, .int .i64 E] 24))) := below_alloc _ _
  clear hr hno
  go_enter Try.func12, Try.ntmps12
  go_wp2_with (first
    | (go_at_call 10; (with_reducible refine (HTO.out _ HB0.out).mono ?_); rintro e w1 ⟨rfl, hb1⟩))
  go_ret3
  exact ⟨rfl, HB0.out.trans (hb1.mono HB0.out.size)⟩
end Go.Proofs.Ytjdfjaocidjhlaa
