/- The walk of the program's Join. -/
import Derived.Test.YtjdfjaocidjhlaaJdef
import Derived.OneCell
import Derived.Deep.AppendLies
namespace Go.Proofs.Ytjdfjaocidjhlaa
open Go.RowKit

theorem below_grown {w w' : World} (h : Below w.heap.size w w') (row : Option Nat) : w.grownBy w' row := ⟨h.os, h.tape, h.output, h.size, fun i hi _ => h.block i hi⟩
theorem own_below {w w' : World} {base : Nat} {e : TypeId} {size n : Nat} {v : Value} {xs : List Value} (h : w.ownsRow base e size v n xs) (hb : Below w.heap.size w w') : w'.ownsRow base e size v n xs :=
  h.kept (below_grown hb none) (by cases v.ownBlock <;> simp)
theorem own_set {w : World} {base : Nat} {e : TypeId} {size n : Nat} {v : Value} {xs : List Value} (h : w.ownsRow base e size v n xs) {g : Nat} {t : TypeId} {cs : Array Value} (hg : Bk w g t cs) (hne : e ≠ t) (i : Nat) (u : Value) : (w.setCell ⟨g, i, none⟩ u).ownsRow base e size v n xs :=
  ownsRow_setCell_other h (own_bk_ne h hg hne) u

theorem own_lit {base : Nat} {e : TypeId} {size : Nat} (w : World) (cs : Array Value) (n g : Nat) (hg : w.heap.size = g) (hb : base ≤ g) (hm : n ≤ maxLen) (hs : cs.size = n * size) :
    (w.alloc (.cells cs e)).ownsRow base e size (.slice (some ⟨g, 0, none⟩) n n) n cs.toList := by
  subst hg; exact World.ownsRow_lit w cs n hb hm hs
theorem news_lit (w : World) (cs : Array Value) (t : TypeId) (g : Nat) (hg : w.heap.size = g) : ∀ j u, cs.toList[j]? = some u → (w.alloc (.cells cs t)).cell? ((⟨g, 0, none⟩ : Addr).add j) = some u := by
  subst hg; exact World.news_of_block (heap_alloc_new _ _)

theorem scells_snoc (l : List Sn) (x : Sn) : scells (l ++ [x]) = scells l ++ [.int .i64 x.s, .int .i64 x.e] := by simp [scells, Sn.cells]
theorem tcells_snoc (l : List Tl) (x : Tl) : tcells (l ++ [x]) = tcells l ++ [.int .i64 x.c, .int .i64 x.u, .int .i64 x.lo, .int .i64 x.hi] := by simp [tcells, Tl.cells]
theorem map_take_succ {α β : Type} (f : α → β) {l : List α} {k : Nat} {x : α} (h : l[k]? = some x) : (l.take (k + 1)).map f = (l.take k).map f ++ [f x] := by
  obtain ⟨hk, rfl⟩ := List.getElem?_eq_some_iff.1 h
  rw [List.take_succ_eq_append_getElem hk, List.map_append]; rfl

set_option maxRecDepth 100000 in
set_option maxHeartbeats 4000000 in
theorem Join_yes (v : Value) (l : List Wn) (S E W H : Int) (w : World) (hr : Rw w v l) (hap : Ap l) (hse : S < E) (hlen : l.length ≤ 10000) :
    Calls Try.prog 11 #[v, .agg #[.int .i64 S, .int .i64 E], .int .i64 W, .int .i64 H] w fun e w' => ∃ v', e = .returned (.tuple #[v', .int .i64 (frm l S : Nat), .int .i64 0]) ∧ Below w.heap.size w w' ∧ w'.ownsRow w.heap.size 43 9 v' (joinW l S E W H).length (wcells (joinW l S E W H)) := by
  obtain ⟨iS, hiS, hS0, hS1, hS2⟩ := info_parts spanInfo
  obtain ⟨iT, hiT, hT0, hT1, hT2⟩ := info_parts tallyInfo
  obtain ⟨iW, hiW, hW0, hW1, hW2⟩ := info_parts winInfo
  obtain ⟨a, cap, rfl, _, _, _⟩ := id hr
  have htl := too_le l E
  have hft := frm_too hap hse
  obtain ⟨AB, cB, hsB, hRB⟩ := run_part hr (frm l S) (too l E) hft htl
  obtain ⟨AA, cA, hsA, hRA⟩ := run_front hr (frm l S) (by omega)
  obtain ⟨AC, cC, hsC, hRC⟩ := run_back hr (too l E) htl
  have hml := midW_length hap hse
  have HTO : Hid (∀ W, Below w.heap.size w W → Calls Try.prog 9 #[.slice a l.length cap, .agg #[.int .i64 S, .int .i64 E]] W fun e w' => e = .returned (.tuple #[.int .i64 (frm l S : Nat), .int .i64 (too l E : Nat), .int .i64 0]) ∧ Below W.heap.size W w') := fun W hb => Touch_yes _ l S E W (hr.below hb) hap hse (by omega)
  have HOK : Hid (∀ x ∈ midW l S E, Okw x) := midW_okw hap S E
  have HJL : Hid ((joinW l S E W H).length = frm l S + 1 + (l.length - too l E)) := joinW_length
  have HJC : Hid (wcells (joinW l S E W H) = [] ++ wcells (l.take (frm l S)) ++ (jn S E W H (midW l S E)).cells ++ wcells (l.drop (too l E))) := by
    unfold joinW; rw [wcells_append, wcells_append]; show _ = _; simp [wcells]
  have HM : Hid (midW l S E = (l.take (too l E)).drop (frm l S)) := rfl
  have HJN : Hid (jn S E W H (midW l S E) = ⟨smin (⟨S, E⟩ :: (midW l S E).map Wn.sp), smax (⟨S, E⟩ :: (midW l S E).map Wn.sp), hld W H (midW l S E), (tly ((midW l S E).map Wn.tl)).c, (tly ((midW l S E).map Wn.tl)).u, (tly ((midW l S E).map Wn.tl)).lo, (tly ((midW l S E).map Wn.tl)).hi, sinc (midW l S E), pans (midW l S E)⟩) := rfl
  have HRA := Lib.hid hRA
  have HRB := Lib.hid (HM.out ▸ hRB)
  have HRC := Lib.hid hRC
  have hal : (l.take (frm l S)).length = frm l S := by simp; omega
  have HAL := Lib.hid hal
  have HCL : Hid ((l.drop (too l E)).length = l.length - too l E) := by simp; trivial
  have HHR := Lib.hid hr
  obtain ⟨n, hn⟩ : ∃ n, l.length = n := ⟨_, rfl⟩
  rw [hn] at htl hlen hsB hsA hsC hRC ⊢ HTO HJL HCL HRC
  generalize frm l S = f at *
  generalize too l E = z at *
  generalize hJ : joinW l S E W H = J at *
  generalize jn S E W H (midW l S E) = jw at *
  generalize midW l S E = M at *
  clear hr hRA hRB hRC hap hn hJ hal
  obtain ⟨B, hB⟩ : ∃ B, w.heap.size = B := ⟨_, rfl⟩
  have HB := Lib.hid hB
  have HB0 : Hid (Below w.heap.size w (w.alloc (.cells #[.int .i64 S, .int .i64 E] 24))) := below_alloc _ _
  clear hB
  go_enter Try.func11, Try.ntmps11
  go_wp2_with (first
    | (go_at_call 9; (with_reducible refine (HTO.out _ HB0.out).mono ?_); rintro e w1 ⟨rfl, hb1⟩
       have HB1 := Lib.hid (HB0.out.trans (hb1.mono HB0.out.size))
       have hz1 : w.heap.size < w1.heap.size := by have := hb1.size; simp at this; omega
       have s0 : w1.cell? ⟨w.heap.size, 0, none⟩ = some (.int .i64 S) := by rw [hb1.cell (p := ⟨w.heap.size, 0, none⟩) (by simp)]; go_simp
       have s1 : w1.cell? ⟨w.heap.size, 1, none⟩ = some (.int .i64 E) := by rw [hb1.cell (p := ⟨w.heap.size, 1, none⟩) (by simp)]; go_simp
       clear hb1))
  clear s0 s1
  have hBw1 : B ≤ w1.heap.size := by have := HB.out; omega
  have HBe : Hid (Below B w ((w1.alloc (.cells #[.int .i64 S, .int .i64 E, .int .i64 H, .int .i64 0, .int .i64 0, .int .i64 0, .int .i64 0, .int .i64 0, .int .i64 0] 43)).alloc (.cells #[.int .i64 S, .int .i64 E] 24))) := HB.out ▸ ((HB1.out.alloc (by omega) _).alloc (by simp; omega) _)
  have HOS : Hid (((w1.alloc (.cells #[.int .i64 S, .int .i64 E, .int .i64 H, .int .i64 0, .int .i64 0, .int .i64 0, .int .i64 0, .int .i64 0, .int .i64 0] 43)).alloc (.cells #[.int .i64 S, .int .i64 E] 24)).ownsRow B 24 2 (.slice (some ⟨w1.heap.size + 1, 0, none⟩) 1 1) (1 + 0) (scells (⟨S, E⟩ :: (M.take 0).map Wn.sp))) := by
    exact own_lit (w1.alloc (.cells #[.int .i64 S, .int .i64 E, .int .i64 H, .int .i64 0, .int .i64 0, .int .i64 0, .int .i64 0, .int .i64 0, .int .i64 0] 43)) #[.int .i64 S, .int .i64 E] 1 (w1.heap.size + 1) (by simp) (by omega) (by decide) rfl
  have HBX : Hid (Bk ((w1.alloc (.cells #[.int .i64 S, .int .i64 E, .int .i64 H, .int .i64 0, .int .i64 0, .int .i64 0, .int .i64 0, .int .i64 0, .int .i64 0] 43)).alloc (.cells #[.int .i64 S, .int .i64 E] 24)) w1.heap.size 43 #[.int .i64 S, .int .i64 E, .int .i64 (hld W H (M.take 0)), .int .i64 0, .int .i64 0, .int .i64 0, .int .i64 0, .int .i64 (sinc (M.take 0)), .int .i64 (pans (M.take 0))]) := by
    exact (Bk.new w1 _ _).alloc _
  go_loopw [15, 16, 40] (fun v15 v16 i wr => ∃ k : Nat, i = .int .i64 k ∧ k ≤ z - f ∧ Below B w wr ∧ wr.ownsRow B 24 2 v15 (1 + k) (scells (⟨S, E⟩ :: (M.take k).map Wn.sp)) ∧ wr.ownsRow B 41 4 v16 k (tcells ((M.take k).map Wn.tl)) ∧ Bk wr w1.heap.size 43 #[.int .i64 S, .int .i64 E, .int .i64 (hld W H (M.take k)), .int .i64 0, .int .i64 0, .int .i64 0, .int .i64 0, .int .i64 (sinc (M.take k)), .int .i64 (pans (M.take k))]) (fun _ _ i _ => z - f - (intOf i).toNat)
  case atStart => exact ⟨0, rfl, Nat.zero_le _, HBe.out, HOS.out, World.ownsRow_nil _ _ _ _, HBX.out⟩
  case round =>
    obtain ⟨k, rfl, hk, hb, hos, hot, hbx⟩ := hrel
    by_cases hlt : k < z - f
    · obtain ⟨AB', cB', hv, hcB, hmB, hxB⟩ := HRB.out
      have hML : M.length = z - f := hml
      rw [hML] at hv hxB
      cases hv
      obtain ⟨g, off, rfl, hg, hx⟩ := hxB (by omega)
      obtain ⟨x, hxk⟩ : ∃ x, M[k]? = some x := ⟨_, List.getElem?_eq_getElem (by omega)⟩
      have hgB : g < B := by have := HB.out; omega
      obtain ⟨c0, c1, c2, c3, c4, c5, c6, c7, c8⟩ := (hx k x hxk).below hb hgB
      have hgr : g < wr.heap.size := by have := hb.size; have := HB.out; omega
      have hkx := HOK.out x (List.mem_of_getElem? hxk)
      obtain ⟨e1, e2⟩ := cnt_bd hkx.si
      obtain ⟨e3, e4⟩ := cnt_bd hkx.pa
      have hMk : ∀ y ∈ M.take k, Okw y := fun y hy => HOK.out y (List.mem_of_mem_take hy)
      obtain ⟨e5, e6⟩ := sinc_bd hMk
      obtain ⟨e7, e8⟩ := pans_bd hMk
      have HT1 := Lib.hid (hld_take (W := W) (H := H) hxk)
      have HT2 := Lib.hid (sinc_take hxk)
      have HT3 := Lib.hid (pans_take hxk)
      have HT4 := Lib.hid (map_take_succ Wn.sp hxk)
      have HT5 := Lib.hid (map_take_succ Wn.tl hxk)
      generalize hld W H (M.take k) = hk0 at *
      generalize sinc (M.take k) = sk0 at *
      generalize pans (M.take k) = pk0 at *
      generalize (M.take k).map Wn.sp = SL at *
      generalize (M.take k).map Wn.tl = TL at *
      clear hx hxk hkx hMk hxB hcB hmB
      have hBr : B ≤ wr.heap.size := by have := hb.size; have := HB.out; omega
      have hXlt := hbx.lt
      have hne1 : ¬ w1.heap.size = wr.heap.size := by omega
      have hne2 : ¬ wr.heap.size = w1.heap.size := by omega
      have HOS := Lib.hid ((hos.alloc (.cells #[.int .i64 x.s, .int .i64 x.e, .int .i64 x.h, .int .i64 x.c, .int .i64 x.u, .int .i64 x.lo, .int .i64 x.hi, .int .i64 x.si, .int .i64 x.pa] 43)).alloc (.cells #[.int .i64 x.s, .int .i64 x.e] 24))
      have HOT := Lib.hid ((hot.alloc (.cells #[.int .i64 x.s, .int .i64 x.e, .int .i64 x.h, .int .i64 x.c, .int .i64 x.u, .int .i64 x.lo, .int .i64 x.hi, .int .i64 x.si, .int .i64 x.pa] 43)).alloc (.cells #[.int .i64 x.s, .int .i64 x.e] 24))
      have HBX := Lib.hid ((hbx.alloc (.cells #[.int .i64 x.s, .int .i64 x.e, .int .i64 x.h, .int .i64 x.c, .int .i64 x.u, .int .i64 x.lo, .int .i64 x.hi, .int .i64 x.si, .int .i64 x.pa] 43)).alloc (.cells #[.int .i64 x.s, .int .i64 x.e] 24))
      have HBY := Lib.hid ((Bk.new wr 43 #[.int .i64 x.s, .int .i64 x.e, .int .i64 x.h, .int .i64 x.c, .int .i64 x.u, .int .i64 x.lo, .int .i64 x.hi, .int .i64 x.si, .int .i64 x.pa]).alloc (.cells #[.int .i64 x.s, .int .i64 x.e] 24))
      have HBL := Lib.hid ((hb.alloc hBr (.cells #[.int .i64 x.s, .int .i64 x.e, .int .i64 x.h, .int .i64 x.c, .int .i64 x.u, .int .i64 x.lo, .int .i64 x.hi, .int .i64 x.si, .int .i64 x.pa] 43)).alloc (by simp; omega) (.cells #[.int .i64 x.s, .int .i64 x.e] 24))
      have HNW := Lib.hid (news_lit (wr.alloc (.cells #[.int .i64 x.s, .int .i64 x.e, .int .i64 x.h, .int .i64 x.c, .int .i64 x.u, .int .i64 x.lo, .int .i64 x.hi, .int .i64 x.si, .int .i64 x.pa] 43)) #[.int .i64 x.s, .int .i64 x.e] 24 (wr.heap.size + 1) (by simp))
      clear hos hot hbx
      by_cases hdue : x.e ≤ W
      · have hdue' : decide (x.e ≤ W) = true := by simp [hdue]
        rw [if_pos hdue] at HT1
        go_wp2_with (first
          | (at_builtin; refine wpList_append_own _ rfl (.tmp 44) (.tmp 47) 51 rfl B 24 iS _ 2 16 Try.underlying51 hiS hS0 hS1 hS2 rfl (by decide) _ (1 + k) _ rfl HOS.out _ 1 1 [.int .i64 x.s, .int .i64 x.e] rfl rfl HNW.out (by simp [Value.oneCell']) (by simp only [maxLen]; omega) (by omega) (by simp; omega) ?_; intro v15 w5 hos5 hg5 _
             have HBX5 := Lib.hid (HBX.out.grownOwn HOS.out (by decide) hg5)
             have HBY5 := Lib.hid (HBY.out.grownOwn HOS.out (by decide) hg5)
             have HBL5 := Lib.hid (HBL.out.grown hg5 (by simp; omega) (fun r e => (HOS.out.lt r e).1))
             have HOT5 := Lib.hid ((HOT.out.kept hg5 (own_own_ne HOT.out HOS.out (by decide))).alloc (.cells #[.int .i64 x.c, .int .i64 x.u, .int .i64 x.lo, .int .i64 x.hi] 41))
             have HOS5 := Lib.hid hos5
             have hs5 : wr.heap.size + 2 ≤ w5.heap.size := by have := hg5.size; simpa using this
             have y3 : w5.cell? ⟨wr.heap.size, 3, none⟩ = some (.int .i64 x.c) := HBY5.out.cell 3
             have y4 : w5.cell? ⟨wr.heap.size, 4, none⟩ = some (.int .i64 x.u) := HBY5.out.cell 4
             have y5 : w5.cell? ⟨wr.heap.size, 5, none⟩ = some (.int .i64 x.lo) := HBY5.out.cell 5
             have y6 : w5.cell? ⟨wr.heap.size, 6, none⟩ = some (.int .i64 x.hi) := HBY5.out.cell 6
             clear hos5 hg5)
          | (at_builtin; refine wpList_append_own _ rfl (.tmp 49) (.tmp 52) 64 rfl B 41 iT _ 4 32 Try.underlying64 hiT hT0 hT1 hT2 rfl (by decide) _ k _ rfl HOT5.out ⟨w5.heap.size, 0, none⟩ 1 1 [.int .i64 x.c, .int .i64 x.u, .int .i64 x.lo, .int .i64 x.hi] rfl rfl (news_lit w5 #[.int .i64 x.c, .int .i64 x.u, .int .i64 x.lo, .int .i64 x.hi] 41 w5.heap.size rfl) (by simp [Value.oneCell']) (by simp only [maxLen]; omega) (by omega) (by simp; omega) ?_; intro v16 w7 hot7 hg7 _
             have HBX7 := Lib.hid ((HBX5.out.alloc (.cells #[.int .i64 x.c, .int .i64 x.u, .int .i64 x.lo, .int .i64 x.hi] 41)).grownOwn HOT5.out (by decide) hg7)
             have HBY7 := Lib.hid ((HBY5.out.alloc (.cells #[.int .i64 x.c, .int .i64 x.u, .int .i64 x.lo, .int .i64 x.hi] 41)).grownOwn HOT5.out (by decide) hg7)
             have HBL7 := Lib.hid ((HBL5.out.alloc (by omega) (.cells #[.int .i64 x.c, .int .i64 x.u, .int .i64 x.lo, .int .i64 x.hi] 41)).grown hg7 (by simp; omega) (fun r e => (HOT5.out.lt r e).1))
             have HOS7 := Lib.hid ((HOS5.out.alloc (.cells #[.int .i64 x.c, .int .i64 x.u, .int .i64 x.lo, .int .i64 x.hi] 41)).kept hg7 (own_own_ne (HOS5.out.alloc _) HOT5.out (by decide)))
             have HOT7 := Lib.hid hot7
             have hs7 : w5.heap.size + 1 ≤ w7.heap.size := by have := hg7.size; simpa using this
             have hYlt : wr.heap.size < w7.heap.size := by omega
             have hXlt7 : w1.heap.size < w7.heap.size := by omega
             have y0 : w7.cell? ⟨wr.heap.size, 0, none⟩ = some (.int .i64 x.s) := HBY7.out.cell 0
             have y1 : w7.cell? ⟨wr.heap.size, 1, none⟩ = some (.int .i64 x.e) := HBY7.out.cell 1
             have y2 : w7.cell? ⟨wr.heap.size, 2, none⟩ = some (.int .i64 x.h) := HBY7.out.cell 2
             have y7 : w7.cell? ⟨wr.heap.size, 7, none⟩ = some (.int .i64 x.si) := HBY7.out.cell 7
             have y8 : w7.cell? ⟨wr.heap.size, 8, none⟩ = some (.int .i64 x.pa) := HBY7.out.cell 8
             have x2 : w7.cell? ⟨w1.heap.size, 2, none⟩ = some (.int .i64 hk0) := HBX7.out.cell 2
             have x7 : w7.cell? ⟨w1.heap.size, 7, none⟩ = some (.int .i64 sk0) := HBX7.out.cell 7
             have x8 : w7.cell? ⟨w1.heap.size, 8, none⟩ = some (.int .i64 pk0) := HBX7.out.cell 8
             have f2 := HBX7.out.frozen 2
             have f7 := HBX7.out.frozen 7
             have f8 := HBX7.out.frozen 8
             clear hot7 hg7 y3 y4 y5 y6)
          | (go_at_call 28; (with_reducible refine (Due_any _ _ _ _).mono ?_); rintro e w8 ⟨rfl, hb8⟩
             have hs8 := hb8.size
             have HB8 := Lib.hid hb8
             obtain ⟨fc, ff⟩ := bcell hb8
             clear hb8))
        go_roundw
        case rel => exact ⟨k + 1, by go_num, by omega, (((HBL7.out.setCell (p := ⟨w1.heap.size, 7, none⟩) hBw1 _).setCell (p := ⟨w1.heap.size, 8, none⟩) hBw1 _).trans (HB8.out.mono (by simp; omega))), by
          rw [HT4.out]
          have := own_below (own_set (own_set HOS7.out HBX7.out (by decide) 7 (.int .i64 (min (sk0 + x.si) 9007199254740992))) (HBX7.out.set 7 _) (by decide) 8 (.int .i64 (min (pk0 + x.pa) 9007199254740992))) HB8.out
          rw [← List.cons_append, scells_snoc, Nat.add_assoc] at *
          exact this, by
          rw [HT5.out, tcells_snoc]
          exact own_below (own_set (own_set HOT7.out HBX7.out (by decide) 7 (.int .i64 (min (sk0 + x.si) 9007199254740992))) (HBX7.out.set 7 _) (by decide) 8 (.int .i64 (min (pk0 + x.pa) 9007199254740992))) HB8.out, by
          rw [HT1.out, HT2.out, HT3.out]
          exact ((HBX7.out.set 7 (.int .i64 (min (sk0 + x.si) 9007199254740992))).set 8 (.int .i64 (min (pk0 + x.pa) 9007199254740992))).below HB8.out⟩
        case measure => simp [intOf]; omega
      · have hdue' : decide (x.e ≤ W) = false := by simp; omega
        rw [if_neg hdue] at HT1
        go_wp2_with (first
          | (at_builtin; refine wpList_append_own _ rfl (.tmp 44) (.tmp 47) 51 rfl B 24 iS _ 2 16 Try.underlying51 hiS hS0 hS1 hS2 rfl (by decide) _ (1 + k) _ rfl HOS.out _ 1 1 [.int .i64 x.s, .int .i64 x.e] rfl rfl HNW.out (by simp [Value.oneCell']) (by simp only [maxLen]; omega) (by omega) (by simp; omega) ?_; intro v15 w5 hos5 hg5 _
             have HBX5 := Lib.hid (HBX.out.grownOwn HOS.out (by decide) hg5)
             have HBY5 := Lib.hid (HBY.out.grownOwn HOS.out (by decide) hg5)
             have HBL5 := Lib.hid (HBL.out.grown hg5 (by simp; omega) (fun r e => (HOS.out.lt r e).1))
             have HOT5 := Lib.hid ((HOT.out.kept hg5 (own_own_ne HOT.out HOS.out (by decide))).alloc (.cells #[.int .i64 x.c, .int .i64 x.u, .int .i64 x.lo, .int .i64 x.hi] 41))
             have HOS5 := Lib.hid hos5
             have hs5 : wr.heap.size + 2 ≤ w5.heap.size := by have := hg5.size; simpa using this
             have y3 : w5.cell? ⟨wr.heap.size, 3, none⟩ = some (.int .i64 x.c) := HBY5.out.cell 3
             have y4 : w5.cell? ⟨wr.heap.size, 4, none⟩ = some (.int .i64 x.u) := HBY5.out.cell 4
             have y5 : w5.cell? ⟨wr.heap.size, 5, none⟩ = some (.int .i64 x.lo) := HBY5.out.cell 5
             have y6 : w5.cell? ⟨wr.heap.size, 6, none⟩ = some (.int .i64 x.hi) := HBY5.out.cell 6
             clear hos5 hg5)
          | (at_builtin; refine wpList_append_own _ rfl (.tmp 49) (.tmp 52) 64 rfl B 41 iT _ 4 32 Try.underlying64 hiT hT0 hT1 hT2 rfl (by decide) _ k _ rfl HOT5.out ⟨w5.heap.size, 0, none⟩ 1 1 [.int .i64 x.c, .int .i64 x.u, .int .i64 x.lo, .int .i64 x.hi] rfl rfl (news_lit w5 #[.int .i64 x.c, .int .i64 x.u, .int .i64 x.lo, .int .i64 x.hi] 41 w5.heap.size rfl) (by simp [Value.oneCell']) (by simp only [maxLen]; omega) (by omega) (by simp; omega) ?_; intro v16 w7 hot7 hg7 _
             have HBX7 := Lib.hid ((HBX5.out.alloc (.cells #[.int .i64 x.c, .int .i64 x.u, .int .i64 x.lo, .int .i64 x.hi] 41)).grownOwn HOT5.out (by decide) hg7)
             have HBY7 := Lib.hid ((HBY5.out.alloc (.cells #[.int .i64 x.c, .int .i64 x.u, .int .i64 x.lo, .int .i64 x.hi] 41)).grownOwn HOT5.out (by decide) hg7)
             have HBL7 := Lib.hid ((HBL5.out.alloc (by omega) (.cells #[.int .i64 x.c, .int .i64 x.u, .int .i64 x.lo, .int .i64 x.hi] 41)).grown hg7 (by simp; omega) (fun r e => (HOT5.out.lt r e).1))
             have HOS7 := Lib.hid ((HOS5.out.alloc (.cells #[.int .i64 x.c, .int .i64 x.u, .int .i64 x.lo, .int .i64 x.hi] 41)).kept hg7 (own_own_ne (HOS5.out.alloc _) HOT5.out (by decide)))
             have HOT7 := Lib.hid hot7
             have hs7 : w5.heap.size + 1 ≤ w7.heap.size := by have := hg7.size; simpa using this
             have hYlt : wr.heap.size < w7.heap.size := by omega
             have hXlt7 : w1.heap.size < w7.heap.size := by omega
             have y0 : w7.cell? ⟨wr.heap.size, 0, none⟩ = some (.int .i64 x.s) := HBY7.out.cell 0
             have y1 : w7.cell? ⟨wr.heap.size, 1, none⟩ = some (.int .i64 x.e) := HBY7.out.cell 1
             have y2 : w7.cell? ⟨wr.heap.size, 2, none⟩ = some (.int .i64 x.h) := HBY7.out.cell 2
             have y7 : w7.cell? ⟨wr.heap.size, 7, none⟩ = some (.int .i64 x.si) := HBY7.out.cell 7
             have y8 : w7.cell? ⟨wr.heap.size, 8, none⟩ = some (.int .i64 x.pa) := HBY7.out.cell 8
             have x2 : w7.cell? ⟨w1.heap.size, 2, none⟩ = some (.int .i64 hk0) := HBX7.out.cell 2
             have x7 : w7.cell? ⟨w1.heap.size, 7, none⟩ = some (.int .i64 sk0) := HBX7.out.cell 7
             have x8 : w7.cell? ⟨w1.heap.size, 8, none⟩ = some (.int .i64 pk0) := HBX7.out.cell 8
             have f2 := HBX7.out.frozen 2
             have f7 := HBX7.out.frozen 7
             have f8 := HBX7.out.frozen 8
             clear hot7 hg7 y3 y4 y5 y6)
          | (go_at_call 28; (with_reducible refine (Due_any _ _ _ _).mono ?_); rintro e w8 ⟨rfl, hb8⟩
             have hs8 := hb8.size
             have HB8 := Lib.hid hb8
             obtain ⟨fc, ff⟩ := bcell hb8
             clear hb8))
        go_roundw
        case rel => exact ⟨k + 1, by go_num, by omega, (((HBL7.out.setCell (p := ⟨w1.heap.size, 7, none⟩) hBw1 _).setCell (p := ⟨w1.heap.size, 8, none⟩) hBw1 _).trans (HB8.out.mono (by simp; omega))).setCell (p := ⟨w1.heap.size, 2, none⟩) hBw1 _, by
          rw [HT4.out]
          have := own_set (own_below (own_set (own_set HOS7.out HBX7.out (by decide) 7 (.int .i64 (min (sk0 + x.si) 9007199254740992))) (HBX7.out.set 7 _) (by decide) 8 (.int .i64 (min (pk0 + x.pa) 9007199254740992))) HB8.out) (((HBX7.out.set 7 (.int .i64 (min (sk0 + x.si) 9007199254740992))).set 8 (.int .i64 (min (pk0 + x.pa) 9007199254740992))).below HB8.out) (by decide) 2 (.int .i64 (min hk0 x.h))
          rw [← List.cons_append, scells_snoc, Nat.add_assoc] at *
          exact this, by
          rw [HT5.out, tcells_snoc]
          exact own_set (own_below (own_set (own_set HOT7.out HBX7.out (by decide) 7 (.int .i64 (min (sk0 + x.si) 9007199254740992))) (HBX7.out.set 7 _) (by decide) 8 (.int .i64 (min (pk0 + x.pa) 9007199254740992))) HB8.out) (((HBX7.out.set 7 (.int .i64 (min (sk0 + x.si) 9007199254740992))).set 8 (.int .i64 (min (pk0 + x.pa) 9007199254740992))).below HB8.out) (by decide) 2 (.int .i64 (min hk0 x.h)), by
          rw [HT1.out, HT2.out, HT3.out]
          exact (((HBX7.out.set 7 (.int .i64 (min (sk0 + x.si) 9007199254740992))).set 8 (.int .i64 (min (pk0 + x.pa) 9007199254740992))).below HB8.out).set 2 (.int .i64 (min hk0 x.h))⟩
        case measure => simp [intOf]; omega
    · obtain rfl : k = z - f := by omega
      have hML : M.length = z - f := hml
      have hMt : M.take (z - f) = M := List.take_of_length_le (by omega)
      rw [hMt] at hos hot hbx
      have hBr : B ≤ wr.heap.size := by have := hb.size; have := HB.out; omega
      have hl1 : ((⟨S, E⟩ : Sn) :: M.map Wn.sp).length = 1 + (z - f) := by simp; omega
      have hl2 : (M.map Wn.tl).length = z - f := by simp; omega
      have HWJ := Lib.hid (winJoin_any u15 (⟨S, E⟩ :: M.map Wn.sp) wr (by rw [hl1]; exact Rd.of_owns hos) (by
        intro y hy
        rcases List.mem_cons.1 hy with rfl | hy
        · exact hse
        · obtain ⟨q, hq, rfl⟩ := List.mem_map.1 hy; exact (HOK.out q hq).lt) (by simp))
      have HTJ : Hid (∀ W', W'.ownsRow B 41 4 u16 (z - f) (tcells (M.map Wn.tl)) → Calls Try.prog 30 #[u16] W' fun e w' => e = .returned (.agg #[.int .i64 (tly (M.map Wn.tl)).c, .int .i64 (tly (M.map Wn.tl)).u, .int .i64 (tly (M.map Wn.tl)).lo, .int .i64 (tly (M.map Wn.tl)).hi]) ∧ Below W'.heap.size W' w') := fun W' h => tallyJoin_any u16 (M.map Wn.tl) W' (by rw [hl2]; exact Rd.of_owns h)
      generalize smin (⟨S, E⟩ :: M.map Wn.sp) = mn at *
      generalize smax (⟨S, E⟩ :: M.map Wn.sp) = mx at *
      generalize hld W H M = hd at *
      generalize sinc M = sc at *
      generalize pans M = pn at *
      generalize (tly (M.map Wn.tl)).c = t0 at *
      generalize (tly (M.map Wn.tl)).u = t1 at *
      generalize (tly (M.map Wn.tl)).lo = t2 at *
      generalize (tly (M.map Wn.tl)).hi = t3 at *
      have HOT := Lib.hid hot
      have HBX := Lib.hid hbx
      have HBL := Lib.hid hb
      have hXlt := hbx.lt
      have hza : (l.drop z).length = n - z := HCL.out
      have HZA := Lib.hid hza
      have HRA2 : Hid (∀ W', Below B w W' → Rd W' (.slice AA f cA) f (wcells (l.take f))) := fun W' hb => by
        have h := (HRA.out.below (HB.out.symm ▸ hb)).rd
        rw [HAL.out] at h
        exact h
      have HRC2 : Hid (∀ W', Below B w W' → Rd W' (.slice AC (n - z) cC) (n - z) (wcells (l.drop z))) := fun W' hb => by
        have h := (HRC.out.below (HB.out.symm ▸ hb)).rd
        rw [HZA.out] at h
        exact h
      clear hos hot hbx hb hML hMt hl1 hl2 hml hza
      go_wp2_with (first
        | (go_at_call 29; (with_reducible refine HWJ.out.mono ?_); rintro e w9 ⟨rfl, hb9⟩
           have HBX9 := Lib.hid (HBX.out.below hb9)
           have HOT9 := Lib.hid (own_set (own_set (own_below HOT.out hb9) HBX9.out (by decide) 0 (.int .i64 mn)) (HBX9.out.set 0 _) (by decide) 1 (.int .i64 mx))
           have HBL9 := Lib.hid (HBL.out.trans (hb9.mono hBr))
           have hs9 := hb9.size
           have x0 : w9.cell? ⟨w1.heap.size, 0, none⟩ = some (.int .i64 S) := HBX9.out.cell 0
           have x1 : w9.cell? ⟨w1.heap.size, 1, none⟩ = some (.int .i64 E) := HBX9.out.cell 1
           have f0 := HBX9.out.frozen 0
           have f1 := HBX9.out.frozen 1
           clear hb9)
        | (go_at_call 30; (with_reducible refine (HTJ.out _ HOT9.out).mono ?_); rintro e w10 ⟨rfl, hb10⟩
           have HBX10 := Lib.hid (((HBX9.out.set 0 (.int .i64 mn)).set 1 (.int .i64 mx)).below hb10)
           have HBL10 := Lib.hid (((HBL9.out.setCell (p := ⟨w1.heap.size, 0, none⟩) hBw1 (.int .i64 mn)).setCell (p := ⟨w1.heap.size, 1, none⟩) hBw1 (.int .i64 mx)).trans (hb10.mono (by simp; omega)))
           have hs10 : w9.heap.size ≤ w10.heap.size := by have := hb10.size; simpa using this
           have z3 : w10.cell? ⟨w1.heap.size, 3, none⟩ = some (.int .i64 0) := HBX10.out.cell 3
           have z4 : w10.cell? ⟨w1.heap.size, 4, none⟩ = some (.int .i64 0) := HBX10.out.cell 4
           have z5 : w10.cell? ⟨w1.heap.size, 5, none⟩ = some (.int .i64 0) := HBX10.out.cell 5
           have z6 : w10.cell? ⟨w1.heap.size, 6, none⟩ = some (.int .i64 0) := HBX10.out.cell 6
           have f3 := HBX10.out.frozen 3
           have f4 := HBX10.out.frozen 4
           have f5 := HBX10.out.frozen 5
           have f6 := HBX10.out.frozen 6
           have HBX11 : Hid (Bk ((((w10.setCell ⟨w1.heap.size, 3, none⟩ (.int .i64 t0)).setCell ⟨w1.heap.size, 4, none⟩ (.int .i64 t1)).setCell ⟨w1.heap.size, 5, none⟩ (.int .i64 t2)).setCell ⟨w1.heap.size, 6, none⟩ (.int .i64 t3)) w1.heap.size 43 #[.int .i64 mn, .int .i64 mx, .int .i64 hd, .int .i64 t0, .int .i64 t1, .int .i64 t2, .int .i64 t3, .int .i64 sc, .int .i64 pn]) := ((((HBX10.out.set 3 (.int .i64 t0)).set 4 (.int .i64 t1)).set 5 (.int .i64 t2)).set 6 (.int .i64 t3))
           have HBL11 : Hid (Below B w ((((w10.setCell ⟨w1.heap.size, 3, none⟩ (.int .i64 t0)).setCell ⟨w1.heap.size, 4, none⟩ (.int .i64 t1)).setCell ⟨w1.heap.size, 5, none⟩ (.int .i64 t2)).setCell ⟨w1.heap.size, 6, none⟩ (.int .i64 t3))) := ((((HBL10.out.setCell (p := ⟨w1.heap.size, 3, none⟩) hBw1 (.int .i64 t0)).setCell (p := ⟨w1.heap.size, 4, none⟩) hBw1 (.int .i64 t1)).setCell (p := ⟨w1.heap.size, 5, none⟩) hBw1 (.int .i64 t2)).setCell (p := ⟨w1.heap.size, 6, none⟩) hBw1 (.int .i64 t3))
           clear hb10 x0 x1 f0 f1)
        | (at_builtin; refine wpList_append_rd _ rfl (.const (.slice none 0 0)) (.tmp 91) 22 rfl B 43 iW _ 9 72 Try.underlying22 hiW hW0 hW1 hW2 rfl (by decide) (.slice none 0 0) 0 [] rfl (World.ownsRow_nil _ _ _ _) AA f cA (wcells (l.take f)) rfl (by rw [wcells_length, HAL.out]) (HRA2.out _ HBL11.out) (wcells_one _) (by simp only [maxLen]; omega) (by omega) (by simp; omega) ?_; intro v12 w12 hoa12 hg12 hat12
           have HBX12 := Lib.hid (HBX11.out.grown hg12 (by simp [Value.ownBlock]))
           have HBL12 := Lib.hid (HBL11.out.grown hg12 (by simp; omega) (fun r e => by simp [Value.ownBlock] at e))
           have hs12 : w10.heap.size ≤ w12.heap.size := by have := hg12.size; simpa using this
           have HOA12 := Lib.hid (hoa12.alloc (.cells #[.int .i64 mn, .int .i64 mx, .int .i64 hd, .int .i64 t0, .int .i64 t1, .int .i64 t2, .int .i64 t3, .int .i64 sc, .int .i64 pn] 43))
           have q0 : w12.cell? ⟨w1.heap.size, 0, none⟩ = some (.int .i64 mn) := HBX12.out.cell 0
           have q1 : w12.cell? ⟨w1.heap.size, 1, none⟩ = some (.int .i64 mx) := HBX12.out.cell 1
           have q2 : w12.cell? ⟨w1.heap.size, 2, none⟩ = some (.int .i64 hd) := HBX12.out.cell 2
           have q3 : w12.cell? ⟨w1.heap.size, 3, none⟩ = some (.int .i64 t0) := HBX12.out.cell 3
           have q4 : w12.cell? ⟨w1.heap.size, 4, none⟩ = some (.int .i64 t1) := HBX12.out.cell 4
           have q5 : w12.cell? ⟨w1.heap.size, 5, none⟩ = some (.int .i64 t2) := HBX12.out.cell 5
           have q6 : w12.cell? ⟨w1.heap.size, 6, none⟩ = some (.int .i64 t3) := HBX12.out.cell 6
           have q7 : w12.cell? ⟨w1.heap.size, 7, none⟩ = some (.int .i64 sc) := HBX12.out.cell 7
           have q8 : w12.cell? ⟨w1.heap.size, 8, none⟩ = some (.int .i64 pn) := HBX12.out.cell 8
           clear hoa12 hg12 hat12 z3 z4 z5 z6 f3 f4 f5 f6)
        | (at_builtin; refine wpList_append_own _ rfl (.tmp 93) (.tmp 95) 22 rfl B 43 iW _ 9 72 Try.underlying22 hiW hW0 hW1 hW2 rfl (by decide) _ (0 + f) _ rfl HOA12.out ⟨w12.heap.size, 0, none⟩ 1 1 [.int .i64 mn, .int .i64 mx, .int .i64 hd, .int .i64 t0, .int .i64 t1, .int .i64 t2, .int .i64 t3, .int .i64 sc, .int .i64 pn] rfl rfl (news_lit w12 #[.int .i64 mn, .int .i64 mx, .int .i64 hd, .int .i64 t0, .int .i64 t1, .int .i64 t2, .int .i64 t3, .int .i64 sc, .int .i64 pn] 43 w12.heap.size rfl) (by simp [Value.oneCell']) (by simp only [maxLen]; omega) (by omega) (by simp; omega) ?_; intro v13 w13 hoa13 hg13 _
           have HBL13 := Lib.hid ((HBL12.out.alloc (by omega) (.cells #[.int .i64 mn, .int .i64 mx, .int .i64 hd, .int .i64 t0, .int .i64 t1, .int .i64 t2, .int .i64 t3, .int .i64 sc, .int .i64 pn] 43)).grown hg13 (by simp; omega) (fun r e => (HOA12.out.lt r e).1))
           have HOA13 := Lib.hid hoa13
           have hs13 : w12.heap.size + 1 ≤ w13.heap.size := by have := hg13.size; simpa using this
           clear hoa13 hg13 q0 q1 q2 q3 q4 q5 q6 q7 q8)
        | (at_builtin; refine wpList_append_rd _ rfl (.tmp 97) (.tmp 100) 22 rfl B 43 iW _ 9 72 Try.underlying22 hiW hW0 hW1 hW2 rfl (by decide) _ (0 + f + 1) _ rfl HOA13.out AC (n - z) cC (wcells (l.drop z)) rfl (by rw [wcells_length, HZA.out]) (HRC2.out _ HBL13.out) (wcells_one _) (by simp only [maxLen]; omega) (by omega) (by omega) ?_; intro v14 w14 hoa14 hg14 _
           have HBL14 := Lib.hid (HBL13.out.grown hg14 (by omega) (fun r e => (HOA13.out.lt r e).1))
           have HOA14 := Lib.hid hoa14
           clear hoa14 hg14))
      go_ret3
      refine ⟨v14, rfl, HB.out.symm ▸ HBL14.out, ?_⟩
      have h := HOA14.out
      rw [Nat.zero_add] at h
      rw [HB.out, HJL.out, HJC.out, HJN.out]
      exact h

set_option maxRecDepth 100000 in
set_option maxHeartbeats 1000000 in
theorem Join_no (v : Value) (l : List Wn) (S E W H : Int) (w : World) (hr : Rw w v l) (hno : ¬ (Ap l ∧ S < E)) :
    Calls Try.prog 11 #[v, .agg #[.int .i64 S, .int .i64 E], .int .i64 W, .int .i64 H] w fun e w' => e = .returned (.tuple #[.slice none 0 0, .int .i64 0, .int .i64 190]) ∧ Below w.heap.size w w' := by
  have HTO : Hid (∀ W, Below w.heap.size w W → Calls Try.prog 9 #[v, .agg #[.int .i64 S, .int .i64 E]] W fun e w' => e = .returned (.tuple #[.int .i64 0, .int .i64 0, .int .i64 190]) ∧ Below W.heap.size W w') := fun W hb => Touch_no _ l S E W (hr.below hb) hno
  have HB0 : Hid (Below w.heap.size w (w.alloc (.cells #[.int .i64 S, .int .i64 E] 24))) := below_alloc _ _
  clear hr hno
  go_enter Try.func11, Try.ntmps11
  go_wp2_with (first
    | (go_at_call 9; (with_reducible refine (HTO.out _ HB0.out).mono ?_); rintro e w1 ⟨rfl, hb1⟩))
  go_ret3
  exact ⟨rfl, HB0.out.trans (hb1.mono HB0.out.size)⟩
end Go.Proofs.Ytjdfjaocidjhlaa
