/- Lends: LendK, Spoil. -/
import Derived.Test.YtaechgnjdjijkaaKits
import Derived.Test.YtaechgnjdjijkaaWire2
import Derived.Test.YtaechgnjdjijkaaBacks
import Derived.Test.YtaechgnjdjijkaaRefW
import Derived.Deep.RegionHeld3
import Derived.Deep.RegionLaw
/- Keys' states in new memory, with marks behind their windows: keepsakekit's CopyKey, LendKey, KeptKey. -/
namespace Go.Proofs.Ytaechgnjdjijkaa
open Go.RowKit Go.Lib

def wmark (i : Nat) : Wn := ⟨0, 0, -77, 0, 0, 0, 0, (i : Int), 0⟩
def wmarks : List Wn := [wmark 0, wmark 1, wmark 2]
/-- A key's state with marks behind its windows. -/
def Lk (w : World) (v : Value) (k : Kn) : Prop := ∃ A cap, v = .agg #[.string k.key, .int .i64 k.dr, .slice A k.ws.length cap] ∧ Rd w (.slice A (k.ws.length + 3) cap) (k.ws.length + 3) (wcells (k.ws ++ wmarks))
theorem Lk.below {w w' : World} {v : Value} {k : Kn} (h : Lk w v k) (hb : Below w.heap.size w w') : Lk w' v k := by
  obtain ⟨A, cap, hv, hr⟩ := h
  exact ⟨A, cap, hv, hr.below hb⟩
theorem Lk.rk {w : World} {v : Value} {k : Kn} (h : Lk w v k) : Rk w v k := by
  obtain ⟨A, cap, hv, A', cap', he, h1, h2, h3⟩ := h
  cases he
  refine ⟨A, cap, hv, A, cap, rfl, by omega, h2, fun _ => ?_⟩
  obtain ⟨g, off, ha, hg, hc⟩ := h3 (by omega)
  refine ⟨g, off, ha, hg, fun j u hj => hc j u ?_⟩
  rw [wcells_append, List.getElem?_append_left (List.getElem?_eq_some_iff.1 hj).1]
  exact hj
set_option maxRecDepth 100000 in
theorem mark_any (i : Int) (w : World) : Calls Try.prog 55 #[.int .i64 i] w fun e w' => e = .returned (.agg #[.int .i64 0, .int .i64 0, .int .i64 (-77), .int .i64 0, .int .i64 0, .int .i64 0, .int .i64 0, .int .i64 i, .int .i64 0]) ∧ Below w.heap.size w w' := by
  go_enter Try.func55, Try.ntmps55
  go_wp2
  refine bodyPost_ret (results_cell_row Try.results55 _ _ w.heap.size 93 _ (0, 0) _ rfl (Bk.new w _ _) Try.underlying93 rfl (by kernel_rfl)) rfl ?_
  exact ⟨rfl, below_alloc w _⟩
set_option maxRecDepth 100000 in
theorem CopyKey_any (k : Kn) (kv : Value) (W : World) (hr : Rk W kv k) (hn : 72 * k.ws.length ≤ 140737488355328) :
    Calls Try.prog 54 #[kv] W fun e w' => ∃ A cap, e = .returned (.agg #[.string k.key, .int .i64 k.dr, .slice A k.ws.length cap]) ∧ Below W.heap.size W w' ∧ w'.ownsRow W.heap.size 93 9 (.slice A k.ws.length cap) k.ws.length (wcells k.ws) := by
  obtain ⟨A, cap, rfl, hrd⟩ := hr
  obtain ⟨iW, hiW, hW0, hW1, hW2⟩ := info_parts winInfo
  have hwl := wcells_length k.ws
  have hone := wcells_one k.ws
  obtain ⟨S, D, ws⟩ := k
  simp only at hn hrd hwl hone ⊢
  obtain ⟨n, hnn⟩ : ∃ n, ws.length = n := ⟨_, rfl⟩
  rw [hnn] at hn hrd hwl ⊢
  have HRD := Lib.hid hrd
  have HWL := Lib.hid hwl
  have HONE := Lib.hid hone
  clear hnn hrd hwl hone
  go_enter Try.func54, Try.ntmps54
  go_wp2
  obtain ⟨w1, hw1⟩ : ∃ w1, (W.alloc (.cells #[.string S, .int .i64 D, .slice A n cap] 29)).alloc (.cells #[.string ⟨#[]⟩, .int .i64 0, .slice none 0 0] 29) = w1 := ⟨_, rfl⟩
  have hk1 : Bk w1 W.heap.size 29 #[.string S, .int .i64 D, .slice A n cap] := by subst hw1; exact (Bk.new W _ _).alloc _
  have HZ1 : Hid (Bk w1 (W.heap.size + 1) 29 #[.string ⟨#[]⟩, .int .i64 0, .slice none 0 0]) := Lib.hid (by subst hw1; exact Bk.new' _ _ _ _ (by simp))
  have HB1 : Hid (Below W.heap.size W w1) := Lib.hid (by subst hw1; exact (below_alloc W _).alloc (by simp) _)
  have hs1 : w1.heap.size = W.heap.size + 2 := by subst hw1; simp
  have HKC : Hid (∀ w, Below w1.heap.size w1 w → w.cell? ⟨W.heap.size, 0, none⟩ = some (.string S) ∧ w.cell? ⟨W.heap.size, 1, none⟩ = some (.int .i64 D) ∧ w.cell? ⟨W.heap.size, 2, none⟩ = some (.slice A n cap)) := Lib.hid fun w hb => ⟨(hk1.below hb).cell 0, (hk1.below hb).cell 1, (hk1.below hb).cell 2⟩
  have HK1 := Lib.hid hk1
  rw [hw1]
  clear hw1 hk1
  have hb2 : Below w1.heap.size w1 (w1.drew.alloc (.cells #[] 93)) := (below_drew w1).alloc (by simp) _
  have HB2 := Lib.hid hb2
  have HO2 : Hid ((w1.drew.alloc (.cells #[] 93)).ownsRow W.heap.size 93 9 (.slice (some ⟨W.heap.size + 2, 0, none⟩) 0 0) 0 []) := Lib.hid (own_lit (base := W.heap.size) (size := 9) w1.drew #[] 0 (W.heap.size + 2) (by simpa using hs1) (by omega) (by unfold maxLen; omega) rfl)
  have HR2 : Hid (Rd (w1.drew.alloc (.cells #[] 93)) (.slice A n cap) n (wcells ws)) := Lib.hid ((HRD.out.below HB1.out).below hb2)
  have HSZ : Hid (W.heap.size ≤ (w1.drew.alloc (.cells #[] 93)).heap.size) := Lib.hid (by simp; omega)
  clear hb2
  go_region_held3 (fun w => w.cell? ⟨W.heap.size, 0, none⟩ = some (.string S) ∧ w.cell? ⟨W.heap.size, 1, none⟩ = some (.int .i64 D) ∧ w.cell? ⟨W.heap.size, 2, none⟩ = some (.slice A n cap))
    (first
      | exact HKC.out _ (below_drew w1)
      | exact HKC.out _ HB2.out
      | exact HKC.out _ HB3.out
      | exact HKC4.out)
    ((first
      | (refine step_append_rd (by rfl) (.tmp 7) (.tmp 9) 27 (by rfl) W.heap.size 93 iW _ 9 72 Try.underlying27 hiW hW0 hW1 hW2 rfl (by decide) _ 0 [] (by rfl) HO2.out A n cap (wcells ws) (by rfl) HWL.out HR2.out HONE.out (by simp only [maxLen]; omega) (by omega) HSZ.out ?_; intro v3 w3 ho3 hg3
         have hb3 : Below w1.heap.size w1 w3 := HB2.out.grown hg3.only HB2.out.size (fun r e => by cases e; show w1.heap.size ≤ W.heap.size + 2; omega)
         have HB3 := Lib.hid hb3
         have z3 := HZ1.out.below hb3
         have f0 := z3.frozen 0
         have f1 := z3.frozen 1
         have f2 := z3.frozen 2
         have y0 := z3.cell 0
         have y1 := z3.cell 1
         have y2 := z3.cell 2
         have HZ3 := Lib.hid z3
         have HO3 := Lib.hid ho3
         obtain ⟨A3, c3, rfl, -, -⟩ := ownsRow_shape ho3
         have hk4 := (((HK1.out.below hb3).far (p := ⟨W.heap.size + 1, 0, none⟩) (by show W.heap.size ≠ W.heap.size + 1; omega) (.string S)).far (p := ⟨W.heap.size + 1, 1, none⟩) (by show W.heap.size ≠ W.heap.size + 1; omega) (.int .i64 D)).far (p := ⟨W.heap.size + 1, 2, none⟩) (by show W.heap.size ≠ W.heap.size + 1; omega) (.slice A3 n c3)
         have HKC4 : Hid (_ ∧ _ ∧ _) := Lib.hid ⟨hk4.cell 0, hk4.cell 1, hk4.cell 2⟩
         clear ho3 hg3 hb3 z3 hk4)))
  go_wp2
  have z4 := ((HZ3.out.set 0 (.string S)).set 1 (.int .i64 D)).set 2 (.slice A3 n c3)
  refine bodyPost_ret (results_cell_row Try.results54 _ _ (W.heap.size + 1) 29 _ (0, 0) _ rfl z4 Try.underlying29 rfl (by kernel_rfl)) rfl ?_
  refine ⟨A3, c3, rfl, ?_, ?_⟩
  · exact (((below_trans HB1.out HB3.out).setCell (p := ⟨W.heap.size + 1, 0, none⟩) (by show W.heap.size ≤ W.heap.size + 1; omega) _).setCell (p := ⟨W.heap.size + 1, 1, none⟩) (by show W.heap.size ≤ W.heap.size + 1; omega) _).setCell (p := ⟨W.heap.size + 1, 2, none⟩) (by show W.heap.size ≤ W.heap.size + 1; omega) _
  · have h := own_set (own_set (own_set HO3.out HZ3.out (by decide) 0 (.string S)) (HZ3.out.set 0 _) (by decide) 1 (.int .i64 D)) ((HZ3.out.set 0 _).set 1 _) (by decide) 2 (.slice A3 n c3)
    simpa using h
theorem winSl : Try.prog.underlying 27 = some (.slice (Try.prog.elem 27)) := by kernel_rfl
theorem winSz (W : World) : (sizeOf (Try.prog.elem 27)).run Try.prog W = .ok 9 W := by kernel_rfl
theorem run_win_front (ad : Addr) (m z cap : Nat) (hz : z ≤ cap) (hc : 0 < cap) : ∀ W : World, (Instr.sliceAt 27 (.slice (some ad) m cap) none (some (.int .i64 (z : Int))) none).run Try.prog W = .ok (.slice (some ad) z cap) W := by
  intro W
  rw [run_sliceAt_slice _ _ _ _ _ _ winSl, run_slice_h _ _ _ _ _ winSl _ _ (by omega) (by omega)]
  simp only [Int.toNat_natCast, winSz, Result.andThen_ok]
  unfold sliced
  rw [if_neg (by omega)]
  simp [Addr.add]
theorem marks_take (i : Nat) (hi : i < 3) : wmarks.take (i + 1) = wmarks.take i ++ [wmark i] := by
  have : i = 0 ∨ i = 1 ∨ i = 2 := by omega
  rcases this with rfl | rfl | rfl <;> rfl
set_option maxRecDepth 100000 in
set_option maxHeartbeats 1000000 in
theorem LendKey_any (k : Kn) (kv : Value) (W : World) (hr : Rk W kv k) (hn : 72 * k.ws.length + 1000 ≤ 140737488355328) :
    Calls Try.prog 21 #[kv] W fun e w' => ∃ v, e = .returned v ∧ Below W.heap.size W w' ∧ Lk w' v k := by
  have HCP : Hid (∀ w, Below W.heap.size W w → Calls Try.prog 54 #[kv] w fun e w' => ∃ A cap, e = .returned (.agg #[.string k.key, .int .i64 k.dr, .slice A k.ws.length cap]) ∧ Below w.heap.size w w' ∧ w'.ownsRow w.heap.size 93 9 (.slice A k.ws.length cap) k.ws.length (wcells k.ws)) := Lib.hid fun w hb => CopyKey_any k kv w (hr.below hb) (by omega)
  have HMK := Lib.hid mark_any
  obtain ⟨A, cap, rfl, hrd⟩ := hr
  have hcap : k.ws.length ≤ cap ∧ cap ≤ maxLen := by obtain ⟨_, _, hv, h1, h2, _⟩ := hrd; cases hv; exact ⟨h1, h2⟩
  obtain ⟨iW, hiW, hW0, hW1, hW2⟩ := info_parts winInfo
  obtain ⟨S, D, ws⟩ := k
  simp only at hn HCP hcap ⊢
  obtain ⟨n, hnn⟩ : ∃ n, ws.length = n := ⟨_, rfl⟩
  have HNN := Lib.hid hnn
  rw [hnn] at hn HCP hcap ⊢
  unfold maxLen at hcap
  obtain ⟨hcap1, hcap2⟩ := hcap
  clear hnn hrd
  go_enter Try.func21, Try.ntmps21
  go_wp2_with fail
  refine (HCP.out _ ((below_alloc W _).alloc (by simp) _)).mono ?_
  rintro e w1 ⟨A1, cap1, rfl, hb1, ho1⟩
  have HK1 : Hid (Bk w1 W.heap.size 29 #[.string S, .int .i64 D, .slice A n cap]) := Lib.hid (((Bk.new W _ _).alloc _).below hb1)
  have HZ1 : Hid (Bk w1 (W.heap.size + 1) 29 #[.string ⟨#[]⟩, .int .i64 0, .slice none 0 0]) := Lib.hid ((Bk.new' _ _ _ _ (by simp)).below hb1)
  have HB1 : Hid (Below W.heap.size W w1) := Lib.hid (((below_alloc W _).alloc (by simp) _).trans (hb1.mono (by simp; omega)))
  have HO1 : Hid (w1.ownsRow W.heap.size 93 9 (.slice A1 n cap1) n (wcells ws)) := Lib.hid (own_mono ho1 (by simp; omega))
  have hs1 : W.heap.size + 1 < w1.heap.size := HZ1.out.lt
  obtain ⟨b3, hb3⟩ : ∃ b3, w1.heap.size = b3 := ⟨_, rfl⟩
  have HS3 := Lib.hid hb3
  have HX1 : Hid (Bk (w1.alloc (.cells #[.string S, .int .i64 D, .slice A1 n cap1] 29)) b3 29 #[.string S, .int .i64 D, .slice A1 n cap1]) := Lib.hid (Bk.new' _ _ _ _ hb3)
  rw [hb3] at hs1
  clear hb1 ho1
  go_wp2
  clear hb3
  go_loopw [4] (fun q wr => ∃ (i : Nat) (Av : Option Addr) (cv : Nat), q = .int .i64 i ∧ i ≤ 3 ∧ Bk wr b3 29 #[.string S, .int .i64 D, .slice Av (n + i) cv] ∧ wr.ownsRow W.heap.size 93 9 (.slice Av (n + i) cv) (n + i) (wcells (ws ++ wmarks.take i)) ∧
      Bk wr W.heap.size 29 #[.string S, .int .i64 D, .slice A n cap] ∧ Bk wr (W.heap.size + 1) 29 #[.string ⟨#[]⟩, .int .i64 0, .slice none 0 0] ∧ Below W.heap.size W wr) (fun q _ => 3 - (intOf q).toNat)
  case atStart => exact ⟨0, A1, cap1, rfl, by omega, HX1.out, by simpa using HO1.out.alloc _, HK1.out.alloc _, HZ1.out.alloc _, HB1.out.alloc HB1.out.size _⟩
  case round =>
    clear HCP HX1 HO1 HK1 HZ1 HB1
    obtain ⟨i, Av, cv, rfl, hi, hx, ho, hk, hz, hb⟩ := hrel
    have hcv : n + i ≤ cv ∧ cv ≤ maxLen := by obtain ⟨_, _, hv, h1, h2⟩ := ownsRow_shape ho; cases hv; exact ⟨h1, h2⟩
    unfold maxLen at hcv
    obtain ⟨hcv1, hcv2⟩ := hcv
    have y2 : wr.cell? ⟨b3, 2, none⟩ = some (.slice Av (n + i) cv) := hx.cell 2
    have hxl := hx.lt
    have HX := Lib.hid hx
    have HO := Lib.hid ho
    have HK := Lib.hid hk
    have HZ := Lib.hid hz
    have HB := Lib.hid hb
    clear hx ho hk hz hb
    by_cases hi3 : i < 3
    · have hd : decide ((i : Int) < 3) = true := by simp; omega
      go_wp2
      go_region_law (first
        | (go_simp; go_at_call 55; (with_reducible refine (HMK.out _ _).mono ?_); rintro e w2 ⟨rfl, hb2⟩
           have hb2' : Below wr.heap.size wr w2 := below_trans (below_drew wr) hb2
           have HB2 := Lib.hid hb2'
           have y2' : w2.cell? ⟨b3, 2, none⟩ = some (.slice Av (n + i) cv) := (HX.out.below hb2').cell 2
           have hxl2 := (HX.out.below hb2').lt
           have HO2 := Lib.hid (own_below HO.out hb2')
           clear hb2 hb2')
        | (refine step_append_rd (by rfl) (.tmp 12) (.tmp 15) 27 (by rfl) W.heap.size 93 iW _ 9 72 Try.underlying27 hiW hW0 hW1 hW2 rfl (by decide) _ (n + i) _ (by rfl) (HO2.out.alloc _) (some ⟨w2.heap.size, 0, none⟩) 1 1 [.int .i64 0, .int .i64 0, .int .i64 (-77), .int .i64 0, .int .i64 0, .int .i64 0, .int .i64 0, .int .i64 (i : Int), .int .i64 0] (by rfl) rfl (Rd.of_owns (own_lit (base := 0) (size := 9) w2 _ 1 _ rfl (Nat.zero_le _) (by unfold maxLen; omega) rfl)) (wn_one (wmark i)) (by simp only [maxLen]; omega) (by omega) (by have := HB.out.size; have := HB2.out.size; simp; omega) ?_; intro v3 w3 ho3 hg3
           have hx2 := (HX.out.below HB2.out).alloc (.cells #[.int .i64 0, .int .i64 0, .int .i64 (-77), .int .i64 0, .int .i64 0, .int .i64 0, .int .i64 0, .int .i64 (i : Int), .int .i64 0] 93)
           have hx3 := hx2.grew hg3 (own_bk_ne (HO2.out.alloc _) hx2 (by decide))
           have hk2 := (HK.out.below HB2.out).alloc (.cells #[.int .i64 0, .int .i64 0, .int .i64 (-77), .int .i64 0, .int .i64 0, .int .i64 0, .int .i64 0, .int .i64 (i : Int), .int .i64 0] 93)
           have hz2 := (HZ.out.below HB2.out).alloc (.cells #[.int .i64 0, .int .i64 0, .int .i64 (-77), .int .i64 0, .int .i64 0, .int .i64 0, .int .i64 0, .int .i64 (i : Int), .int .i64 0] 93)
           have HK3 := Lib.hid (hk2.grew hg3 (own_bk_ne (HO2.out.alloc _) hk2 (by decide)))
           have HZ3 := Lib.hid (hz2.grew hg3 (own_bk_ne (HO2.out.alloc _) hz2 (by decide)))
           have hb3 := ((below_trans HB.out HB2.out).alloc (by have := HB.out.size; have := HB2.out.size; omega) (.cells #[.int .i64 0, .int .i64 0, .int .i64 (-77), .int .i64 0, .int .i64 0, .int .i64 0, .int .i64 0, .int .i64 (i : Int), .int .i64 0] 93))
           have HB3 := Lib.hid (hb3.grown hg3.only hb3.size (fun r e => (own_lt HO2.out e).1))
           have HX3 := Lib.hid hx3
           obtain ⟨A3, c3, rfl, -, -⟩ := ownsRow_shape ho3
           have HO3 : Hid (w3.ownsRow W.heap.size 93 9 (.slice A3 (n + (i + 1)) c3) (n + (i + 1)) (wcells (ws ++ wmarks.take (i + 1)))) := Lib.hid (by
             have h := ho3
             rw [marks_take i hi3, ← List.append_assoc, wcells_append]
             exact h)
           have f2 := hx3.frozen 2
           have x2 := hx3.cell 2
           clear ho3 hg3 hx2 hx3 hk2 hz2 hb3))
      all_goals go_wp2
      all_goals go_roundw
      all_goals first
        | (simp [intOf]; omega; done)
        | exact ⟨i + 1, A3, c3, by go_num, by omega, HX3.out.set 2 _, own_set HO3.out HX3.out (by decide) 2 _, HK3.out.far (p := ⟨b3, 2, none⟩) (by show W.heap.size ≠ b3; omega) _, HZ3.out.far (p := ⟨b3, 2, none⟩) (by show W.heap.size + 1 ≠ b3; omega) _, HB3.out.setCell (p := ⟨b3, 2, none⟩) (by show W.heap.size ≤ b3; omega) _⟩
    · obtain rfl : i = 3 := by omega
      have x0 : wr.cell? ⟨b3, 0, none⟩ = some (.string S) := HX.out.cell 0
      have x1 : wr.cell? ⟨b3, 1, none⟩ = some (.int .i64 D) := HX.out.cell 1
      have f2 := HX.out.frozen 2
      have k2 : wr.cell? ⟨W.heap.size, 2, none⟩ = some (.slice A n cap) := HK.out.cell 2
      obtain ⟨g, hA, hgW, hgl, -⟩ := ownsRow_at HO.out (by omega)
      subst hA
      have hrun := run_win_front ⟨g, 0, none⟩ (n + 3) n cv (by omega) (by omega)
      have fz0 := HZ.out.frozen 0
      have fz1 := HZ.out.frozen 1
      have fz2 := HZ.out.frozen 2
      have z0 : wr.cell? ⟨W.heap.size + 1, 0, none⟩ = some (.string ⟨#[]⟩) := HZ.out.cell 0
      have z1 : wr.cell? ⟨W.heap.size + 1, 1, none⟩ = some (.int .i64 0) := HZ.out.cell 1
      have z2 : wr.cell? ⟨W.heap.size + 1, 2, none⟩ = some (.slice none 0 0) := HZ.out.cell 2
      go_wp2
      have hZ0 := HZ.out.far (p := ⟨b3, 2, none⟩) (by show W.heap.size + 1 ≠ b3; omega) (.slice (some ⟨g, 0, none⟩) n cv)
      have hZ3 := ((hZ0.set 0 (.string S)).set 1 (.int .i64 D)).set 2 (.slice (some ⟨g, 0, none⟩) n cv)
      refine bodyPost_ret (results_cell_row Try.results21 _ _ (W.heap.size + 1) 29 _ (0, 0) _ rfl hZ3 Try.underlying29 rfl (by kernel_rfl)) rfl ?_
      have ho4 := own_set (own_set (own_set (own_set HO.out HX.out (by decide) 2 (.slice (some ⟨g, 0, none⟩) n cv)) hZ0 (by decide) 0 (.string S)) (hZ0.set 0 _) (by decide) 1 (.int .i64 D)) ((hZ0.set 0 _).set 1 _) (by decide) 2 (.slice (some ⟨g, 0, none⟩) n cv)
      refine ⟨_, rfl, ?_, some ⟨g, 0, none⟩, cv, ?_, ?_⟩
      · exact (((HB.out.setCell (p := ⟨b3, 2, none⟩) (by show W.heap.size ≤ b3; omega) _).setCell (p := ⟨W.heap.size + 1, 0, none⟩) (by show W.heap.size ≤ W.heap.size + 1; omega) _).setCell (p := ⟨W.heap.size + 1, 1, none⟩) (by show W.heap.size ≤ W.heap.size + 1; omega) _).setCell (p := ⟨W.heap.size + 1, 2, none⟩) (by show W.heap.size ≤ W.heap.size + 1; omega) _
      · show _ = Value.agg #[.string S, .int .i64 D, .slice (some ⟨g, 0, none⟩) ws.length cv]
        rw [HNN.out]; rfl
      · show Rd _ (.slice (some ⟨g, 0, none⟩) (ws.length + 3) cv) (ws.length + 3) _
        rw [HNN.out]
        exact Rd.of_owns ho4
set_option maxRecDepth 100000 in
set_option maxHeartbeats 1000000 in
theorem KeptKey_any (k : Kn) (mv kv : Value) (W : World) (hm : Lk W mv k) (hr : Rk W kv k) :
    Calls Try.prog 24 #[mv, kv] W fun e w' => e = .returned (.bool true) ∧ Below W.heap.size W w' := by
  have HKE : Hid (∀ w, Below W.heap.size W w → Calls Try.prog 15 #[mv, kv] w fun e w' => e = .returned (.bool true) ∧ Below w.heap.size w w') := Lib.hid fun w hb => by
    have h := kitKey_any k k mv kv w (hm.rk.below hb) (hr.below hb)
    rwa [kEq_iff.2 rfl] at h
  have HMK := Lib.hid mark_any
  obtain ⟨A1, cap1, rfl, hm1⟩ := hm
  obtain ⟨A2, cap2, rfl, hr2⟩ := hr
  have hc1 : k.ws.length + 3 ≤ cap1 ∧ cap1 ≤ maxLen := by obtain ⟨_, _, hv, h1, h2, _⟩ := hm1; cases hv; exact ⟨h1, h2⟩
  have hc2 : k.ws.length ≤ cap2 ∧ cap2 ≤ maxLen := by obtain ⟨_, _, hv, h1, h2, _⟩ := hr2; cases hv; exact ⟨h1, h2⟩
  obtain ⟨S, D, ws⟩ := k
  simp only at hm1 hr2 hc1 hc2 HKE ⊢
  obtain ⟨n, hnn⟩ : ∃ n, ws.length = n := ⟨_, rfl⟩
  have hwin : ∀ i, i < 3 → (ws ++ wmarks)[n + i]? = some (wmark i) := fun i hi => by
    rw [← hnn, List.getElem?_append_right (by omega), Nat.add_sub_cancel_left]
    have : i = 0 ∨ i = 1 ∨ i = 2 := by omega
    rcases this with rfl | rfl | rfl <;> rfl
  have hlen : (ws ++ wmarks).length = n + 3 := by rw [List.length_append, hnn]; rfl
  rw [hnn] at hm1 hr2 hc1 hc2 HKE ⊢
  obtain ⟨g, off, hA, hgl, -⟩ := rd_win hm1 (hwin 0 (by omega)) hlen
  subst hA
  have HWC : Hid (∀ i, i < 3 → ∀ w, Below W.heap.size W w → (w.cell? ⟨g, off + (n + i) * 9, none⟩ = some (.int .i64 0) ∧ w.cell? ⟨g, off + (n + i) * 9 + 1, none⟩ = some (.int .i64 0) ∧ w.cell? ⟨g, off + (n + i) * 9 + 2, none⟩ = some (.int .i64 (-77)) ∧ w.cell? ⟨g, off + (n + i) * 9 + 3, none⟩ = some (.int .i64 0) ∧ w.cell? ⟨g, off + (n + i) * 9 + 4, none⟩ = some (.int .i64 0) ∧ w.cell? ⟨g, off + (n + i) * 9 + 5, none⟩ = some (.int .i64 0) ∧ w.cell? ⟨g, off + (n + i) * 9 + 6, none⟩ = some (.int .i64 0) ∧ w.cell? ⟨g, off + (n + i) * 9 + 7, none⟩ = some (.int .i64 (i : Int)) ∧ w.cell? ⟨g, off + (n + i) * 9 + 8, none⟩ = some (.int .i64 0))) := Lib.hid fun i hi w hb => by
    obtain ⟨g', off', hA, -, h⟩ := rd_win (hm1.below hb) (hwin i hi) hlen
    cases hA
    exact ⟨h.c0, h.c1, h.c2, h.c3, h.c4, h.c5, h.c6, h.c7, h.c8⟩
  unfold maxLen at hc1 hc2
  obtain ⟨hc11, hc12⟩ := hc1
  obtain ⟨hc21, hc22⟩ := hc2
  have hrun := run_win_front ⟨g, off, none⟩ n (n + 3) cap1 (by omega) (by omega)
  have hw3 : IntKind.i64.wrap ((n : Int) + 3) = ((n + 3 : Nat) : Int) := by rw [IntWalk.i64_in _ (by omega)]; omega
  have hcast : ((n + 3 : Nat) : Int) = (n : Int) + 3 := by omega
  rw [hcast] at hrun
  clear hnn hwin hlen hm1 hr2 hcast hw3
  go_enter Try.func24, Try.ntmps24
  go_wp2_with fail
  refine (HKE.out _ ((below_alloc W _).alloc (by simp) _)).mono ?_
  rintro e w1 ⟨rfl, hb1⟩
  have HB1 : Hid (Below W.heap.size W w1) := Lib.hid (((below_alloc W _).alloc (by simp) _).trans (hb1.mono (by simp; omega)))
  have hk1 : Bk w1 W.heap.size 29 #[.string S, .int .i64 D, .slice (some ⟨g, off, none⟩) n cap1] := ((Bk.new W _ _).alloc _).below hb1
  have hk2 : Bk w1 (W.heap.size + 1) 29 #[.string S, .int .i64 D, .slice A2 n cap2] := (Bk.new' _ _ _ _ (by simp)).below hb1
  have y1 : w1.cell? ⟨W.heap.size, 2, none⟩ = some (.slice (some ⟨g, off, none⟩) n cap1) := hk1.cell 2
  have y2 : w1.cell? ⟨W.heap.size + 1, 2, none⟩ = some (.slice A2 n cap2) := hk2.cell 2
  have HK2 : Hid (∀ w, Below w1.heap.size w1 w → w.cell? ⟨W.heap.size + 1, 2, none⟩ = some (.slice A2 n cap2)) := Lib.hid fun w hb => (hk2.below hb).cell 2
  clear hb1 hk1 hk2
  go_wp2
  go_loopw [6] (fun q wr => ∃ i : Nat, q = .int .i64 i ∧ i ≤ 3 ∧ Below w1.heap.size w1 wr) (fun q _ => 3 - (intOf q).toNat)
  case atStart => exact ⟨0, rfl, by omega, Below.refl _ _⟩
  case round =>
    clear y1 y2
    obtain ⟨i, rfl, hi, hb⟩ := hrel
    have HB := Lib.hid hb
    by_cases hi3 : i < 3
    · have HFA : Hid (∀ w, Below wr.heap.size wr w → w.cell? ⟨W.heap.size + 1, 2, none⟩ = some (.slice A2 n cap2) ∧ (w.cell? ⟨g, off + (n + i) * 9, none⟩ = some (.int .i64 0) ∧ w.cell? ⟨g, off + (n + i) * 9 + 1, none⟩ = some (.int .i64 0) ∧ w.cell? ⟨g, off + (n + i) * 9 + 2, none⟩ = some (.int .i64 (-77)) ∧ w.cell? ⟨g, off + (n + i) * 9 + 3, none⟩ = some (.int .i64 0) ∧ w.cell? ⟨g, off + (n + i) * 9 + 4, none⟩ = some (.int .i64 0) ∧ w.cell? ⟨g, off + (n + i) * 9 + 5, none⟩ = some (.int .i64 0) ∧ w.cell? ⟨g, off + (n + i) * 9 + 6, none⟩ = some (.int .i64 0) ∧ w.cell? ⟨g, off + (n + i) * 9 + 7, none⟩ = some (.int .i64 (i : Int)) ∧ w.cell? ⟨g, off + (n + i) * 9 + 8, none⟩ = some (.int .i64 0))) := Lib.hid fun w hw =>
        ⟨HK2.out w (below_trans HB.out hw), HWC.out i hi3 w (below_trans HB1.out (below_trans HB.out hw))⟩
      have hw4 : IntKind.i64.wrap ((n : Int) + (i : Int)) = (n : Int) + (i : Int) := IntWalk.i64_in _ (by omega)
      have hi0 : (0 : Int) ≤ (n : Int) + (i : Int) := by omega
      have hi1 : (n : Int) + (i : Int) < (n : Int) + 3 := by omega
      have hi2 : ((n : Int) + (i : Int)).toNat = n + i := by omega
      clear hb
      go_wp2
      go_region_held3 (fun w => w.cell? ⟨W.heap.size + 1, 2, none⟩ = some (.slice A2 n cap2) ∧ (w.cell? ⟨g, off + (n + i) * 9, none⟩ = some (.int .i64 0) ∧ w.cell? ⟨g, off + (n + i) * 9 + 1, none⟩ = some (.int .i64 0) ∧ w.cell? ⟨g, off + (n + i) * 9 + 2, none⟩ = some (.int .i64 (-77)) ∧ w.cell? ⟨g, off + (n + i) * 9 + 3, none⟩ = some (.int .i64 0) ∧ w.cell? ⟨g, off + (n + i) * 9 + 4, none⟩ = some (.int .i64 0) ∧ w.cell? ⟨g, off + (n + i) * 9 + 5, none⟩ = some (.int .i64 0) ∧ w.cell? ⟨g, off + (n + i) * 9 + 6, none⟩ = some (.int .i64 0) ∧ w.cell? ⟨g, off + (n + i) * 9 + 7, none⟩ = some (.int .i64 (i : Int)) ∧ w.cell? ⟨g, off + (n + i) * 9 + 8, none⟩ = some (.int .i64 0)))
        (first
          | exact HFA.out _ (below_drew wr)
          | exact HFA.out _ HB2.out)
        ((first
          | (go_at_call 55; (with_reducible refine (HMK.out _ _).mono ?_); rintro e w2 ⟨rfl, hb2⟩; have HB2 := Lib.hid (below_trans (below_drew wr) hb2); clear hb2)))
      go_wp2
      go_roundw
      case rel => exact ⟨i + 1, by go_num, by omega, below_trans HB.out HB2.out⟩
      case measure => simp [intOf]; omega
    · obtain rfl : i = 3 := by omega
      clear hb
      go_wp2
      go_ret
      exact ⟨rfl, below_trans HB1.out HB.out⟩
end Go.Proofs.Ytaechgnjdjijkaa

/- What was told is written over, and grown: bytes (spoil). -/
namespace Go.Proofs.Ytaechgnjdjijkaa
open Go.RowKit Go.Lib

set_option maxRecDepth 100000 in
set_option maxHeartbeats 1000000 in
theorem spoil_any (B : Nat) (A : Option Addr) (n cap : Nat) (xs : List Value) (W : World) (ho : W.ownsRow B 5 1 (.slice A n cap) n xs) (hB : B ≤ W.heap.size) (hn : n + 20 ≤ 140737488355328) :
    Calls Try.prog 25 #[.slice A n cap] W fun e w' => e = .returned (.bool true) ∧ W.grownBy w' (Value.slice A n cap).ownBlock := by
  obtain ⟨i0, hi0, hz0, hz1, hz2⟩ := info_parts u8Info
  have hcap : n ≤ cap ∧ cap ≤ maxLen := by obtain ⟨_, _, hv, h1, h2⟩ := ownsRow_shape ho; cases hv; exact ⟨h1, h2⟩
  unfold maxLen at hcap
  obtain ⟨hcap1, hcap2⟩ := hcap
  have HO0 := Lib.hid ho
  clear ho
  go_enter Try.func25, Try.ntmps25
  go_wp2
  go_loopw [3] (fun q wr => ∃ (i : Nat) (ys : List Value), q = .int .i64 i ∧ i ≤ n ∧ wr.ownsRow B 5 1 (.slice A n cap) n ys ∧ W.grownBy wr (Value.slice A n cap).ownBlock) (fun q _ => n - (intOf q).toNat)
  case atStart => exact ⟨0, xs, rfl, by omega, HO0.out, only_refl _ _⟩
  case round =>
    obtain ⟨i, ys, rfl, hi, ho, hg⟩ := hrel
    have HO := Lib.hid ho
    have HG := Lib.hid hg
    by_cases hin : i < n
    · obtain ⟨g, hA, hBg, hgl, -, -, hcl, hfr⟩ := ownsRow_at ho (by omega)
      obtain ⟨u, hu⟩ := ownsRow_cell ho (j := i) (by omega)
      have z := hcl i u hu
      have f := hfr i
      subst hA
      clear ho hg hcl hfr hu
      have hn2 : decide (i < n) = true := by simpa using hin
      go_wp2
      go_roundw
      case rel => exact ⟨i + 1, _, by go_num, by omega, ownsRow_set HO.out _, only_set HG.out _ _ (.inl rfl)⟩
      case measure => simp [intOf]; omega
    · obtain rfl : i = n := by omega
      clear ho hg
      have hn2 : decide (i < i) = false := by simp
      go_wp2
      go_loopw [4, 5] (fun v q wr => ∃ (j : Nat) (Av : Option Addr) (cv : Nat) (ys : List Value), v = .slice Av (i + j) cv ∧ q = .int .i64 j ∧ j ≤ 20 ∧ wr.ownsRow B 5 1 (.slice Av (i + j) cv) (i + j) ys ∧ Grew W wr (.slice A i cap) (.slice Av (i + j) cv)) (fun _ q _ => 20 - (intOf q).toNat)
      case atStart => exact ⟨0, A, cap, ys, rfl, rfl, by omega, HO.out, ⟨HG.out, fun g e => .inl e⟩⟩
      case round =>
        obtain ⟨wo, rfl⟩ : ∃ wo : World, wo = wr := ⟨_, rfl⟩
        obtain ⟨j, Av, cv, zs, rfl, rfl, hj, ho, hg⟩ := hrel
        have hcv : i + j ≤ cv ∧ cv ≤ maxLen := by obtain ⟨_, _, hv, h1, h2⟩ := ownsRow_shape ho; cases hv; exact ⟨h1, h2⟩
        unfold maxLen at hcv
        obtain ⟨hcv1, hcv2⟩ := hcv
        have HO2 := Lib.hid ho
        have HG2 := Lib.hid hg
        clear ho hg
        by_cases hj20 : j < 20
        · have hd : decide ((j : Int) < 20) = true := by simp; omega
          go_wp2_with (first
            | (at_builtin; refine wpList_append_rd _ rfl (.tmp 20) (.tmp 21) 25 rfl B 5 i0 _ 1 1 Try.underlying25 hi0 hz0 hz1 hz2 rfl (by decide) _ (i + j) _ rfl (HO2.out.alloc _) (some ⟨wo.heap.size, 0, none⟩) 1 1 [.int .u8 99] rfl rfl (Rd.of_owns (own_lit (base := 0) (size := 1) wo _ 1 _ rfl (Nat.zero_le _) (by unfold maxLen; omega) rfl)) (by simp [Value.oneCell']) (by simp only [maxLen]; omega) (by omega) (by have := HG2.out.only.size; simp; omega) ?_; intro v3 w3 ho3 hg3 hat3; have HG3 := Lib.hid ((HG2.out.trans (Grew.alloc _ _)).trans (Grew.of_append hg3 hat3)); obtain ⟨A3, c3, rfl, -, -⟩ := ownsRow_shape ho3; have HO3 := Lib.hid ho3; clear ho3 hg3 hat3))
          go_roundw
          case rel => exact ⟨j + 1, A3, c3, _, rfl, by go_num, by omega, HO3.out, HG3.out⟩
          case measure => simp [intOf]; omega
        · obtain rfl : j = 20 := by omega
          have hd : decide ((20 : Int) < 20) = false := by simp
          go_wp2
          go_ret
          exact ⟨ret_bool (by simp), HG2.out.only⟩
end Go.Proofs.Ytaechgnjdjijkaa
