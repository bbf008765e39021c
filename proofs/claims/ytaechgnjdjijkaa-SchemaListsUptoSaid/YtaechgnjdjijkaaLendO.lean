/- Lists of keys' states, lent with marks: the law's own lent and left. -/
import Derived.Test.YtaechgnjdjijkaaKeysK
import Derived.Test.YtaechgnjdjijkaaSpoilK
namespace Go.Proofs.Ytaechgnjdjijkaa
open Go.RowKit Go.Lib

set_option maxRecDepth 100000 in
set_option maxHeartbeats 1000000 in
theorem LendKeyO_any (k : Kn) (kv : Value) (W : World) (hr : Rk W kv k) (hn : 72 * k.ws.length + 1000 ≤ 140737488355328) :
    Calls Try.prog 21 #[kv] W fun e w' => ∃ A cap, e = .returned (.agg #[.string k.key, .int .i64 k.dr, .slice A k.ws.length cap]) ∧ Below W.heap.size W w' ∧ w'.ownsRow W.heap.size 93 9 (.slice A (k.ws.length + 3) cap) (k.ws.length + 3) (wcells (k.ws ++ wmarks)) := by
  have HCP : Hid (∀ w, Below W.heap.size W w → Calls Try.prog 54 #[kv] w fun e w' => ∃ A cap, e = .returned (.agg #[.string k.key, .int .i64 k.dr, .slice A k.ws.length cap]) ∧ Below w.heap.size w w' ∧ w'.ownsRow w.heap.size 93 9 (.slice A k.ws.length cap) k.ws.length (wcells k.ws)) := Lib.hid fun w hb => CopyKey_any k kv w (hr.below hb) (by omega)
  have HMK := Lib.hid mark_any
  obtain ⟨A, cap, rfl, hrd⟩ := hr
  have hcap : k.ws.length ≤ cap ∧ cap ≤ maxLen := by obtain ⟨_, _, hv, h1, h2, _⟩ := hrd; cases hv; exact ⟨h1, h2⟩
  obtain ⟨iW, hiW, hW0, hW1, hW2⟩ := info_parts winInfo
  obtain ⟨S, D, ws⟩ := k
  simp only at hn HCP hcap ⊢
  obtain ⟨n, hnn⟩ : ∃ n, ws.length = n := ⟨_, rfl⟩
  have HNN := Lib.hid hnn
  rw [hnn] at hn HCP hcap ⊢
  unfold maxLen at hcap
  obtain ⟨hcap1, hcap2⟩ := hcap
  clear hnn hrd
  go_enter Try.func21, Try.ntmps21
  go_wp2_with fail
  refine (HCP.out _ ((below_alloc W _).alloc (by simp) _)).mono ?_
  rintro e w1 ⟨A1, cap1, rfl, hb1, ho1⟩
  have HK1 : Hid (Bk w1 W.heap.size 29 #[.string S, .int .i64 D, .slice A n cap]) := Lib.hid (((Bk.new W _ _).alloc _).below hb1)
  have HZ1 : Hid (Bk w1 (W.heap.size + 1) 29 #[.string ⟨#[]⟩, .int .i64 0, .slice none 0 0]) := Lib.hid ((Bk.new' _ _ _ _ (by simp)).below hb1)
  have HB1 : Hid (Below W.heap.size W w1) := Lib.hid (((below_alloc W _).alloc (by simp) _).trans (hb1.mono (by simp; omega)))
  have HO1 : Hid (w1.ownsRow W.heap.size 93 9 (.slice A1 n cap1) n (wcells ws)) := Lib.hid (own_mono ho1 (by simp; omega))
  have hs1 : W.heap.size + 1 < w1.heap.size := HZ1.out.lt
  obtain ⟨b3, hb3⟩ : ∃ b3, w1.heap.size = b3 := ⟨_, rfl⟩
  have HS3 := Lib.hid hb3
  have HX1 : Hid (Bk (w1.alloc (.cells #[.string S, .int .i64 D, .slice A1 n cap1] 29)) b3 29 #[.string S, .int .i64 D, .slice A1 n cap1]) := Lib.hid (Bk.new' _ _ _ _ hb3)
  rw [hb3] at hs1
  clear hb1 ho1
  go_wp2
  clear hb3
  go_loopw [4] (fun q wr => ∃ (i : Nat) (Av : Option Addr) (cv : Nat), q = .int .i64 i ∧ i ≤ 3 ∧ Bk wr b3 29 #[.string S, .int .i64 D, .slice Av (n + i) cv] ∧ wr.ownsRow W.heap.size 93 9 (.slice Av (n + i) cv) (n + i) (wcells (ws ++ wmarks.take i)) ∧
      Bk wr W.heap.size 29 #[.string S, .int .i64 D, .slice A n cap] ∧ Bk wr (W.heap.size + 1) 29 #[.string ⟨#[]⟩, .int .i64 0, .slice none 0 0] ∧ Below W.heap.size W wr) (fun q _ => 3 - (intOf q).toNat)
  case atStart => exact ⟨0, A1, cap1, rfl, by omega, HX1.out, by simpa using HO1.out.alloc _, HK1.out.alloc _, HZ1.out.alloc _, HB1.out.alloc HB1.out.size _⟩
  case round =>
    clear HCP HX1 HO1 HK1 HZ1 HB1
    obtain ⟨i, Av, cv, rfl, hi, hx, ho, hk, hz, hb⟩ := hrel
    have hcv : n + i ≤ cv ∧ cv ≤ maxLen := by obtain ⟨_, _, hv, h1, h2⟩ := ownsRow_shape ho; cases hv; exact ⟨h1, h2⟩
    unfold maxLen at hcv
    obtain ⟨hcv1, hcv2⟩ := hcv
    have y2 : wr.cell? ⟨b3, 2, none⟩ = some (.slice Av (n + i) cv) := hx.cell 2
    have hxl := hx.lt
    have HX := Lib.hid hx
    have HO := Lib.hid ho
    have HK := Lib.hid hk
    have HZ := Lib.hid hz
    have HB := Lib.hid hb
    clear hx ho hk hz hb
    by_cases hi3 : i < 3
    · have hd : decide ((i : Int) < 3) = true := by simp; omega
      go_wp2
      go_region_law (first
        | (go_simp; go_at_call 55; (with_reducible refine (HMK.out _ _).mono ?_); rintro e w2 ⟨rfl, hb2⟩
           have hb2' : Below wr.heap.size wr w2 := below_trans (below_drew wr) hb2
           have HB2 := Lib.hid hb2'
           have y2' : w2.cell? ⟨b3, 2, none⟩ = some (.slice Av (n + i) cv) := (HX.out.below hb2').cell 2
           have hxl2 := (HX.out.below hb2').lt
           have HO2 := Lib.hid (own_below HO.out hb2')
           clear hb2 hb2')
        | (refine step_append_rd (by rfl) (.tmp 12) (.tmp 15) 27 (by rfl) W.heap.size 93 iW _ 9 72 Try.underlying27 hiW hW0 hW1 hW2 rfl (by decide) _ (n + i) _ (by rfl) (HO2.out.alloc _) (some ⟨w2.heap.size, 0, none⟩) 1 1 [.int .i64 0, .int .i64 0, .int .i64 (-77), .int .i64 0, .int .i64 0, .int .i64 0, .int .i64 0, .int .i64 (i : Int), .int .i64 0] (by rfl) rfl (Rd.of_owns (own_lit (base := 0) (size := 9) w2 _ 1 _ rfl (Nat.zero_le _) (by unfold maxLen; omega) rfl)) (wn_one (wmark i)) (by simp only [maxLen]; omega) (by omega) (by have := HB.out.size; have := HB2.out.size; simp; omega) ?_; intro v3 w3 ho3 hg3
           have hx2 := (HX.out.below HB2.out).alloc (.cells #[.int .i64 0, .int .i64 0, .int .i64 (-77), .int .i64 0, .int .i64 0, .int .i64 0, .int .i64 0, .int .i64 (i : Int), .int .i64 0] 93)
           have hx3 := hx2.grew hg3 (own_bk_ne (HO2.out.alloc _) hx2 (by decide))
           have hk2 := (HK.out.below HB2.out).alloc (.cells #[.int .i64 0, .int .i64 0, .int .i64 (-77), .int .i64 0, .int .i64 0, .int .i64 0, .int .i64 0, .int .i64 (i : Int), .int .i64 0] 93)
           have hz2 := (HZ.out.below HB2.out).alloc (.cells #[.int .i64 0, .int .i64 0, .int .i64 (-77), .int .i64 0, .int .i64 0, .int .i64 0, .int .i64 0, .int .i64 (i : Int), .int .i64 0] 93)
           have HK3 := Lib.hid (hk2.grew hg3 (own_bk_ne (HO2.out.alloc _) hk2 (by decide)))
           have HZ3 := Lib.hid (hz2.grew hg3 (own_bk_ne (HO2.out.alloc _) hz2 (by decide)))
           have hb3 := ((below_trans HB.out HB2.out).alloc (by have := HB.out.size; have := HB2.out.size; omega) (.cells #[.int .i64 0, .int .i64 0, .int .i64 (-77), .int .i64 0, .int .i64 0, .int .i64 0, .int .i64 0, .int .i64 (i : Int), .int .i64 0] 93))
           have HB3 := Lib.hid (hb3.grown hg3.only hb3.size (fun r e => (own_lt HO2.out e).1))
           have HX3 := Lib.hid hx3
           obtain ⟨A3, c3, rfl, -, -⟩ := ownsRow_shape ho3
           have HO3 : Hid (w3.ownsRow W.heap.size 93 9 (.slice A3 (n + (i + 1)) c3) (n + (i + 1)) (wcells (ws ++ wmarks.take (i + 1)))) := Lib.hid (by
             have h := ho3
             rw [marks_take i hi3, ← List.append_assoc, wcells_append]
             exact h)
           have f2 := hx3.frozen 2
           have x2 := hx3.cell 2
           clear ho3 hg3 hx2 hx3 hk2 hz2 hb3))
      all_goals go_wp2
      all_goals go_roundw
      all_goals first
        | (simp [intOf]; omega; done)
        | exact ⟨i + 1, A3, c3, by go_num, by omega, HX3.out.set 2 _, own_set HO3.out HX3.out (by decide) 2 _, HK3.out.far (p := ⟨b3, 2, none⟩) (by show W.heap.size ≠ b3; omega) _, HZ3.out.far (p := ⟨b3, 2, none⟩) (by show W.heap.size + 1 ≠ b3; omega) _, HB3.out.setCell (p := ⟨b3, 2, none⟩) (by show W.heap.size ≤ b3; omega) _⟩
    · obtain rfl : i = 3 := by omega
      have x0 : wr.cell? ⟨b3, 0, none⟩ = some (.string S) := HX.out.cell 0
      have x1 : wr.cell? ⟨b3, 1, none⟩ = some (.int .i64 D) := HX.out.cell 1
      have f2 := HX.out.frozen 2
      have k2 : wr.cell? ⟨W.heap.size, 2, none⟩ = some (.slice A n cap) := HK.out.cell 2
      obtain ⟨g, hA, hgW, hgl, -⟩ := ownsRow_at HO.out (by omega)
      subst hA
      have hrun := run_win_front ⟨g, 0, none⟩ (n + 3) n cv (by omega) (by omega)
      have fz0 := HZ.out.frozen 0
      have fz1 := HZ.out.frozen 1
      have fz2 := HZ.out.frozen 2
      have z0 : wr.cell? ⟨W.heap.size + 1, 0, none⟩ = some (.string ⟨#[]⟩) := HZ.out.cell 0
      have z1 : wr.cell? ⟨W.heap.size + 1, 1, none⟩ = some (.int .i64 0) := HZ.out.cell 1
      have z2 : wr.cell? ⟨W.heap.size + 1, 2, none⟩ = some (.slice none 0 0) := HZ.out.cell 2
      go_wp2
      have hZ0 := HZ.out.far (p := ⟨b3, 2, none⟩) (by show W.heap.size + 1 ≠ b3; omega) (.slice (some ⟨g, 0, none⟩) n cv)
      have hZ3 := ((hZ0.set 0 (.string S)).set 1 (.int .i64 D)).set 2 (.slice (some ⟨g, 0, none⟩) n cv)
      refine bodyPost_ret (results_cell_row Try.results21 _ _ (W.heap.size + 1) 29 _ (0, 0) _ rfl hZ3 Try.underlying29 rfl (by kernel_rfl)) rfl ?_
      have ho4 := own_set (own_set (own_set (own_set HO.out HX.out (by decide) 2 (.slice (some ⟨g, 0, none⟩) n cv)) hZ0 (by decide) 0 (.string S)) (hZ0.set 0 _) (by decide) 1 (.int .i64 D)) ((hZ0.set 0 _).set 1 _) (by decide) 2 (.slice (some ⟨g, 0, none⟩) n cv)
      refine ⟨some ⟨g, 0, none⟩, cv, ?_, ?_, ?_⟩
      · rfl
      · exact (((HB.out.setCell (p := ⟨b3, 2, none⟩) (by show W.heap.size ≤ b3; omega) _).setCell (p := ⟨W.heap.size + 1, 0, none⟩) (by show W.heap.size ≤ W.heap.size + 1; omega) _).setCell (p := ⟨W.heap.size + 1, 1, none⟩) (by show W.heap.size ≤ W.heap.size + 1; omega) _).setCell (p := ⟨W.heap.size + 1, 2, none⟩) (by show W.heap.size ≤ W.heap.size + 1; omega) _
      · exact ho4

theorem own_grew {w w' : World} {B : Nat} {e : TypeId} {s n : Nat} {v : Value} {xs : List Value} {row : Option Nat} (h : w.ownsRow B e s v n xs) (hg : w.grownBy w' row) (hr : ∀ r, row = some r → v.ownBlock ≠ some r) : w'.ownsRow B e s v n xs :=
  own_heap h fun r hv => hg.block r (h.lt r hv).2 (fun e => hr r e.symm hv)
theorem own_far {w w1 : World} {B1 B2 : Nat} {e e1 : TypeId} {s s1 n n1 : Nat} {v v1 : Value} {xs xs1 : List Value} (h1 : w1.ownsRow B1 e1 s1 v1 n1 xs1) (h : w.ownsRow B2 e s v n xs) (hB : w1.heap.size ≤ B2) : ∀ r, v1.ownBlock = some r → v.ownBlock ≠ some r := fun r hr hv => by
  have := (h1.lt r hr).2
  have := (h.lt r hv).1
  omega
/-- The state that stands behind the list. -/
def roomK : List Value := [.string ⟨#[114, 111, 111, 109]⟩, .int .i64 (-77), .slice none 0 0]
/-- A key's state with marks behind its windows, of new memory. -/
def Km.Lko (w : World) (B : Nat) (x : Km) : Prop := w.ownsRow B 93 9 (.slice x.A (x.k.ws.length + 3) x.cap) (x.k.ws.length + 3) (wcells (x.k.ws ++ wmarks))
theorem Km.Lko.lk {w : World} {B : Nat} {x : Km} (h : x.Lko w B) : Lk w x.val x.k := ⟨x.A, x.cap, rfl, Rd.of_owns h⟩
theorem Km.Lko.ok {w : World} {B : Nat} {x : Km} (h : x.Lko w B) : x.Ok w := by
  obtain ⟨A', c', hv, h1⟩ := h.lk.rk
  cases hv
  exact h1
structure Lks (w : World) (B : Nat) (A : Option Addr) (n cap : Nat) (M : List Km) : Prop where
  row : w.ownsRow B 29 3 (.slice A (n + 1) cap) (n + 1) (kcells M ++ roomK)
  len : M.length = n
  each : ∀ x ∈ M, x.Lko w B
theorem Lks.below {w w' : World} {B : Nat} {A : Option Addr} {n cap : Nat} {M : List Km} (h : Lks w B A n cap M) (hb : Below w.heap.size w w') : Lks w' B A n cap M :=
  ⟨own_below h.row hb, h.len, fun x hx => own_below (h.each x hx) hb⟩
theorem Lks.rks {w : World} {B : Nat} {A : Option Addr} {n cap : Nat} {M : List Km} (h : Lks w B A n cap M) : Rks w (.slice A n cap) n M := by
  refine ⟨?_, h.len, fun x hx => (h.each x hx).ok⟩
  obtain ⟨A', c', he, h1, h2, h3⟩ := Rd.of_owns h.row
  cases he
  refine ⟨A, cap, rfl, by omega, h2, fun _ => ?_⟩
  obtain ⟨g, off, ha, hg, hc⟩ := h3 (by omega)
  refine ⟨g, off, ha, hg, fun j u hj => hc j u ?_⟩
  rw [List.getElem?_append_left (List.getElem?_eq_some_iff.1 hj).1]
  exact hj
theorem keySl : Try.prog.underlying 43 = some (.slice (Try.prog.elem 43)) := by kernel_rfl
theorem keySz (W : World) : (sizeOf (Try.prog.elem 43)).run Try.prog W = .ok 3 W := by kernel_rfl
theorem run_key_front (ad : Addr) (m z cap : Nat) (hz : z ≤ cap) (hc : 0 < cap) : ∀ W : World, (Instr.sliceAt 43 (.slice (some ad) m cap) none (some (.int .i64 (z : Int))) none).run Try.prog W = .ok (.slice (some ad) z cap) W := by
  intro W
  rw [run_sliceAt_slice _ _ _ _ _ _ keySl, run_slice_h _ _ _ _ _ keySl _ _ (by omega) (by omega)]
  simp only [Int.toNat_natCast, keySz, Result.andThen_ok]
  unfold sliced
  rw [if_neg (by omega)]
  simp [Addr.add]
set_option maxRecDepth 100000 in
set_option maxHeartbeats 2000000 in
theorem lent_any (A : Option Addr) (n cap : Nat) (L : List Km) (W : World) (hr : Rks W (.slice A n cap) n L) (hn : 48 * (n + 1) ≤ 140737488355328) (hw : ∀ x ∈ L, 72 * x.k.ws.length + 1000 ≤ 140737488355328) :
    Calls Try.prog 26 #[.slice A n cap] W fun e w' => ∃ A' cap' M, e = .returned (.slice A' n cap') ∧ Below W.heap.size W w' ∧ M.map Km.k = L.map Km.k ∧ Lks w' W.heap.size A' n cap' M := by
  obtain ⟨iK, hiK, hK0, hK1, hK2⟩ := info_parts keyInfo
  have hcap : n ≤ cap ∧ cap ≤ maxLen := by obtain ⟨_, _, hv, h1, h2, _⟩ := hr.rd; cases hv; exact ⟨h1, h2⟩
  unfold maxLen at hcap
  obtain ⟨hcap1, hcap2⟩ := hcap
  have HR := Lib.hid hr
  have HW := Lib.hid hw
  clear hr hw
  go_enter Try.func26, Try.ntmps26
  go_wp2
  go_loopw [3, 4] (fun mv iv wr => ∃ (i : Nat) (M : List Km) (Av : Option Addr) (cv : Nat), iv = .int .i64 (i : Int) ∧ mv = .slice Av i cv ∧ i ≤ n ∧ M.length = i ∧ M.map Km.k = (L.take i).map Km.k ∧ wr.ownsRow W.heap.size 29 3 (.slice Av i cv) i (kcells M) ∧ (∀ x ∈ M, x.Lko wr W.heap.size) ∧ Below W.heap.size W wr) (fun _ iv _ => n - (intOf iv).toNat)
  case atStart => exact ⟨0, [], none, 0, rfl, rfl, Nat.zero_le _, rfl, by simp, World.ownsRow_nil _ _ _ _, by simp, Below.refl _ _⟩
  case round =>
    obtain ⟨i, M, Av, cv, rfl, rfl, hi, hM, hMk, ho, he, hb⟩ := hrel
    have HM := Lib.hid hM
    have HMK := Lib.hid hMk
    have HO := Lib.hid ho
    have HE := Lib.hid he
    have HB := Lib.hid hb
    have hcv : i ≤ cv ∧ cv ≤ maxLen := by obtain ⟨_, _, hv, h1, h2⟩ := ownsRow_shape ho; cases hv; exact ⟨h1, h2⟩
    unfold maxLen at hcv
    obtain ⟨hcv1, hcv2⟩ := hcv
    by_cases hin : i < n
    · obtain ⟨x, hx⟩ : ∃ x, L[i]? = some x := ⟨_, List.getElem?_eq_getElem (by rw [HR.out.len]; exact hin)⟩
      have hxm := List.mem_of_getElem? hx
      obtain ⟨g, off, rfl, -, z0, z1, z2⟩ := rks_at (HR.out.below hb) hx
      have HLK := Lib.hid (LendKeyO_any x.k x.val wr ((HR.out.below hb).ok x hxm).rk (HW.out x hxm))
      have HTX : Hid ((L.take (i + 1)).map Km.k = (L.take i).map Km.k ++ [x.k]) := Lib.hid (by rw [List.take_add_one, hx]; simp)
      obtain ⟨⟨S, D, ws⟩, Ax, cx⟩ := x
      unfold Km.val at HLK
      simp only at HLK z0 z1 z2 HTX
      have hin2 : decide (i < n) = true := by simpa using hin
      have hi0 : (0 : Int) ≤ (i : Int) := by omega
      have hi1 : (i : Int) < (n : Int) := by omega
      clear hM hMk ho he hb hx hxm
      obtain ⟨nx, hnx⟩ : ∃ nx, ws.length = nx := ⟨_, rfl⟩
      have HNX := Lib.hid hnx
      rw [hnx] at HLK z2
      clear hnx
      go_wp2_with fail
      refine HLK.out.mono ?_
      rintro e w1 ⟨A1, c1, rfl, hb1, ho1⟩
      have HB1 := Lib.hid hb1
      have HO1 := Lib.hid ho1
      clear hb1 ho1 z0 z1 z2
      have HOA : Hid ((w1.alloc (.cells #[.string S, .int .i64 D, .slice A1 nx c1] 29)).ownsRow W.heap.size 29 3 (.slice Av i cv) i (kcells M)) := Lib.hid ((own_below HO.out HB1.out).alloc _)
      have HBA : Hid (Below W.heap.size W (w1.alloc (.cells #[.string S, .int .i64 D, .slice A1 nx c1] 29))) := Lib.hid (below_trans (below_trans HB.out HB1.out) (below_alloc _ _))
      go_wp2_with (at_builtin; refine wpList_append_rd _ rfl (.tmp 11) (.tmp 17) 43 rfl W.heap.size 29 iK _ 3 48 Try.underlying43 hiK hK0 hK1 hK2 rfl (by decide) _ i _ rfl HOA.out (some ⟨w1.heap.size, 0, none⟩) 1 1 [.string S, .int .i64 D, .slice A1 nx c1] rfl rfl (Rd.of_owns (own_lit (base := 0) (size := 3) w1 _ 1 _ rfl (Nat.zero_le _) (by unfold maxLen; omega) rfl)) (by simp [Value.oneCell']) (by simp only [maxLen]; omega) (by omega) HBA.out.size ?_; intro v3 w3 ho3 hg3 hat3; have HB3 := Lib.hid (HBA.out.grown hg3 HBA.out.size (fun r e => (own_lt HOA.out e).1)); have HG3 := Lib.hid hg3; obtain ⟨A3, c3, rfl, -, -⟩ := ownsRow_shape ho3; have HO3 := Lib.hid ho3; clear ho3 hg3 hat3)
      go_roundw
      case rel =>
        have hkeep : ∀ (y : Km), y.Lko (w1.alloc (.cells #[.string S, .int .i64 D, .slice A1 nx c1] 29)) W.heap.size → y.Lko w3 W.heap.size := fun y hy =>
          World.ownsRow.kept hy HG3.out (own_own_ne hy HOA.out (by decide))
        refine ⟨i + 1, M ++ [⟨⟨S, D, ws⟩, A1, c1⟩], A3, c3, by go_num, rfl, by omega, by rw [List.length_append, HM.out]; rfl, by rw [HTX.out, List.map_append, HMK.out]; rfl, ?_, ?_, HB3.out⟩
        · rw [kcells_append]
          have h2 : kcells [⟨⟨S, D, ws⟩, A1, c1⟩] = [.string S, .int .i64 D, .slice A1 nx c1] := by show [Value.string S, .int .i64 D, .slice A1 ws.length c1] = _; rw [HNX.out]
          rw [h2]
          exact HO3.out
        · intro y hy
          rcases List.mem_append.1 hy with h | h
          · exact hkeep y ((own_below (HE.out y h) HB1.out).alloc _)
          · simp only [List.mem_singleton] at h
            subst h
            refine hkeep _ ?_
            show World.ownsRow _ W.heap.size 93 9 (.slice A1 (ws.length + 3) c1) (ws.length + 3) (wcells (ws ++ wmarks))
            rw [HNX.out]
            exact (own_mono HO1.out HB.out.size).alloc _
      case measure => simp [intOf]; omega
    · obtain rfl : i = n := by omega
      have HMM : Hid (M.map Km.k = L.map Km.k) := Lib.hid (by rw [hMk, List.take_of_length_le (by rw [HR.out.len]; omega)])
      have hin2 : decide (i < i) = false := by simp
      clear hM hMk ho he hb
      have HOA : Hid ((wr.alloc (.cells #[.string ⟨#[114, 111, 111, 109]⟩, .int .i64 (-77), .slice none 0 0] 29)).ownsRow W.heap.size 29 3 (.slice Av i cv) i (kcells M)) := Lib.hid (HO.out.alloc _)
      have HBA : Hid (Below W.heap.size W (wr.alloc (.cells #[.string ⟨#[114, 111, 111, 109]⟩, .int .i64 (-77), .slice none 0 0] 29))) := Lib.hid (below_trans HB.out (below_alloc _ _))
      go_wp2_with (at_builtin; refine wpList_append_rd _ rfl (.tmp 19) (.tmp 21) 43 rfl W.heap.size 29 iK _ 3 48 Try.underlying43 hiK hK0 hK1 hK2 rfl (by decide) _ i _ rfl HOA.out (some ⟨wr.heap.size, 0, none⟩) 1 1 roomK rfl rfl (Rd.of_owns (own_lit (base := 0) (size := 3) wr _ 1 _ rfl (Nat.zero_le _) (by unfold maxLen; omega) rfl)) (by simp [Value.oneCell', roomK]) (by simp only [maxLen]; omega) (by omega) HBA.out.size ?_; intro v3 w3 ho3 hg3 hat3; have HB3 := Lib.hid (HBA.out.grown hg3 HBA.out.size (fun r e => (own_lt HOA.out e).1)); have HG3 := Lib.hid hg3; obtain ⟨A3, c3, rfl, hc31, hc32⟩ := ownsRow_shape ho3; have HO3 := Lib.hid ho3; obtain ⟨g3, rfl, -⟩ := ownsRow_at ho3 (by omega); have hrun := run_key_front ⟨g3, 0, none⟩ (i + 1) i c3 (by omega) (by omega); unfold maxLen at hc32; clear ho3 hg3 hat3)
      go_ret
      refine ⟨_, _, M, rfl, HB3.out, HMM.out, HO3.out, HM.out, fun y hy => ?_⟩
      exact World.ownsRow.kept ((HE.out y hy).alloc _) HG3.out (own_own_ne ((HE.out y hy).alloc (.cells #[.string ⟨#[114, 111, 111, 109]⟩, .int .i64 (-77), .slice none 0 0] 29)) HOA.out (by decide))
set_option maxRecDepth 100000 in
set_option maxHeartbeats 2000000 in
theorem left_any (A1 A2 : Option Addr) (c1 c2 n B : Nat) (M L : List Km) (w : World) (h1 : Lks w B A1 n c1 M) (h2 : Rks w (.slice A2 n c2) n L) (hML : M.map Km.k = L.map Km.k) :
    Calls Try.prog 29 #[.slice A1 n c1, .slice A2 n c2] w fun e w' => e = .returned (.bool true) ∧ Below w.heap.size w w' := by
  have hc1 : n + 1 ≤ c1 ∧ c1 ≤ maxLen := by obtain ⟨_, _, hv, h1, h2⟩ := ownsRow_shape h1.row; cases hv; exact ⟨h1, h2⟩
  have hc2 : n ≤ c2 ∧ c2 ≤ maxLen := by obtain ⟨_, _, hv, h1, h2, _⟩ := h2.rd; cases hv; exact ⟨h1, h2⟩
  unfold maxLen at hc1 hc2
  obtain ⟨hc11, hc12⟩ := hc1
  obtain ⟨hc21, hc22⟩ := hc2
  have H1 := Lib.hid h1
  have H2 := Lib.hid h2
  have HML := Lib.hid hML
  obtain ⟨g1, rfl, -, -, -, -, hcl, -⟩ := ownsRow_at h1.row (by omega)
  have HZ : Hid (w.cell? ⟨g1, n * 3 + 1, none⟩ = some (.int .i64 (-77))) := Lib.hid (hcl (n * 3 + 1) _ (by
    rw [List.getElem?_append_right (by rw [kcells_length, h1.len]; omega), kcells_length, h1.len, Nat.add_sub_cancel_left]
    rfl))
  have hrun := run_key_front ⟨g1, 0, none⟩ n (n + 1) c1 (by omega) (by omega)
  have hcast : ((n + 1 : Nat) : Int) = (n : Int) + 1 := by omega
  rw [hcast] at hrun
  have hgl : g1 < w.heap.size := by obtain ⟨g', hA, -, h, -⟩ := ownsRow_at h1.row (by omega); cases hA; exact h
  clear h1 h2 hML hcl hcast
  go_enter Try.func29, Try.ntmps29
  go_wp2
  go_loopw [5] (fun q wr => ∃ i : Nat, q = .int .i64 i ∧ i ≤ n ∧ Below w.heap.size w wr) (fun q _ => n - (intOf q).toNat)
  case atStart => exact ⟨0, rfl, Nat.zero_le _, Below.refl _ _⟩
  case round =>
    obtain ⟨i, rfl, hi, hb⟩ := hrel
    have HB := Lib.hid hb
    by_cases hin : i < n
    · obtain ⟨x, hx⟩ : ∃ x, M[i]? = some x := ⟨_, List.getElem?_eq_getElem (by rw [H1.out.len]; exact hin)⟩
      obtain ⟨y, hy⟩ : ∃ y, L[i]? = some y := ⟨_, List.getElem?_eq_getElem (by rw [H2.out.len]; exact hin)⟩
      have hxy : x.k = y.k := by
        have h3 := congrArg (·[i]?) HML.out
        simpa only [List.getElem?_map, hx, hy, Option.map_some, Option.some.injEq] using h3
      have HKE : Hid (∀ w2, Below wr.heap.size wr w2 → Calls Try.prog 24 #[.agg #[.string x.k.key, .int .i64 x.k.dr, .slice x.A x.k.ws.length x.cap], .agg #[.string y.k.key, .int .i64 y.k.dr, .slice y.A y.k.ws.length y.cap]] w2 fun e w' => e = .returned (.bool true) ∧ Below w2.heap.size w2 w') := Lib.hid fun w2 hb2 =>
        KeptKey_any x.k _ _ w2 ((H1.out.below (below_trans hb hb2)).each x (List.mem_of_getElem? hx)).lk (by rw [hxy]; exact ((H2.out.below (below_trans hb hb2)).ok y (List.mem_of_getElem? hy)).rk)
      have HST : Hid (∀ w2, Below wr.heap.size wr w2 → ∃ g2 o2, A2 = some ⟨g2, o2, none⟩) := Lib.hid fun w2 hb2 => by
        obtain ⟨g2, o2, hA2, -⟩ := rks_at (H2.out.below (below_trans hb hb2)) hy
        exact ⟨g2, o2, hA2⟩
      obtain ⟨g2, o2, rfl⟩ := HST.out wr (Below.refl _ _)
      have HFA : Hid (∀ w2, Below wr.heap.size wr w2 → (w2.cell? ⟨g1, i * 3, none⟩ = some (.string x.k.key) ∧ w2.cell? ⟨g1, i * 3 + 1, none⟩ = some (.int .i64 x.k.dr) ∧ w2.cell? ⟨g1, i * 3 + 2, none⟩ = some (.slice x.A x.k.ws.length x.cap)) ∧ (w2.cell? ⟨g2, o2 + i * 3, none⟩ = some (.string y.k.key) ∧ w2.cell? ⟨g2, o2 + i * 3 + 1, none⟩ = some (.int .i64 y.k.dr) ∧ w2.cell? ⟨g2, o2 + i * 3 + 2, none⟩ = some (.slice y.A y.k.ws.length y.cap))) := Lib.hid fun w2 hb2 => by
        obtain ⟨p1, q1, hA1, -, h11, h12, h13⟩ := rks_at (H1.out.below (below_trans hb hb2)).rks hx
        obtain ⟨p2, q2, hA2, -, h21, h22, h23⟩ := rks_at (H2.out.below (below_trans hb hb2)) hy
        cases hA1
        cases hA2
        simp only [Nat.zero_add] at h11 h12 h13
        exact ⟨⟨h11, h12, h13⟩, h21, h22, h23⟩
      obtain ⟨⟨S, D, ws⟩, Ax, cx⟩ := x
      obtain ⟨⟨S2, D2, ws2⟩, Ay, cy⟩ := y
      simp only at HKE HFA
      obtain ⟨nx, hnx⟩ : ∃ nx, ws.length = nx := ⟨_, rfl⟩
      obtain ⟨ny, hny⟩ : ∃ ny, ws2.length = ny := ⟨_, rfl⟩
      rw [hnx, hny] at HKE HFA
      have hin2 : decide (i < n) = true := by simpa using hin
      have hi0 : (0 : Int) ≤ (i : Int) := by omega
      have hi1 : (i : Int) < (n : Int) := by omega
      clear hb hx hy HST hnx hny hxy hrun
      go_wp2
      go_region_held3 (fun w2 => (w2.cell? ⟨g1, i * 3, none⟩ = some (.string S) ∧ w2.cell? ⟨g1, i * 3 + 1, none⟩ = some (.int .i64 D) ∧ w2.cell? ⟨g1, i * 3 + 2, none⟩ = some (.slice Ax nx cx)) ∧ (w2.cell? ⟨g2, o2 + i * 3, none⟩ = some (.string S2) ∧ w2.cell? ⟨g2, o2 + i * 3 + 1, none⟩ = some (.int .i64 D2) ∧ w2.cell? ⟨g2, o2 + i * 3 + 2, none⟩ = some (.slice Ay ny cy)))
        (first
          | exact HFA.out _ (below_drew wr)
          | exact HFA.out _ HB2.out)
        ((first
          | (go_at_call 24; (with_reducible refine (HKE.out _ (below_drew wr)).mono ?_); rintro e w2 ⟨rfl, hb2⟩; have HB2 := Lib.hid (below_trans (below_drew wr) hb2); clear hb2)))
      go_wp2
      go_roundw
      case rel => exact ⟨i + 1, by go_num, by omega, below_trans HB.out HB2.out⟩
      case measure => simp [intOf]; omega
    · obtain rfl : i = n := by omega
      have hin2 : decide (i < i) = false := by simp
      have zz : wr.cell? ⟨g1, i * 3 + 1, none⟩ = some (.int .i64 (-77)) := (hb.cell (p := ⟨g1, i * 3 + 1, none⟩) hgl).trans HZ.out
      have hi0 : (0 : Int) ≤ (i : Int) := by omega
      have hi1 : (i : Int) < (i : Int) + 1 := by omega
      have hi2 : i < i + 1 := by omega
      clear hb
      go_wp2
      go_ret
      exact ⟨ret_bool (by simp), HB.out⟩
end Go.Proofs.Ytaechgnjdjijkaa
