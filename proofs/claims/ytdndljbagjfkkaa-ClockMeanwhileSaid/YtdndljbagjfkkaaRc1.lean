/- The document's clock in memory; what it tells. -/
import Derived.Test.YtdndljbagjfkkaaRp
import Derived.Lib.MinMax
import Derived.Clock
import Derived.Deep.QuietTactic
import Derived.BigQuiet
namespace Go.Proofs.Ytdndljbagjfkkaa
open Go.RowKit Go.Lib

structure RcS (w : World) (X : Nat → Prop) (c : Nat) (L : List Int) (H : List Hd) (lv hv : Value) : Prop where
  bk : Bk w c 50 #[lv, hv]
  xc : X c
  lr : w.ownsRow 0 2 1 lv L.length (ic L)
  xm : ∀ r, lv.ownBlock = some r → X r
  hr : w.ownsRow 0 52 2 hv H.length (hdc H)
  xh : ∀ r, hv.ownBlock = some r → X r
  ln : 0 < L.length
  lm : L.length ≤ 64
  xl : ∀ k, X k → k < w.heap.size
/-- The document's clock c: marks L, holds H; its blocks lie within X. -/
def Rc (w : World) (X : Nat → Prop) (c : Nat) (L : List Int) (H : List Hd) : Prop := ∃ lv hv, RcS w X c L H lv hv
section
variable {w w' : World} {X Y : Nat → Prop} {c : Nat} {L : List Int} {H : List Hd} {lv hv : Value}
theorem RcS.keep (h : RcS w X c L H lv hv) (ho : Only Y w w') (hd : ∀ k, X k → ¬ Y k) : RcS w' X c L H lv hv :=
  ⟨h.bk.only ho (hd _ h.xc), h.xc, own_only h.lr ho fun r e => hd _ (h.xm r e), h.xm, own_only h.hr ho fun r e => hd _ (h.xh r e), h.xh, h.ln, h.lm, fun k hk => Nat.lt_of_lt_of_le (h.xl k hk) ho.size⟩
theorem Rc.keep (h : Rc w X c L H) (ho : Only Y w w') (hd : ∀ k, X k → ¬ Y k) : Rc w' X c L H := by
  obtain ⟨lv, hv, h⟩ := h
  exact ⟨lv, hv, h.keep ho hd⟩
theorem Rc.below (h : Rc w X c L H) (hb : Below w.heap.size w w') : Rc w' X c L H := h.keep (Only.of_below (X := fun _ => False) hb) fun _ _ h => h
theorem Rc.xl (h : Rc w X c L H) : ∀ k, X k → k < w.heap.size := by
  obtain ⟨_, _, h⟩ := h
  exact h.xl
theorem Rc.wide (h : Rc w X c L H) (hy : ∀ k, X k → Y k) (hlt : ∀ k, Y k → k < w.heap.size) : Rc w Y c L H := by
  obtain ⟨lv, hv, h⟩ := h
  exact ⟨lv, hv, h.bk, hy _ h.xc, h.lr, fun r e => hy _ (h.xm r e), h.hr, fun r e => hy _ (h.xh r e), h.ln, h.lm, hlt⟩
theorem Rc.len (h : Rc w X c L H) : 0 < L.length ∧ L.length ≤ 64 := by
  obtain ⟨_, _, h⟩ := h
  exact ⟨h.ln, h.lm⟩
/-- Its cells, to be read. -/
theorem Rc.reads (h : Rc w X c L H) : ∃ q cl hv, w.cell? ⟨c, 0, none⟩ = some (.slice (some ⟨q, 0, none⟩) L.length cl) ∧ (∀ k x, L[k]? = some x → w.cell? ⟨q, k, none⟩ = some (.int .i64 x)) ∧ w.cell? ⟨c, 1, none⟩ = some hv ∧ Rd w hv H.length (hdc H) ∧ w.ownsRow 0 2 1 (.slice (some ⟨q, 0, none⟩) L.length cl) L.length (ic L) := by
  obtain ⟨lv, hv, h⟩ := h
  obtain ⟨A, cap, rfl, _, _⟩ := ownsRow_shape h.lr
  obtain ⟨q, rfl, _, _, _, _, hcell, _⟩ := ownsRow_at h.lr h.ln
  exact ⟨q, cap, hv, h.bk.cell 0, fun k x hx => hcell k _ (ic_at hx), h.bk.cell 1, Rd.of_owns h.hr, h.lr⟩
end
section
variable {w : World} {X : Nat → Prop} {c : Nat} {L : List Int} {H : List Hd}
theorem rtime_any (t : Int) (w : World) : Calls Try.prog 41 #[.int .i64 t] w fun e w' => e = .returned (.bool (isTime t)) ∧ w = w' := by
  by_cases h1 : -4611686018427387904 ≤ t
  · obtain ⟨d2, hd2⟩ : ∃ d2, decide (t ≤ 4611686018427387904) = d2 := ⟨_, rfl⟩
    have HR : Hid (d2 = isTime t) := by show _ = _; unfold isTime; rw [hd2]; simp [h1]
    have d1 : decide (-4611686018427387904 ≤ t) = true := by simpa using h1
    generalize isTime t = R at *
    go_enter Try.func41, Try.ntmps41
    go_wp2
    go_ret
    exact ⟨ret_bool HR.out, rfl⟩
  · have HR : Hid (false = isTime t) := by show _ = _; unfold isTime; simp; omega
    have d1 : decide (-4611686018427387904 ≤ t) = false := by simpa using h1
    generalize isTime t = R at *
    go_enter Try.func41, Try.ntmps41
    go_wp2
    go_ret
    exact ⟨ret_bool HR.out, rfl⟩
set_option maxRecDepth 100000 in
theorem rMark_any (h : Rc w X c L H) : Calls Try.prog 49 #[.pointer (some ⟨c, 0, none⟩)] w fun e w' => e = .returned (.int .i64 (mnL L)) ∧ w = w' := by
  obtain ⟨q, cl, hv, c0, cm, -, -, ho⟩ := h.reads
  obtain ⟨hl0, hl1⟩ := h.len
  obtain ⟨_, _, e, _, hcm⟩ := ownsRow_shape ho
  cases e
  clear h ho
  obtain ⟨x0, h0⟩ : ∃ x, L[0]? = some x := ⟨_, List.getElem?_eq_getElem hl0⟩
  have hm1 : mnL (L.take 1) = x0 := by
    obtain ⟨a, r, rfl⟩ : ∃ a r, L = a :: r := by cases L with | nil => simp at hl0 | cons a r => exact ⟨a, r, rfl⟩
    simp at h0
    simp [mnL, h0]
  have z0 := cm 0 _ h0
  have HC := Lib.hid cm
  have HS : Hid (∀ k x, L[k]? = some x → mnL (L.take (k + 1 - 1 + 1)) = min (mnL (L.take (k - 1 + 1))) x) := fun k x hx => by
    by_cases hk : k = 0
    · subst hk
      rw [h0] at hx; cases hx
      show mnL (L.take 1) = min (mnL (L.take 1)) x0
      rw [hm1]; simp
    · rw [show k + 1 - 1 + 1 = k + 1 by omega, show k - 1 + 1 = k by omega]
      exact mnL_take (by omega) hx
  have H1 := Lib.hid hm1
  obtain ⟨m, hm⟩ : ∃ m, L.length = m := ⟨_, rfl⟩
  have HF : Hid (mnL (L.take (m - 1 + 1)) = mnL L) := by
    show _ = _
    rw [show m - 1 + 1 = m by omega, ← hm, List.take_length]
  have HX : Hid (∀ k, k < m → ∃ x, L[k]? = some x) := fun k hk => ⟨_, List.getElem?_eq_getElem (by omega)⟩
  rw [hm] at c0 hl0 hl1
  clear cm hm1 h0 hm
  have hi0 : (0 : Int) < (m : Int) := by omega
  go_enter Try.func49, Try.ntmps49
  go_wp2
  go_loop [3, 4] (fun mv iv => ∃ k : Nat, k ≤ m ∧ iv = .int .i64 k ∧ mv = .int .i64 (mnL (L.take (k - 1 + 1)))) (fun _ iv => m - (intOf iv).toNat)
  case atStart => exact ⟨0, Nat.zero_le _, rfl, by rw [H1.out]⟩
  case round =>
    obtain ⟨k, hk, rfl, rfl⟩ := hrel
    by_cases hkm : k < m
    · obtain ⟨x, hlx⟩ := HX.out k hkm
      have zk := HC.out k x hlx
      have HS1 := Lib.hid (HS.out k x hlx)
      clear hlx z0
      generalize mnL (L.take (k - 1 + 1)) = M at *
      go_wp2
      go_round
      case rel => exact ⟨k + 1, by omega, by go_num, by rw [HS1.out]⟩
      case measure => simp [intOf]; omega
    · obtain rfl : k = m := by omega
      go_wp2
      go_ret
      exact ⟨ret_int HF.out, rfl⟩
set_option maxRecDepth 100000 in
theorem rMarks_any (h : Rc w X c L H) : Calls Try.prog 52 #[.pointer (some ⟨c, 0, none⟩)] w fun e w' => (∃ A cap, e = .returned (.slice A L.length cap) ∧ Rd w (.slice A L.length cap) L.length (ic L)) ∧ w = w' := by
  obtain ⟨q, cl, hv, c0, -, -, -, ho⟩ := h.reads
  have HR := Lib.hid (Rd.of_owns ho)
  clear h ho
  go_enter Try.func52, Try.ntmps52
  go_wp2
  go_ret
  exact ⟨⟨_, _, rfl, HR.out⟩, rfl⟩
set_option maxRecDepth 100000 in
theorem rLen_any (h : Rc w X c L H) : Calls Try.prog 50 #[.pointer (some ⟨c, 0, none⟩)] w fun e w' => e = .returned (.int .i64 (H.length : Int)) ∧ w = w' := by
  obtain ⟨q, cl, hv, -, -, c1, hr, -⟩ := h.reads
  obtain ⟨A, cap, rfl, -, -, -⟩ := hr
  clear h
  go_enter Try.func50, Try.ntmps50
  go_wp2
  go_ret
  exact ⟨rfl, rfl⟩
/-- The holds' cells, to be read. -/
theorem Rc.holds (h : Rc w X c L H) : ∃ A cap, w.cell? ⟨c, 1, none⟩ = some (.slice A H.length cap) ∧ H.length ≤ 9223372036854775807 ∧ (0 < H.length → ∃ g, A = some ⟨g, 0, none⟩ ∧ ∀ k x, H[k]? = some x → w.cell? ⟨g, k * 2, none⟩ = some (.string x.name) ∧ w.cell? ⟨g, k * 2 + 1, none⟩ = some (.int .i64 x.tm)) ∧ w.ownsRow 0 52 2 (.slice A H.length cap) H.length (hdc H) := by
  obtain ⟨lv, hv, h⟩ := h
  obtain ⟨A, cap, rfl, h1, h2⟩ := ownsRow_shape h.hr
  unfold maxLen at h2
  refine ⟨A, cap, h.bk.cell 1, by omega, fun h0 => ?_, h.hr⟩
  obtain ⟨g, rfl, _, _, _, _, hcell, _⟩ := ownsRow_at h.hr h0
  exact ⟨g, rfl, fun k x hx => ⟨hcell _ _ (hdc_at hx).1, hcell _ _ (hdc_at hx).2⟩⟩
set_option maxRecDepth 100000 in
set_option maxHeartbeats 1000000 in
theorem place_any (h : Rc w X c L H) (s : ByteArray) : Calls Try.prog 43 #[.pointer (some ⟨c, 0, none⟩), .string s] w fun e w' => e = .returned (.tuple #[.int .i64 (plc H s : Int), .bool (hasN H s)]) ∧ Below w.heap.size w w' := by
  obtain ⟨A, cap, c1, hm, hx, -⟩ := h.holds
  have HX := Lib.hid hx
  have HP := Lib.hid (plc_at H s)
  have HL := Lib.hid (plc_le H s)
  have HN : Hid (hasN H s = H[plc H s]?.any fun h => decide (h.name = s)) := rfl
  clear h hx
  generalize hasN H s = N at *
  generalize plc H s = P at *
  obtain ⟨m, hme⟩ : ∃ m, H.length = m := ⟨_, rfl⟩
  have HG : Hid (∀ k, k < m → ∃ x, H[k]? = some x) := fun k hk => ⟨_, List.getElem?_eq_getElem (by omega)⟩
  have HM := Lib.hid hme
  rw [hme] at c1 hm HX HL
  clear hme
  go_enter Try.func43, Try.ntmps43
  go_wp2
  go_loop [6] (fun iv => ∃ k : Nat, iv = .int .i64 k ∧ k ≤ P) (fun iv => P - (intOf iv).toNat)
  case atStart => exact ⟨0, rfl, Nat.zero_le _⟩
  case round =>
    obtain ⟨k, rfl, hk⟩ := hrel
    have hPm := HL.out
    by_cases hkP : k < P
    · obtain ⟨x, hx⟩ := HG.out k (by omega)
      obtain ⟨g, rfl, hc⟩ := HX.out (by omega)
      have z0 := (hc k x hx).1
      have hs : Op.bytesLess x.name.toList s.toList = true := (HP.out k x hx).1 hkP
      have hkm : (k : Int) < (m : Int) := by omega
      clear hx hc
      go_wp2
      go_round
      case rel => exact ⟨k + 1, by go_num, by omega⟩
      case measure => simp [intOf]; omega
    · obtain rfl : k = P := by omega
      by_cases hkm : k < m
      · obtain ⟨x, hx⟩ := HG.out k (by omega)
        obtain ⟨g, rfl, hc⟩ := HX.out (by omega)
        have z0 := (hc k x hx).1
        have hs : Op.bytesLess x.name.toList s.toList = false := (HP.out k x hx).2 rfl
        have hki : (k : Int) < (m : Int) := by omega
        have HN2 : Hid (N = decide (x.name = s)) := by show _ = _; rw [HN.out, hx]; rfl
        clear hx hc
        by_cases he : x.name = s
        · obtain rfl : N = true := by rw [HN2.out, he]; simp
          obtain ⟨u, hu⟩ : ∃ u, x.name = u := ⟨_, rfl⟩
          rw [hu] at he z0 hs
          subst he
          clear HN2 hu
          go_wp2
          go_quiet (fail)
          go_wp2
          go_ret2
          exact ⟨rfl, below_drewN (Below.refl _ _) _⟩
        · obtain rfl : N = false := by rw [HN2.out]; simpa using he
          have he1 : decide (x.name = s) = false := by simpa using he
          have he2 : (x.name.toList == s.toList) = false := by
            rcases hb : x.name.toList == s.toList with _ | _
            · rfl
            · exact absurd (toList_inj (by simpa using hb)) he
          clear HN2 he
          go_wp2
          go_quiet (fail)
          go_wp2
          go_ret2
          exact ⟨rfl, below_drewN (Below.refl _ _) _⟩
      · obtain rfl : k = m := by omega
        obtain rfl : N = false := by rw [HN.out, List.getElem?_eq_none (by rw [HM.out]; exact Nat.le_refl _)]; rfl
        have d1 : decide (k < k) = false := by simp
        go_wp2
        go_quiet (fail)
        go_wp2
        go_ret2
        exact ⟨rfl, below_drewN (Below.refl _ _) _⟩
set_option maxRecDepth 100000 in
theorem rFirst_none (h : Rc w X c L []) : Calls Try.prog 48 #[.pointer (some ⟨c, 0, none⟩)] w fun e w' => e = .returned (.tuple #[.string ⟨#[]⟩, .int .i64 0, .bool false]) ∧ w = w' := by
  obtain ⟨A, cap, c1, -, -, -⟩ := h.holds
  clear h
  go_enter Try.func48, Try.ntmps48
  go_wp2
  go_ret3
  exact ⟨rfl, rfl⟩
set_option maxRecDepth 100000 in
set_option maxHeartbeats 1000000 in
theorem rFirst_some (h : Rc w X c L H) (ha : Asc H) (h0 : 0 < H.length) : Calls Try.prog 48 #[.pointer (some ⟨c, 0, none⟩)] w fun e w' => (∃ b, e = .returned (.tuple #[.string b.name, .int .i64 b.tm, .bool true]) ∧ bsF H b H.length) ∧ Below w.heap.size w w' := by
  obtain ⟨A, cap, c1, hm, hx, -⟩ := h.holds
  obtain ⟨g, rfl, hc⟩ := hx h0
  have HX := Lib.hid hc
  have HA := Lib.hid ha
  obtain ⟨y0, hy0⟩ : ∃ x, H[0]? = some x := ⟨_, List.getElem?_eq_getElem h0⟩
  have z0 := (hc 0 y0 hy0).1
  have z1 := (hc 0 y0 hy0).2
  have HB0 : Hid (bsF H y0 0 ∧ ∃ j, j ≤ 0 ∧ H[j]? = some y0) := ⟨⟨List.mem_of_getElem? hy0, fun j x hj => by omega⟩, 0, Nat.le_refl _, hy0⟩
  have hgl : g < w.heap.size := Clock.block_lt z0
  have hcl : c < w.heap.size := Clock.block_lt c1
  obtain ⟨m, hme⟩ : ∃ m, H.length = m := ⟨_, rfl⟩
  have HG : Hid (∀ k, k < m → ∃ x, H[k]? = some x) := fun k hk => ⟨_, List.getElem?_eq_getElem (by omega)⟩
  have HM := Lib.hid hme
  rw [hme] at c1 hm h0 ⊢
  have hm0 : (m : Int) ≠ 0 := by omega
  have d0 : ((m : Int) == 0) = false := by simpa using hm0
  have hmi : (0 : Int) < (m : Int) := by omega
  clear hme h hx hc hy0 ha hm0
  go_enter Try.func48, Try.ntmps48
  go_wp2
  go_loopw [6] (fun iv wr => ∃ (k : Nat) (b : Hd), iv = .int .i64 k ∧ k ≤ m ∧ (bsF H b k ∧ ∃ j, j ≤ k ∧ H[j]? = some b) ∧ Below w.heap.size w wr ∧ Bk wr w.heap.size 52 #[.string b.name, .int .i64 b.tm]) (fun iv _ => m - (intOf iv).toNat)
  case atStart => exact ⟨0, y0, rfl, Nat.zero_le _, HB0.out, (Below.refl _ _).alloc (Nat.le_refl _) _, Bk.new _ _ _⟩
  case round =>
    obtain ⟨k, b, rfl, hk, hb, hbl, hbk⟩ := hrel
    have HB := Lib.hid hb
    have HBL := Lib.hid hbl
    have HBK := Lib.hid hbk
    have e1 := (hbl.cell (p := ⟨c, 1, none⟩) hcl).trans c1
    have b0 : wr.cell? ⟨w.heap.size, 0, none⟩ = some (.string b.name) := hbk.cell 0
    have b1 : wr.cell? ⟨w.heap.size, 1, none⟩ = some (.int .i64 b.tm) := hbk.cell 1
    have f0 := hbk.frozen 0
    have f1 := hbk.frozen 1
    clear hb hbk z0 z1
    by_cases hkm : k < m
    · obtain ⟨x, hx⟩ := HG.out k hkm
      have x0 := (hbl.cell (p := ⟨g, k * 2, none⟩) hgl).trans (HX.out k x hx).1
      have x1 := (hbl.cell (p := ⟨g, k * 2 + 1, none⟩) hgl).trans (HX.out k x hx).2
      have HS := Lib.hid (bsF_step HA.out HB.out.1 hx HB.out.2)
      have hki : (k : Int) < (m : Int) := by omega
      have hsz := hbl.size
      clear hx hbl
      by_cases hlt : x.tm < b.tm
      · have d1 : decide (x.tm < b.tm) = true := by simpa using hlt
        have HS2 : Hid (bsF H x (k + 1) ∧ ∃ j, j ≤ k + 1 ∧ H[j]? = some x) := by have := HS.out; rw [if_pos hlt] at this; exact this
        clear hlt HS
        go_wp2
        go_quiet (fail)
        go_wp2
        go_roundw
        case rel => exact ⟨k + 1, x, by go_num, by omega, HS2.out, (((below_drewN HBL.out _).setCell (Nat.le_refl _) _).setCell (Nat.le_refl _) _), ((HBK.out.drewN _).set 0 _).set 1 _⟩
        case measure => simp [intOf]; omega
      · have d1 : decide (x.tm < b.tm) = false := by simpa using hlt
        have HS2 : Hid (bsF H b (k + 1) ∧ ∃ j, j ≤ k + 1 ∧ H[j]? = some b) := by have := HS.out; rw [if_neg hlt] at this; exact this
        clear hlt HS
        go_wp2
        go_quiet (fail)
        go_wp2
        go_roundw
        case rel => exact ⟨k + 1, b, by go_num, by omega, HS2.out, below_drewN HBL.out _, HBK.out.drewN _⟩
        case measure => simp [intOf]; omega
    · obtain rfl : k = m := by omega
      clear hbl
      go_wp2
      go_quiet (fail)
      go_wp2
      go_ret3
      exact ⟨⟨b, rfl, HB.out.1⟩, below_drewN HBL.out _⟩
end
end Go.Proofs.Ytdndljbagjfkkaa
