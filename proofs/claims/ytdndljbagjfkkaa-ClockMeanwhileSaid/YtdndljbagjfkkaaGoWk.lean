/- goes, walked. -/
import Derived.Test.YtdndljbagjfkkaaGoAf
namespace Go.Proofs.Ytdndljbagjfkkaa
open Go.RowKit Go.Shelf Go.Lib
attribute [local go_sem] Oper.semAt_some wide_fn wide_depth wide_fn_in wide_depth_in
/-- A row of holds that lies in memory. -/
def Rw (W : World) (A : Option Addr) (H : List Hd) : Prop := ∀ k x, H[k]? = some x → ∃ g, A = some ⟨g, 0, none⟩ ∧ g < W.heap.size ∧ W.cell? ⟨g, k * 2, none⟩ = some (.string x.name) ∧ W.cell? ⟨g, k * 2 + 1, none⟩ = some (.int .i64 x.tm)
theorem wt_below {w W : World} {N : Nat} {A : Option Addr} {H : List Hd} {Bn : Nat} (h : Rw w A H) (hb : Below N w W) (hn : w.heap.size = N ∧ N ≤ Bn) : Wt W A Bn H := fun k x hx => by
  obtain ⟨g, e, hg, h0, h1⟩ := h k x hx
  obtain ⟨rfl, hn2⟩ := hn
  exact ⟨g, e, by omega, Nat.lt_of_lt_of_le hg hb.size, (hb.cell (p := ⟨g, k * 2, none⟩) hg).trans h0, (hb.cell (p := ⟨g, k * 2 + 1, none⟩) hg).trans h1⟩
section
variable (p : Option Addr) (H : List Hd) (lv : Int) (m : Nat)
set_option maxRecDepth 100000 in
set_option maxHeartbeats 2000000 in
theorem goes_nil (w : World)
    (HSEQ : ∀ W, Below w.heap.size w W → ∀ B7, W.cell? ⟨B7, 0, none⟩ = some (.pointer p) → SeqStopsK Fence.wide 9 Try.prog 44 #[.pointer (some ⟨B7, 0, none⟩)] (hEnc H) (KpH W.heap.size) (fun xs => xs.map Subtype.val = H) (fun pre => pre.map Subtype.val <+: H) H.length W)
    (hHm : H.length = 0) (hrw : Rw w none H) (hm : 0 ≤ 4398046511104) :
    Calls Try.prog 23 #[.pointer p, .pointer none, .int .i64 lv] w fun e w' => e = .returned (.bool true) ∧ Below w.heap.size w w' := by
  have HSQ := Lib.hid HSEQ
  have HM := Lib.hid hHm
  have HRW := Lib.hid hrw
  clear HSEQ hHm hrw
  have hfn : ∀ W, (binOp .eql 46 (.func (.func 44) #[] #[.pointer (some ⟨w.heap.size + 1 + 1, 0, none⟩)]) .nilFunc).run Try.prog W = .ok (.bool false) W := fun W => by kernel_rfl
  refine (callsIn_wide (n := 10)).1 ?_
  refine callsIn_of_wp_marks Try.func23 rfl trivial ?_ rfl
  simp only [Try.ntmps23, List.size_toArray, List.length_cons, List.length_nil, Nat.reduceAdd, Nat.reduceSub, Array.replicate_succ, Array.replicate_zero, List.push_toArray, List.append_toArray, List.nil_append, List.cons_append]
  gi_wp2_with (first
    | (gi_at_call 20; (with_reducible refine (callsIn_wide.2 (Holds_any _ _)).mono ?_); rintro e w' ⟨rfl, rfl⟩))
  have bL := (((((Boxed.new w 3 (.int .i64 lv)).alloc (.cells #[.bool false] 4)).alloc (.cells #[.pointer p] 24)).alloc (.cells #[.slice none 0 0] 48)).alloc (.cells #[.int .i64 0] 3))
  have bR := ((((Boxed.new (w.alloc (.cells #[.int .i64 lv] 3)) 4 (.bool false)).alloc (.cells #[.pointer p] 24)).alloc (.cells #[.slice none 0 0] 48)).alloc (.cells #[.int .i64 0] 3))
  have bC := (((Boxed.new ((w.alloc (.cells #[.int .i64 lv] 3)).alloc (.cells #[.bool false] 4)) 24 (.pointer p)).alloc (.cells #[.slice none 0 0] 48)).alloc (.cells #[.int .i64 0] 3))
  have bW := ((Boxed.new (((w.alloc (.cells #[.int .i64 lv] 3)).alloc (.cells #[.bool false] 4)).alloc (.cells #[.pointer p] 24)) 48 (.slice none 0 0)).alloc (.cells #[.int .i64 0] 3))
  have bT := (Boxed.new ((((w.alloc (.cells #[.int .i64 lv] 3)).alloc (.cells #[.bool false] 4)).alloc (.cells #[.pointer p] 24)).alloc (.cells #[.slice none 0 0] 48)) 3 (.int .i64 0))
  have hB0 : Below w.heap.size w (((((w.alloc (.cells #[.int .i64 lv] 3)).alloc (.cells #[.bool false] 4)).alloc (.cells #[.pointer p] 24)).alloc (.cells #[.slice none 0 0] 48)).alloc (.cells #[.int .i64 0] 3)) := (((((Below.refl _ w).alloc (Nat.le_refl _) _).alloc (by simp) _).alloc (by simp; omega) _).alloc (by simp; omega) _).alloc (by simp; omega) _
  have hsz : (((((w.alloc (.cells #[.int .i64 lv] 3)).alloc (.cells #[.bool false] 4)).alloc (.cells #[.pointer p] 24)).alloc (.cells #[.slice none 0 0] 48)).alloc (.cells #[.int .i64 0] 3)).heap.size = w.heap.size + 5 := by simp
  simp only [World.size_alloc] at bR bC bW bT
  obtain ⟨W0, hW0⟩ : ∃ W0, (((((w.alloc (.cells #[.int .i64 lv] 3)).alloc (.cells #[.bool false] 4)).alloc (.cells #[.pointer p] 24)).alloc (.cells #[.slice none 0 0] 48)).alloc (.cells #[.int .i64 0] 3)) = W0 := ⟨_, rfl⟩
  rw [hW0] at bL bR bC bW bT hB0 hsz ⊢
  clear hW0 hfn
  obtain ⟨N, hN⟩ : ∃ N, w.heap.size = N := ⟨_, rfl⟩
  rw [hN] at bL bR bC bW bT hB0 hsz HSQ ⊢
  have HN := Lib.hid hN
  have HL := Lib.hid bL
  have HR := Lib.hid bR
  have HC := Lib.hid bC
  have HW := Lib.hid bW
  have HT := Lib.hid bT
  have HB0 := Lib.hid hB0
  have gT := bT.cell
  clear hN bL bR bC bW bT hB0
  refine wpIn_loop_rounds 3 ?_
  rw [roundsIn_succ]
  gi_wp2
  have hX0 : (W0.alloc (.cells #[.int .i64 0] 3)).heap.size = N + 6 := by simp [hsz]
  have HB1 := Lib.hid (HB0.out.alloc (by omega) (.cells #[.int .i64 0] 3))
  have bN := Boxed.new W0 3 (.int .i64 0)
  rw [hsz] at bN
  clear gT
  refine goes_turn H lv 0 N (N + 1) (N + 1 + 1) (N + 1 + 1 + 1) (N + 1 + 1 + 1 + 1) (N + 5) none 0 _ (HSQ.out _ HB1.out (N + 1 + 1) (HC.out.alloc _).cell) (HL.out.alloc _) (HR.out.alloc _) (by rw [HM.out]; exact HW.out.alloc _) (HT.out.alloc _) bN (wt_below HRW.out HB1.out ⟨HN.out, by omega⟩) (by rw [HM.out]; exact hm) (by omega) (by omega) (by omega) (by omega) _ _ _ _ _ _ _ _ _ _ _ _ _ _ _ _ _ _ _ _ _ _ _ _ _ _ _ _ _ _ _ _ _ _ _ _ _ _ _ _ _ _ _ _ _ _ _ _ _ _ _ _ _ _ _ _ _ _ _ _ _ _ _ _ _ _ _ _ _ _ _ _ _ _ _ _ _ _ _ _ _ _ _ _ _ _ ?_ ?_
  · rintro D W hD hg hbn hlv hK
    rw [HM.out] at hbn hlv
    have hg0 := hg
    have bL1 := box_at (HL.out.alloc (.cells #[.int .i64 0] 3)) hg (by omega)
    have bR1 := box_at (HR.out.alloc (.cells #[.int .i64 0] 3)) hg (by omega)
    have bC1 := box_at (HC.out.alloc (.cells #[.int .i64 0] 3)) hg (by omega)
    have bW1 := box_at (HW.out.alloc (.cells #[.int .i64 0] 3)) hg (by omega)
    have bT1 := box_at (HT.out.alloc (.cells #[.int .i64 0] 3)) hg (by omega)
    have hB1 : Below N w W := (HB1.out).grown hg (by rw [hX0]; omega) (fun r e => by cases e; omega)
    have hok := (show ((0 : Int) = 0 ∧ 0 < lv ∧ ((0 : Nat) : Int) = min lv ((0 : Nat) : Int)) ∨ (((0 : Int) = 1 ∨ lv ≤ 0) ∧ ((0 : Nat) : Int) = 0) from by
          by_cases h0 : 0 < lv
          · have h1 : ¬ lv ≤ ((0 : Nat) : Int) := fun h => hlv rfl lv.toNat (by omega) (by omega) (by omega)
            exact .inl ⟨rfl, h0, by omega⟩
          · exact .inr ⟨.inr (by omega), rfl⟩)
    clear hlv
    iterate 3 gi_step
    refine goes_after 0 lv 0 ((0 : Nat) : Int) N (N + 1) (N + 1 + 1 + 1) (N + 1 + 1 + 1 + 1) (N + 5) none 0 _ bL1.cell bW1.cell bT1.cell hbn.cell (.inl rfl) hok _ _ _ _ _ _ _ _ _ _ _ _ _ _ _ _ _ _ _ _ _ _ _ _ _ _ _ _ _ _ _ _ _ _ _ _ _ _ _ _ _ _ _ _ _ _ _ _ _ _ _ _ _ _ _ _ _ _ _ _ _ _ _ _ _ _ _ _ _ _ _ _ _ _ _ _ _ _ _ _ _ _ _ _ _ _ _ ?_
    intro r61 r62 r63 r64 r65 r66 r67 r68 r69 r70 r71 r72 r73 r74 r75 r76 r77 r78 r79 r80 r81 r82 r83 r84 r85 r86 r87
    have cT := bT1.cell
    gi_wp2
    have hDl : D < W.heap.size := (Array.getElem?_eq_some_iff.1 hK).1
    have hDN : N ≤ D := by simp at hD; omega
    have HL1 := Lib.hid (bL1.alloc (.cells #[.int .i64 1] 3))
    have HR1 := Lib.hid (bR1.alloc (.cells #[.int .i64 1] 3))
    have HC1 := Lib.hid (bC1.alloc (.cells #[.int .i64 1] 3))
    have HW1 := Lib.hid (bW1.alloc (.cells #[.int .i64 1] 3))
    have hsW : N + 6 ≤ W.heap.size := by have := hg.size; simp at this; omega
    have HT1 := Lib.hid (Boxed.new W 3 (.int .i64 1))
    have HK1 := Lib.hid ((KeepsOthers.alloc W (.cells #[.int .i64 1] 3)).same D _ hK rfl)
    have HBX := Lib.hid (hB1.alloc (by omega) (.cells #[.int .i64 1] 3))
    have hX1 : (W.alloc (.cells #[.int .i64 1] 3)).heap.size = W.heap.size + 1 := by simp
    clear hok hg hg0 hK hD hbn bL1 bR1 bC1 bW1 bT1 hB1 cT
    revert HL1 HR1 HC1 HW1 HT1 HK1 HBX hX1
    generalize W.alloc (.cells #[.int .i64 1] 3) = X
    intro HL1 HR1 HC1 HW1 HT1 HK1 HBX hX1
    obtain ⟨M, hM⟩ : ∃ M, W.heap.size = M := ⟨_, rfl⟩
    rw [hM] at HT1 hX1 hsW hDl ⊢
    clear hM
    rw [roundsIn_succ]
    have gT := HT1.out.cell
    gi_wp2
    have hX2 : (X.alloc (.cells #[.int .i64 0] 3)).heap.size = M + 2 := by simp [hX1]
    have HB2 := Lib.hid (HBX.out.alloc (by omega) (.cells #[.int .i64 0] 3))
    have bN2 := Boxed.new X 3 (.int .i64 0)
    rw [hX1] at bN2
    clear gT
    refine goes_turn H lv 1 N (N + 1) (N + 1 + 1) (N + 1 + 1 + 1) M (M + 1) none 0 _ (HSQ.out _ HB2.out (N + 1 + 1) (HC1.out.alloc _).cell) (HL1.out.alloc _) (HR1.out.alloc _) (by rw [HM.out]; exact HW1.out.alloc _) (HT1.out.alloc _) bN2 (wt_below HRW.out HB2.out ⟨HN.out, by omega⟩) (by rw [HM.out]; exact hm) (by omega) (by omega) (by omega) (by omega) _ _ _ _ _ _ _ _ _ _ _ _ _ _ _ _ _ _ _ _ _ _ _ _ _ _ _ _ _ _ _ _ _ _ _ _ _ _ _ _ _ _ _ _ _ _ _ _ _ _ _ _ _ _ _ _ _ _ _ _ _ _ _ _ _ _ _ _ _ _ _ _ _ _ _ _ _ _ _ _ _ _ _ _ _ _ ?_ ?_
    · rintro D2 W2 hD2 hg hbn - hK2
      rw [HM.out] at hbn
      have bL1 := box_at (HL1.out.alloc (.cells #[.int .i64 0] 3)) hg (by omega)
      have bR1 := box_at (HR1.out.alloc (.cells #[.int .i64 0] 3)) hg (by omega)
      have bW1 := box_at (HW1.out.alloc (.cells #[.int .i64 0] 3)) hg (by omega)
      have bT1 := box_at (HT1.out.alloc (.cells #[.int .i64 0] 3)) hg (by omega)
      have hB3 : Below N w W2 := HB2.out.grown hg (by rw [hX2]; omega) (fun r e => by cases e; omega)
      have hKD : W2.heap[D]? = some (.deferred (some [])) := (hg.block D (by rw [hX2]; omega) (fun e => by have : D = M + 1 := Option.some.inj e; omega)).trans ((KeepsOthers.alloc X (.cells #[.int .i64 0] 3)).same D _ HK1.out rfl)
      iterate 3 gi_step
      refine goes_after 0 lv 1 ((0 : Nat) : Int) N (N + 1) (N + 1 + 1 + 1) M (M + 1) none 0 _ bL1.cell bW1.cell bT1.cell hbn.cell (.inr rfl) (.inr ⟨.inl rfl, rfl⟩) _ _ _ _ _ _ _ _ _ _ _ _ _ _ _ _ _ _ _ _ _ _ _ _ _ _ _ _ _ _ _ _ _ _ _ _ _ _ _ _ _ _ _ _ _ _ _ _ _ _ _ _ _ _ _ _ _ _ _ _ _ _ _ _ _ _ _ _ _ _ _ _ _ _ _ _ _ _ _ _ _ _ _ _ _ _ _ ?_
      intro q61 q62 q63 q64 q65 q66 q67 q68 q69 q70 q71 q72 q73 q74 q75 q76 q77 q78 q79 q80 q81 q82 q83 q84 q85 q86 q87
      have cT := bT1.cell
      gi_wp2
      have hD2l : D2 < W2.heap.size := (Array.getElem?_eq_some_iff.1 hK2).1
      have hs2 : M + 2 ≤ W2.heap.size := by have := hg.size; rw [hX2] at this; exact this
      have hR3 := bR1.alloc (.cells #[.int .i64 2] 3)
      have hT3 := Boxed.new W2 3 (.int .i64 2)
      have hK3 := (KeepsOthers.alloc W2 (.cells #[.int .i64 2] 3)).same D _ hKD rfl
      have hK4 := (KeepsOthers.alloc W2 (.cells #[.int .i64 2] 3)).same D2 _ hK2 rfl
      have hB4 := hB3.alloc (by omega) (.cells #[.int .i64 2] 3)
      rw [hX2] at hD2
      rw [roundsIn_succ]
      have gT := hT3.cell
      have cR := hR3.cell
      have fR := hR3.frozen
      gi_wp2
      exact goes_end N (N + 1) D D2 w _ _ HN.out (hB4.setCell (p := ⟨N + 1, 0, none⟩) (by show N ≤ N + 1; omega) _) (hR3.set _) ((KeepsOthers.setCell _ _ _).same D _ hK3 rfl) ((KeepsOthers.setCell _ _ _).same D2 _ hK4 rfl) (by omega) hDN (by omega) rfl
    · intro D2 k2 W2 _ _ _ h
      exact absurd h (by decide)
  · rintro D k W hD hg hbn h1 h2 h3 h4 hK
    rw [HM.out] at h3
    have hg0 := hg
    have bL1 := box_at (HL.out.alloc (.cells #[.int .i64 0] 3)) hg (by omega)
    have bR1 := box_at (HR.out.alloc (.cells #[.int .i64 0] 3)) hg (by omega)
    have bC1 := box_at (HC.out.alloc (.cells #[.int .i64 0] 3)) hg (by omega)
    have bW1 := box_at (HW.out.alloc (.cells #[.int .i64 0] 3)) hg (by omega)
    have bT1 := box_at (HT.out.alloc (.cells #[.int .i64 0] 3)) hg (by omega)
    have hB1 : Below N w W := (HB1.out).grown hg (by rw [hX0]; omega) (fun r e => by cases e; omega)
    have hok := (show ((0 : Int) = 0 ∧ 0 < lv ∧ (k : Int) = min lv ((0 : Nat) : Int)) ∨ (((0 : Int) = 1 ∨ lv ≤ 0) ∧ (k : Int) = 0) from .inl ⟨rfl, by omega, by omega⟩)
    clear h1 h2 h3 h4
    iterate 3 gi_step
    refine goes_after 0 lv 0 k N (N + 1) (N + 1 + 1 + 1) (N + 1 + 1 + 1 + 1) (N + 5) none 0 _ bL1.cell bW1.cell bT1.cell hbn.cell (.inl rfl) hok _ _ _ _ _ _ _ _ _ _ _ _ _ _ _ _ _ _ _ _ _ _ _ _ _ _ _ _ _ _ _ _ _ _ _ _ _ _ _ _ _ _ _ _ _ _ _ _ _ _ _ _ _ _ _ _ _ _ _ _ _ _ _ _ _ _ _ _ _ _ _ _ _ _ _ _ _ _ _ _ _ _ _ _ _ _ _ ?_
    intro r61 r62 r63 r64 r65 r66 r67 r68 r69 r70 r71 r72 r73 r74 r75 r76 r77 r78 r79 r80 r81 r82 r83 r84 r85 r86 r87
    have cT := bT1.cell
    gi_wp2
    have hDl : D < W.heap.size := (Array.getElem?_eq_some_iff.1 hK).1
    have hDN : N ≤ D := by simp at hD; omega
    have HL1 := Lib.hid (bL1.alloc (.cells #[.int .i64 1] 3))
    have HR1 := Lib.hid (bR1.alloc (.cells #[.int .i64 1] 3))
    have HC1 := Lib.hid (bC1.alloc (.cells #[.int .i64 1] 3))
    have HW1 := Lib.hid (bW1.alloc (.cells #[.int .i64 1] 3))
    have hsW : N + 6 ≤ W.heap.size := by have := hg.size; simp at this; omega
    have HT1 := Lib.hid (Boxed.new W 3 (.int .i64 1))
    have HK1 := Lib.hid ((KeepsOthers.alloc W (.cells #[.int .i64 1] 3)).same D _ hK rfl)
    have HBX := Lib.hid (hB1.alloc (by omega) (.cells #[.int .i64 1] 3))
    have hX1 : (W.alloc (.cells #[.int .i64 1] 3)).heap.size = W.heap.size + 1 := by simp
    clear hok hg hg0 hK hD hbn bL1 bR1 bC1 bW1 bT1 hB1 cT
    revert HL1 HR1 HC1 HW1 HT1 HK1 HBX hX1
    generalize W.alloc (.cells #[.int .i64 1] 3) = X
    intro HL1 HR1 HC1 HW1 HT1 HK1 HBX hX1
    obtain ⟨M, hM⟩ : ∃ M, W.heap.size = M := ⟨_, rfl⟩
    rw [hM] at HT1 hX1 hsW hDl ⊢
    clear hM
    rw [roundsIn_succ]
    have gT := HT1.out.cell
    gi_wp2
    have hX2 : (X.alloc (.cells #[.int .i64 0] 3)).heap.size = M + 2 := by simp [hX1]
    have HB2 := Lib.hid (HBX.out.alloc (by omega) (.cells #[.int .i64 0] 3))
    have bN2 := Boxed.new X 3 (.int .i64 0)
    rw [hX1] at bN2
    clear gT
    refine goes_turn H lv 1 N (N + 1) (N + 1 + 1) (N + 1 + 1 + 1) M (M + 1) none 0 _ (HSQ.out _ HB2.out (N + 1 + 1) (HC1.out.alloc _).cell) (HL1.out.alloc _) (HR1.out.alloc _) (by rw [HM.out]; exact HW1.out.alloc _) (HT1.out.alloc _) bN2 (wt_below HRW.out HB2.out ⟨HN.out, by omega⟩) (by rw [HM.out]; exact hm) (by omega) (by omega) (by omega) (by omega) _ _ _ _ _ _ _ _ _ _ _ _ _ _ _ _ _ _ _ _ _ _ _ _ _ _ _ _ _ _ _ _ _ _ _ _ _ _ _ _ _ _ _ _ _ _ _ _ _ _ _ _ _ _ _ _ _ _ _ _ _ _ _ _ _ _ _ _ _ _ _ _ _ _ _ _ _ _ _ _ _ _ _ _ _ _ ?_ ?_
    · rintro D2 W2 hD2 hg hbn - hK2
      rw [HM.out] at hbn
      have bL1 := box_at (HL1.out.alloc (.cells #[.int .i64 0] 3)) hg (by omega)
      have bR1 := box_at (HR1.out.alloc (.cells #[.int .i64 0] 3)) hg (by omega)
      have bW1 := box_at (HW1.out.alloc (.cells #[.int .i64 0] 3)) hg (by omega)
      have bT1 := box_at (HT1.out.alloc (.cells #[.int .i64 0] 3)) hg (by omega)
      have hB3 : Below N w W2 := HB2.out.grown hg (by rw [hX2]; omega) (fun r e => by cases e; omega)
      have hKD : W2.heap[D]? = some (.deferred (some [])) := (hg.block D (by rw [hX2]; omega) (fun e => by have : D = M + 1 := Option.some.inj e; omega)).trans ((KeepsOthers.alloc X (.cells #[.int .i64 0] 3)).same D _ HK1.out rfl)
      iterate 3 gi_step
      refine goes_after 0 lv 1 ((0 : Nat) : Int) N (N + 1) (N + 1 + 1 + 1) M (M + 1) none 0 _ bL1.cell bW1.cell bT1.cell hbn.cell (.inr rfl) (.inr ⟨.inl rfl, rfl⟩) _ _ _ _ _ _ _ _ _ _ _ _ _ _ _ _ _ _ _ _ _ _ _ _ _ _ _ _ _ _ _ _ _ _ _ _ _ _ _ _ _ _ _ _ _ _ _ _ _ _ _ _ _ _ _ _ _ _ _ _ _ _ _ _ _ _ _ _ _ _ _ _ _ _ _ _ _ _ _ _ _ _ _ _ _ _ _ ?_
      intro q61 q62 q63 q64 q65 q66 q67 q68 q69 q70 q71 q72 q73 q74 q75 q76 q77 q78 q79 q80 q81 q82 q83 q84 q85 q86 q87
      have cT := bT1.cell
      gi_wp2
      have hD2l : D2 < W2.heap.size := (Array.getElem?_eq_some_iff.1 hK2).1
      have hs2 : M + 2 ≤ W2.heap.size := by have := hg.size; rw [hX2] at this; exact this
      have hR3 := bR1.alloc (.cells #[.int .i64 2] 3)
      have hT3 := Boxed.new W2 3 (.int .i64 2)
      have hK3 := (KeepsOthers.alloc W2 (.cells #[.int .i64 2] 3)).same D _ hKD rfl
      have hK4 := (KeepsOthers.alloc W2 (.cells #[.int .i64 2] 3)).same D2 _ hK2 rfl
      have hB4 := hB3.alloc (by omega) (.cells #[.int .i64 2] 3)
      rw [hX2] at hD2
      rw [roundsIn_succ]
      have gT := hT3.cell
      have cR := hR3.cell
      have fR := hR3.frozen
      gi_wp2
      exact goes_end N (N + 1) D D2 w _ _ HN.out (hB4.setCell (p := ⟨N + 1, 0, none⟩) (by show N ≤ N + 1; omega) _) (hR3.set _) ((KeepsOthers.setCell _ _ _).same D _ hK3 rfl) ((KeepsOthers.setCell _ _ _).same D2 _ hK4 rfl) (by omega) hDN (by omega) rfl
    · intro D2 k2 W2 _ _ _ h
      exact absurd h (by decide)
set_option maxRecDepth 100000 in
set_option maxHeartbeats 2000000 in
theorem goes_some (d cap : Nat) (A : Option Addr) (w : World) (cd : w.cell? ⟨d, 1, none⟩ = some (.slice A m cap))
    (HSEQ : ∀ W, Below w.heap.size w W → ∀ B7, W.cell? ⟨B7, 0, none⟩ = some (.pointer p) → SeqStopsK Fence.wide 9 Try.prog 44 #[.pointer (some ⟨B7, 0, none⟩)] (hEnc H) (KpH W.heap.size) (fun xs => xs.map Subtype.val = H) (fun pre => pre.map Subtype.val <+: H) H.length W)
    (hHm : H.length = m) (hrw : Rw w A H) (hm : m ≤ 4398046511104) :
    Calls Try.prog 23 #[.pointer p, .pointer (some ⟨d, 0, none⟩), .int .i64 lv] w fun e w' => e = .returned (.bool true) ∧ Below w.heap.size w w' := by
  have HSQ := Lib.hid HSEQ
  have HM := Lib.hid hHm
  have HRW := Lib.hid hrw
  clear HSEQ hHm hrw
  have hdl : d < w.heap.size := Clock.block_lt cd
  have hb4 : Below w.heap.size w ((((w.alloc (.cells #[.int .i64 lv] 3)).alloc (.cells #[.bool false] 4)).alloc (.cells #[.pointer p] 24)).alloc (.cells #[.slice none 0 0] 48)) := ((((Below.refl _ w).alloc (Nat.le_refl _) _).alloc (by simp) _).alloc (by simp; omega) _).alloc (by simp; omega) _
  have cd4 := (hb4.cell (p := ⟨d, 1, none⟩) hdl).trans cd
  clear hb4 cd
  have hfn : ∀ W, (binOp .eql 46 (.func (.func 44) #[] #[.pointer (some ⟨w.heap.size + 1 + 1, 0, none⟩)]) .nilFunc).run Try.prog W = .ok (.bool false) W := fun W => by kernel_rfl
  refine (callsIn_wide (n := 10)).1 ?_
  refine callsIn_of_wp_marks Try.func23 rfl trivial ?_ rfl
  simp only [Try.ntmps23, List.size_toArray, List.length_cons, List.length_nil, Nat.reduceAdd, Nat.reduceSub, Array.replicate_succ, Array.replicate_zero, List.push_toArray, List.append_toArray, List.nil_append, List.cons_append]
  gi_wp2_with (first
    | (gi_at_call 20; (with_reducible refine (callsIn_wide.2 (Holds_any _ _)).mono ?_); rintro e w' ⟨rfl, rfl⟩))
  have bL := (((((Boxed.new w 3 (.int .i64 lv)).alloc (.cells #[.bool false] 4)).alloc (.cells #[.pointer p] 24)).alloc (.cells #[.slice A m cap] 48)).alloc (.cells #[.int .i64 0] 3))
  have bR := ((((Boxed.new (w.alloc (.cells #[.int .i64 lv] 3)) 4 (.bool false)).alloc (.cells #[.pointer p] 24)).alloc (.cells #[.slice A m cap] 48)).alloc (.cells #[.int .i64 0] 3))
  have bC := (((Boxed.new ((w.alloc (.cells #[.int .i64 lv] 3)).alloc (.cells #[.bool false] 4)) 24 (.pointer p)).alloc (.cells #[.slice A m cap] 48)).alloc (.cells #[.int .i64 0] 3))
  have bW := ((Boxed.new (((w.alloc (.cells #[.int .i64 lv] 3)).alloc (.cells #[.bool false] 4)).alloc (.cells #[.pointer p] 24)) 48 (.slice A m cap)).alloc (.cells #[.int .i64 0] 3))
  have bT := (Boxed.new ((((w.alloc (.cells #[.int .i64 lv] 3)).alloc (.cells #[.bool false] 4)).alloc (.cells #[.pointer p] 24)).alloc (.cells #[.slice A m cap] 48)) 3 (.int .i64 0))
  have hB0 : Below w.heap.size w (((((w.alloc (.cells #[.int .i64 lv] 3)).alloc (.cells #[.bool false] 4)).alloc (.cells #[.pointer p] 24)).alloc (.cells #[.slice A m cap] 48)).alloc (.cells #[.int .i64 0] 3)) := (((((Below.refl _ w).alloc (Nat.le_refl _) _).alloc (by simp) _).alloc (by simp; omega) _).alloc (by simp; omega) _).alloc (by simp; omega) _
  have hsz : (((((w.alloc (.cells #[.int .i64 lv] 3)).alloc (.cells #[.bool false] 4)).alloc (.cells #[.pointer p] 24)).alloc (.cells #[.slice A m cap] 48)).alloc (.cells #[.int .i64 0] 3)).heap.size = w.heap.size + 5 := by simp
  simp only [World.size_alloc] at bR bC bW bT
  obtain ⟨W0, hW0⟩ : ∃ W0, (((((w.alloc (.cells #[.int .i64 lv] 3)).alloc (.cells #[.bool false] 4)).alloc (.cells #[.pointer p] 24)).alloc (.cells #[.slice A m cap] 48)).alloc (.cells #[.int .i64 0] 3)) = W0 := ⟨_, rfl⟩
  rw [hW0] at bL bR bC bW bT hB0 hsz ⊢
  clear hW0 hfn
  obtain ⟨N, hN⟩ : ∃ N, w.heap.size = N := ⟨_, rfl⟩
  rw [hN] at bL bR bC bW bT hB0 hsz HSQ ⊢
  have HN := Lib.hid hN
  have HL := Lib.hid bL
  have HR := Lib.hid bR
  have HC := Lib.hid bC
  have HW := Lib.hid bW
  have HT := Lib.hid bT
  have HB0 := Lib.hid hB0
  have gT := bT.cell
  clear hN bL bR bC bW bT hB0
  refine wpIn_loop_rounds 3 ?_
  rw [roundsIn_succ]
  gi_wp2
  have hX0 : (W0.alloc (.cells #[.int .i64 0] 3)).heap.size = N + 6 := by simp [hsz]
  have HB1 := Lib.hid (HB0.out.alloc (by omega) (.cells #[.int .i64 0] 3))
  have bN := Boxed.new W0 3 (.int .i64 0)
  rw [hsz] at bN
  clear gT
  refine goes_turn H lv 0 N (N + 1) (N + 1 + 1) (N + 1 + 1 + 1) (N + 1 + 1 + 1 + 1) (N + 5) A cap _ (HSQ.out _ HB1.out (N + 1 + 1) (HC.out.alloc _).cell) (HL.out.alloc _) (HR.out.alloc _) (by rw [HM.out]; exact HW.out.alloc _) (HT.out.alloc _) bN (wt_below HRW.out HB1.out ⟨HN.out, by omega⟩) (by rw [HM.out]; exact hm) (by omega) (by omega) (by omega) (by omega) _ _ _ _ _ _ _ _ _ _ _ _ _ _ _ _ _ _ _ _ _ _ _ _ _ _ _ _ _ _ _ _ _ _ _ _ _ _ _ _ _ _ _ _ _ _ _ _ _ _ _ _ _ _ _ _ _ _ _ _ _ _ _ _ _ _ _ _ _ _ _ _ _ _ _ _ _ _ _ _ _ _ _ _ _ _ ?_ ?_
  · rintro D W hD hg hbn hlv hK
    rw [HM.out] at hbn hlv
    have hg0 := hg
    have bL1 := box_at (HL.out.alloc (.cells #[.int .i64 0] 3)) hg (by omega)
    have bR1 := box_at (HR.out.alloc (.cells #[.int .i64 0] 3)) hg (by omega)
    have bC1 := box_at (HC.out.alloc (.cells #[.int .i64 0] 3)) hg (by omega)
    have bW1 := box_at (HW.out.alloc (.cells #[.int .i64 0] 3)) hg (by omega)
    have bT1 := box_at (HT.out.alloc (.cells #[.int .i64 0] 3)) hg (by omega)
    have hB1 : Below N w W := (HB1.out).grown hg (by rw [hX0]; omega) (fun r e => by cases e; omega)
    have hok := (show ((0 : Int) = 0 ∧ 0 < lv ∧ (m : Int) = min lv m) ∨ (((0 : Int) = 1 ∨ lv ≤ 0) ∧ (m : Int) = m) from by
          by_cases h0 : 0 < lv
          · have h1 : ¬ lv ≤ m := fun h => hlv rfl lv.toNat (by omega) (by omega) (by omega)
            exact .inl ⟨rfl, h0, by omega⟩
          · exact .inr ⟨.inr (by omega), rfl⟩)
    clear hlv
    iterate 3 gi_step
    refine goes_after m lv 0 m N (N + 1) (N + 1 + 1 + 1) (N + 1 + 1 + 1 + 1) (N + 5) A cap _ bL1.cell bW1.cell bT1.cell hbn.cell (.inl rfl) hok _ _ _ _ _ _ _ _ _ _ _ _ _ _ _ _ _ _ _ _ _ _ _ _ _ _ _ _ _ _ _ _ _ _ _ _ _ _ _ _ _ _ _ _ _ _ _ _ _ _ _ _ _ _ _ _ _ _ _ _ _ _ _ _ _ _ _ _ _ _ _ _ _ _ _ _ _ _ _ _ _ _ _ _ _ _ _ ?_
    intro r61 r62 r63 r64 r65 r66 r67 r68 r69 r70 r71 r72 r73 r74 r75 r76 r77 r78 r79 r80 r81 r82 r83 r84 r85 r86 r87
    have cT := bT1.cell
    gi_wp2
    have hDl : D < W.heap.size := (Array.getElem?_eq_some_iff.1 hK).1
    have hDN : N ≤ D := by simp at hD; omega
    have HL1 := Lib.hid (bL1.alloc (.cells #[.int .i64 1] 3))
    have HR1 := Lib.hid (bR1.alloc (.cells #[.int .i64 1] 3))
    have HC1 := Lib.hid (bC1.alloc (.cells #[.int .i64 1] 3))
    have HW1 := Lib.hid (bW1.alloc (.cells #[.int .i64 1] 3))
    have hsW : N + 6 ≤ W.heap.size := by have := hg.size; simp at this; omega
    have HT1 := Lib.hid (Boxed.new W 3 (.int .i64 1))
    have HK1 := Lib.hid ((KeepsOthers.alloc W (.cells #[.int .i64 1] 3)).same D _ hK rfl)
    have HBX := Lib.hid (hB1.alloc (by omega) (.cells #[.int .i64 1] 3))
    have hX1 : (W.alloc (.cells #[.int .i64 1] 3)).heap.size = W.heap.size + 1 := by simp
    clear hok hg hg0 hK hD hbn bL1 bR1 bC1 bW1 bT1 hB1 cT
    revert HL1 HR1 HC1 HW1 HT1 HK1 HBX hX1
    generalize W.alloc (.cells #[.int .i64 1] 3) = X
    intro HL1 HR1 HC1 HW1 HT1 HK1 HBX hX1
    obtain ⟨M, hM⟩ : ∃ M, W.heap.size = M := ⟨_, rfl⟩
    rw [hM] at HT1 hX1 hsW hDl ⊢
    clear hM
    rw [roundsIn_succ]
    have gT := HT1.out.cell
    gi_wp2
    have hX2 : (X.alloc (.cells #[.int .i64 0] 3)).heap.size = M + 2 := by simp [hX1]
    have HB2 := Lib.hid (HBX.out.alloc (by omega) (.cells #[.int .i64 0] 3))
    have bN2 := Boxed.new X 3 (.int .i64 0)
    rw [hX1] at bN2
    clear gT
    refine goes_turn H lv 1 N (N + 1) (N + 1 + 1) (N + 1 + 1 + 1) M (M + 1) A cap _ (HSQ.out _ HB2.out (N + 1 + 1) (HC1.out.alloc _).cell) (HL1.out.alloc _) (HR1.out.alloc _) (by rw [HM.out]; exact HW1.out.alloc _) (HT1.out.alloc _) bN2 (wt_below HRW.out HB2.out ⟨HN.out, by omega⟩) (by rw [HM.out]; exact hm) (by omega) (by omega) (by omega) (by omega) _ _ _ _ _ _ _ _ _ _ _ _ _ _ _ _ _ _ _ _ _ _ _ _ _ _ _ _ _ _ _ _ _ _ _ _ _ _ _ _ _ _ _ _ _ _ _ _ _ _ _ _ _ _ _ _ _ _ _ _ _ _ _ _ _ _ _ _ _ _ _ _ _ _ _ _ _ _ _ _ _ _ _ _ _ _ ?_ ?_
    · rintro D2 W2 hD2 hg hbn - hK2
      rw [HM.out] at hbn
      have bL1 := box_at (HL1.out.alloc (.cells #[.int .i64 0] 3)) hg (by omega)
      have bR1 := box_at (HR1.out.alloc (.cells #[.int .i64 0] 3)) hg (by omega)
      have bW1 := box_at (HW1.out.alloc (.cells #[.int .i64 0] 3)) hg (by omega)
      have bT1 := box_at (HT1.out.alloc (.cells #[.int .i64 0] 3)) hg (by omega)
      have hB3 : Below N w W2 := HB2.out.grown hg (by rw [hX2]; omega) (fun r e => by cases e; omega)
      have hKD : W2.heap[D]? = some (.deferred (some [])) := (hg.block D (by rw [hX2]; omega) (fun e => by have : D = M + 1 := Option.some.inj e; omega)).trans ((KeepsOthers.alloc X (.cells #[.int .i64 0] 3)).same D _ HK1.out rfl)
      iterate 3 gi_step
      refine goes_after m lv 1 m N (N + 1) (N + 1 + 1 + 1) M (M + 1) A cap _ bL1.cell bW1.cell bT1.cell hbn.cell (.inr rfl) (.inr ⟨.inl rfl, rfl⟩) _ _ _ _ _ _ _ _ _ _ _ _ _ _ _ _ _ _ _ _ _ _ _ _ _ _ _ _ _ _ _ _ _ _ _ _ _ _ _ _ _ _ _ _ _ _ _ _ _ _ _ _ _ _ _ _ _ _ _ _ _ _ _ _ _ _ _ _ _ _ _ _ _ _ _ _ _ _ _ _ _ _ _ _ _ _ _ ?_
      intro q61 q62 q63 q64 q65 q66 q67 q68 q69 q70 q71 q72 q73 q74 q75 q76 q77 q78 q79 q80 q81 q82 q83 q84 q85 q86 q87
      have cT := bT1.cell
      gi_wp2
      have hD2l : D2 < W2.heap.size := (Array.getElem?_eq_some_iff.1 hK2).1
      have hs2 : M + 2 ≤ W2.heap.size := by have := hg.size; rw [hX2] at this; exact this
      have hR3 := bR1.alloc (.cells #[.int .i64 2] 3)
      have hT3 := Boxed.new W2 3 (.int .i64 2)
      have hK3 := (KeepsOthers.alloc W2 (.cells #[.int .i64 2] 3)).same D _ hKD rfl
      have hK4 := (KeepsOthers.alloc W2 (.cells #[.int .i64 2] 3)).same D2 _ hK2 rfl
      have hB4 := hB3.alloc (by omega) (.cells #[.int .i64 2] 3)
      rw [hX2] at hD2
      rw [roundsIn_succ]
      have gT := hT3.cell
      have cR := hR3.cell
      have fR := hR3.frozen
      gi_wp2
      exact goes_end N (N + 1) D D2 w _ _ HN.out (hB4.setCell (p := ⟨N + 1, 0, none⟩) (by show N ≤ N + 1; omega) _) (hR3.set _) ((KeepsOthers.setCell _ _ _).same D _ hK3 rfl) ((KeepsOthers.setCell _ _ _).same D2 _ hK4 rfl) (by omega) hDN (by omega) rfl
    · intro D2 k2 W2 _ _ _ h
      exact absurd h (by decide)
  · rintro D k W hD hg hbn h1 h2 h3 h4 hK
    rw [HM.out] at h3
    have hg0 := hg
    have bL1 := box_at (HL.out.alloc (.cells #[.int .i64 0] 3)) hg (by omega)
    have bR1 := box_at (HR.out.alloc (.cells #[.int .i64 0] 3)) hg (by omega)
    have bC1 := box_at (HC.out.alloc (.cells #[.int .i64 0] 3)) hg (by omega)
    have bW1 := box_at (HW.out.alloc (.cells #[.int .i64 0] 3)) hg (by omega)
    have bT1 := box_at (HT.out.alloc (.cells #[.int .i64 0] 3)) hg (by omega)
    have hB1 : Below N w W := (HB1.out).grown hg (by rw [hX0]; omega) (fun r e => by cases e; omega)
    have hok := (show ((0 : Int) = 0 ∧ 0 < lv ∧ (k : Int) = min lv m) ∨ (((0 : Int) = 1 ∨ lv ≤ 0) ∧ (k : Int) = m) from .inl ⟨rfl, by omega, by omega⟩)
    clear h1 h2 h3 h4
    iterate 3 gi_step
    refine goes_after m lv 0 k N (N + 1) (N + 1 + 1 + 1) (N + 1 + 1 + 1 + 1) (N + 5) A cap _ bL1.cell bW1.cell bT1.cell hbn.cell (.inl rfl) hok _ _ _ _ _ _ _ _ _ _ _ _ _ _ _ _ _ _ _ _ _ _ _ _ _ _ _ _ _ _ _ _ _ _ _ _ _ _ _ _ _ _ _ _ _ _ _ _ _ _ _ _ _ _ _ _ _ _ _ _ _ _ _ _ _ _ _ _ _ _ _ _ _ _ _ _ _ _ _ _ _ _ _ _ _ _ _ ?_
    intro r61 r62 r63 r64 r65 r66 r67 r68 r69 r70 r71 r72 r73 r74 r75 r76 r77 r78 r79 r80 r81 r82 r83 r84 r85 r86 r87
    have cT := bT1.cell
    gi_wp2
    have hDl : D < W.heap.size := (Array.getElem?_eq_some_iff.1 hK).1
    have hDN : N ≤ D := by simp at hD; omega
    have HL1 := Lib.hid (bL1.alloc (.cells #[.int .i64 1] 3))
    have HR1 := Lib.hid (bR1.alloc (.cells #[.int .i64 1] 3))
    have HC1 := Lib.hid (bC1.alloc (.cells #[.int .i64 1] 3))
    have HW1 := Lib.hid (bW1.alloc (.cells #[.int .i64 1] 3))
    have hsW : N + 6 ≤ W.heap.size := by have := hg.size; simp at this; omega
    have HT1 := Lib.hid (Boxed.new W 3 (.int .i64 1))
    have HK1 := Lib.hid ((KeepsOthers.alloc W (.cells #[.int .i64 1] 3)).same D _ hK rfl)
    have HBX := Lib.hid (hB1.alloc (by omega) (.cells #[.int .i64 1] 3))
    have hX1 : (W.alloc (.cells #[.int .i64 1] 3)).heap.size = W.heap.size + 1 := by simp
    clear hok hg hg0 hK hD hbn bL1 bR1 bC1 bW1 bT1 hB1 cT
    revert HL1 HR1 HC1 HW1 HT1 HK1 HBX hX1
    generalize W.alloc (.cells #[.int .i64 1] 3) = X
    intro HL1 HR1 HC1 HW1 HT1 HK1 HBX hX1
    obtain ⟨M, hM⟩ : ∃ M, W.heap.size = M := ⟨_, rfl⟩
    rw [hM] at HT1 hX1 hsW hDl ⊢
    clear hM
    rw [roundsIn_succ]
    have gT := HT1.out.cell
    gi_wp2
    have hX2 : (X.alloc (.cells #[.int .i64 0] 3)).heap.size = M + 2 := by simp [hX1]
    have HB2 := Lib.hid (HBX.out.alloc (by omega) (.cells #[.int .i64 0] 3))
    have bN2 := Boxed.new X 3 (.int .i64 0)
    rw [hX1] at bN2
    clear gT
    refine goes_turn H lv 1 N (N + 1) (N + 1 + 1) (N + 1 + 1 + 1) M (M + 1) A cap _ (HSQ.out _ HB2.out (N + 1 + 1) (HC1.out.alloc _).cell) (HL1.out.alloc _) (HR1.out.alloc _) (by rw [HM.out]; exact HW1.out.alloc _) (HT1.out.alloc _) bN2 (wt_below HRW.out HB2.out ⟨HN.out, by omega⟩) (by rw [HM.out]; exact hm) (by omega) (by omega) (by omega) (by omega) _ _ _ _ _ _ _ _ _ _ _ _ _ _ _ _ _ _ _ _ _ _ _ _ _ _ _ _ _ _ _ _ _ _ _ _ _ _ _ _ _ _ _ _ _ _ _ _ _ _ _ _ _ _ _ _ _ _ _ _ _ _ _ _ _ _ _ _ _ _ _ _ _ _ _ _ _ _ _ _ _ _ _ _ _ _ ?_ ?_
    · rintro D2 W2 hD2 hg hbn - hK2
      rw [HM.out] at hbn
      have bL1 := box_at (HL1.out.alloc (.cells #[.int .i64 0] 3)) hg (by omega)
      have bR1 := box_at (HR1.out.alloc (.cells #[.int .i64 0] 3)) hg (by omega)
      have bW1 := box_at (HW1.out.alloc (.cells #[.int .i64 0] 3)) hg (by omega)
      have bT1 := box_at (HT1.out.alloc (.cells #[.int .i64 0] 3)) hg (by omega)
      have hB3 : Below N w W2 := HB2.out.grown hg (by rw [hX2]; omega) (fun r e => by cases e; omega)
      have hKD : W2.heap[D]? = some (.deferred (some [])) := (hg.block D (by rw [hX2]; omega) (fun e => by have : D = M + 1 := Option.some.inj e; omega)).trans ((KeepsOthers.alloc X (.cells #[.int .i64 0] 3)).same D _ HK1.out rfl)
      iterate 3 gi_step
      refine goes_after m lv 1 m N (N + 1) (N + 1 + 1 + 1) M (M + 1) A cap _ bL1.cell bW1.cell bT1.cell hbn.cell (.inr rfl) (.inr ⟨.inl rfl, rfl⟩) _ _ _ _ _ _ _ _ _ _ _ _ _ _ _ _ _ _ _ _ _ _ _ _ _ _ _ _ _ _ _ _ _ _ _ _ _ _ _ _ _ _ _ _ _ _ _ _ _ _ _ _ _ _ _ _ _ _ _ _ _ _ _ _ _ _ _ _ _ _ _ _ _ _ _ _ _ _ _ _ _ _ _ _ _ _ _ ?_
      intro q61 q62 q63 q64 q65 q66 q67 q68 q69 q70 q71 q72 q73 q74 q75 q76 q77 q78 q79 q80 q81 q82 q83 q84 q85 q86 q87
      have cT := bT1.cell
      gi_wp2
      have hD2l : D2 < W2.heap.size := (Array.getElem?_eq_some_iff.1 hK2).1
      have hs2 : M + 2 ≤ W2.heap.size := by have := hg.size; rw [hX2] at this; exact this
      have hR3 := bR1.alloc (.cells #[.int .i64 2] 3)
      have hT3 := Boxed.new W2 3 (.int .i64 2)
      have hK3 := (KeepsOthers.alloc W2 (.cells #[.int .i64 2] 3)).same D _ hKD rfl
      have hK4 := (KeepsOthers.alloc W2 (.cells #[.int .i64 2] 3)).same D2 _ hK2 rfl
      have hB4 := hB3.alloc (by omega) (.cells #[.int .i64 2] 3)
      rw [hX2] at hD2
      rw [roundsIn_succ]
      have gT := hT3.cell
      have cR := hR3.cell
      have fR := hR3.frozen
      gi_wp2
      exact goes_end N (N + 1) D D2 w _ _ HN.out (hB4.setCell (p := ⟨N + 1, 0, none⟩) (by show N ≤ N + 1; omega) _) (hR3.set _) ((KeepsOthers.setCell _ _ _).same D _ hK3 rfl) ((KeepsOthers.setCell _ _ _).same D2 _ hK4 rfl) (by omega) hDN (by omega) rfl
    · intro D2 k2 W2 _ _ _ h
      exact absurd h (by decide)
end
end Go.Proofs.Ytdndljbagjfkkaa
