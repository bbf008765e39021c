/- The law GroupsStretches. -/
import Derived.Test.YtdbbipdkaahplaaTurnNo
namespace Go.Proofs.Ytdbbipdkaahplaa
open Go.RowKit Go.Shelf
attribute [local go_sem] Oper.semAt_some wide_fn wide_depth wide_fn_in wide_depth_in

set_option maxRecDepth 100000 in
set_option maxHeartbeats 1000000 in
theorem strLaw_yes (P : Nat) (g v : Int) (w : World) (hp : mayB P g) (wv : (Lit.int .i64 v).wf = true) :
    Calls Try.prog 3 #[.int .i64 (P : Int), .int .i64 g, .int .i64 v] w fun e w' => e = .returned (.bool true) ∧ Below w.heap.size w w' := by
  have Hp := Lib.hid hp
  obtain ⟨p1, p2, p3, p4⟩ := id hp
  clear hp
  have hfn : ∀ W, (binOp .eql 23 (.func (.func 28) #[] #[.pointer (some ⟨w.heap.size + 1 + 1 + 1 + 1, 0, none⟩), .pointer (some ⟨w.heap.size + 1 + 1 + 1 + 1 + 1, 0, none⟩)]) .nilFunc).run Try.prog W = .ok (.bool false) W := fun W => by kernel_rfl
  refine (callsIn_wide (n := 10)).1 ?_
  refine callsIn_of_wp_marks Try.func3 rfl trivial ?_ rfl
  simp only [Try.ntmps3, List.size_toArray, List.length_cons, List.length_nil, Nat.reduceAdd, Nat.reduceSub, Array.replicate_succ, Array.replicate_zero, List.push_toArray, List.append_toArray, List.nil_append, List.cons_append]
  gi_wp2_with (first
    | (gi_at_call 8; (with_reducible refine (callsIn_wide.2 (Stretches_any _ _ _)).mono ?_); rintro e w' ⟨rfl, rfl⟩)
    | (gi_at_call 9; (with_reducible refine (callsIn_wide.2 (Workers_yes _ _ _ Hp.out)).mono ?_); rintro e w' ⟨rfl, rfl⟩))
  have bP := (((((((Boxed.new (w) 3 (.int .i64 (P : Int))).alloc (.cells #[.int .i64 g] 3)).alloc (.cells #[.int .i64 v] 3)).alloc (.cells #[.bool false] 4)).alloc (.cells #[.int .i64 (P : Int)] 3)).alloc (.cells #[.int .i64 g] 3)).alloc (.cells #[.int .i64 (P : Int)] 3)).alloc (.cells #[.int .i64 0] 3)
  have bG := ((((((Boxed.new (w.alloc (.cells #[.int .i64 (P : Int)] 3)) 3 (.int .i64 g)).alloc (.cells #[.int .i64 v] 3)).alloc (.cells #[.bool false] 4)).alloc (.cells #[.int .i64 (P : Int)] 3)).alloc (.cells #[.int .i64 g] 3)).alloc (.cells #[.int .i64 (P : Int)] 3)).alloc (.cells #[.int .i64 0] 3)
  have bV := (((((Boxed.new ((w.alloc (.cells #[.int .i64 (P : Int)] 3)).alloc (.cells #[.int .i64 g] 3)) 3 (.int .i64 v)).alloc (.cells #[.bool false] 4)).alloc (.cells #[.int .i64 (P : Int)] 3)).alloc (.cells #[.int .i64 g] 3)).alloc (.cells #[.int .i64 (P : Int)] 3)).alloc (.cells #[.int .i64 0] 3)
  have bR := ((((Boxed.new (((w.alloc (.cells #[.int .i64 (P : Int)] 3)).alloc (.cells #[.int .i64 g] 3)).alloc (.cells #[.int .i64 v] 3)) 4 (.bool false)).alloc (.cells #[.int .i64 (P : Int)] 3)).alloc (.cells #[.int .i64 g] 3)).alloc (.cells #[.int .i64 (P : Int)] 3)).alloc (.cells #[.int .i64 0] 3)
  have cP := (((Boxed.new ((((w.alloc (.cells #[.int .i64 (P : Int)] 3)).alloc (.cells #[.int .i64 g] 3)).alloc (.cells #[.int .i64 v] 3)).alloc (.cells #[.bool false] 4)) 3 (.int .i64 (P : Int))).alloc (.cells #[.int .i64 g] 3)).alloc (.cells #[.int .i64 (P : Int)] 3)).alloc (.cells #[.int .i64 0] 3)
  have cG := ((Boxed.new (((((w.alloc (.cells #[.int .i64 (P : Int)] 3)).alloc (.cells #[.int .i64 g] 3)).alloc (.cells #[.int .i64 v] 3)).alloc (.cells #[.bool false] 4)).alloc (.cells #[.int .i64 (P : Int)] 3)) 3 (.int .i64 g)).alloc (.cells #[.int .i64 (P : Int)] 3)).alloc (.cells #[.int .i64 0] 3)
  have bW := (Boxed.new ((((((w.alloc (.cells #[.int .i64 (P : Int)] 3)).alloc (.cells #[.int .i64 g] 3)).alloc (.cells #[.int .i64 v] 3)).alloc (.cells #[.bool false] 4)).alloc (.cells #[.int .i64 (P : Int)] 3)).alloc (.cells #[.int .i64 g] 3)) 3 (.int .i64 (P : Int))).alloc (.cells #[.int .i64 0] 3)
  have bT := Boxed.new (((((((w.alloc (.cells #[.int .i64 (P : Int)] 3)).alloc (.cells #[.int .i64 g] 3)).alloc (.cells #[.int .i64 v] 3)).alloc (.cells #[.bool false] 4)).alloc (.cells #[.int .i64 (P : Int)] 3)).alloc (.cells #[.int .i64 g] 3)).alloc (.cells #[.int .i64 (P : Int)] 3)) 3 (.int .i64 0)
  have hB0 : Below w.heap.size w ((((((((w.alloc (.cells #[.int .i64 (P : Int)] 3)).alloc (.cells #[.int .i64 g] 3)).alloc (.cells #[.int .i64 v] 3)).alloc (.cells #[.bool false] 4)).alloc (.cells #[.int .i64 (P : Int)] 3)).alloc (.cells #[.int .i64 g] 3)).alloc (.cells #[.int .i64 (P : Int)] 3)).alloc (.cells #[.int .i64 0] 3)) := ((((((((Below.refl _ w).alloc (Nat.le_refl _) _).alloc (by simp) _).alloc (by simp; omega) _).alloc (by simp; omega) _).alloc (by simp; omega) _).alloc (by simp; omega) _).alloc (by simp; omega) _).alloc (by simp; omega) _
  have hsz : ((((((((w.alloc (.cells #[.int .i64 (P : Int)] 3)).alloc (.cells #[.int .i64 g] 3)).alloc (.cells #[.int .i64 v] 3)).alloc (.cells #[.bool false] 4)).alloc (.cells #[.int .i64 (P : Int)] 3)).alloc (.cells #[.int .i64 g] 3)).alloc (.cells #[.int .i64 (P : Int)] 3)).alloc (.cells #[.int .i64 0] 3)).heap.size = w.heap.size + 8 := by simp
  simp only [World.size_alloc] at bG bV bR cP cG bW bT
  obtain ⟨W0, hW0⟩ : ∃ W0, (((((((w.alloc (.cells #[.int .i64 (P : Int)] 3)).alloc (.cells #[.int .i64 g] 3)).alloc (.cells #[.int .i64 v] 3)).alloc (.cells #[.bool false] 4)).alloc (.cells #[.int .i64 (P : Int)] 3)).alloc (.cells #[.int .i64 g] 3)).alloc (.cells #[.int .i64 (P : Int)] 3)).alloc (.cells #[.int .i64 0] 3) = W0 := ⟨_, rfl⟩
  rw [hW0] at bP bG bV bR cP cG bW bT hB0 hsz ⊢
  clear hW0
  obtain ⟨N, hN⟩ : ∃ N, w.heap.size = N := ⟨_, rfl⟩
  rw [hN] at bP bG bV bR cP cG bW bT hB0 hsz ⊢
  have hS0 : SI w W0 N P P g v := ⟨bP, bG, bV, bR, cP, cG, bW, hB0, by omega⟩
  have HS0 := Lib.hid hS0
  clear bP bG bV bR cP cG bW hB0 hS0
  refine wpIn_loop_rounds 3 ?_
  rw [roundsIn_succ]
  have gT := bT.cell
  have gP := HS0.out.bP.cell
  have gG := HS0.out.bG.cell
  have hr1 := HS0.out.bP
  gi_wp2
  have hs1 := HS0.out.grown (World.grownBy_alloc W0 (.cells #[.int .i64 0] 3) none)
  have hs2 := hs1.grown (World.grownBy_alloc _ (.cells #[.int .i64 0] 3) none)
  have h7 : TI w ((W0.alloc (.cells #[.int .i64 0] 3)).alloc (.cells #[.int .i64 0] 3)) N P (N + 1 + 1 + 1 + 1 + 1 + 1 + 1) (N + 8) (N + 8 + 1) g v 0 0 :=
    ⟨hs2, (bT.alloc _).alloc _, by have := (Boxed.new W0 3 (.int .i64 0)).alloc (.cells #[.int .i64 0] 3); rw [hsz] at this; exact this,
      by have := Boxed.new (W0.alloc (.cells #[.int .i64 0] 3)) 3 (.int .i64 0); rw [World.size_alloc, hsz] at this; simpa using this⟩
  have H7 := Lib.hid h7
  clear gT gP gG hs1 hs2 h7
  refine turn_yes P g v 0 w Hp.out (.inl rfl) N (N + 1 + 1 + 1 + 1 + 1 + 1 + 1) (N + 8) (N + 8 + 1) _ H7.out (by omega) (by omega) (by omega) (by omega) (by omega) (by omega) _ _ _ _ _ _ _ _ _ _ _ _ _ _ _ _ _ _ _ _ _ _ _ _ _ _ _ _ _ _ _ _ _ _ _ _ _ _ _ _ _ _ _ _ _ _ _ _ _ _ _ _ _ _ _ _ _ _ _ _ _ _ _ _ _ _ _ _ _ _ _ _ _ _ _ _ _ _ _ _ _ _ _ _ _ _ _ _ _ _ _ _ _ _ _ _ _ _ _ _ _ _ _ _ _ _ _ _ _ _ _ _ _ _ _ _ _ _ _ _ _ _ _ _ _ _ ?_ ?_
  · rintro D W hD hT hv hO hK
    have hok : ((0 : Int) = 0 ∧ 0 < v ∧ (P : Int) = min v P) ∨ (((0 : Int) = 1 ∨ v ≤ 0) ∧ (P : Int) = P ∧ (0 < (P : Int) → (P : Int) * g / P = g)) := by
      by_cases h0 : 0 < v
      · refine .inl ⟨rfl, h0, ?_⟩
        have h1 : ¬ v ≤ P := fun h => hv rfl v.toNat (by omega) (by omega) (by omega)
        omega
      · exact .inr ⟨.inr (by omega), rfl, fun _ => Int.mul_ediv_cancel_left _ (by omega)⟩
    clear hv
    iterate 3 gi_step
    refine after_ok N (N + 1 + 1 + 1 + 1 + 1 + 1 + 1) (N + 8) (N + 8 + 1) g P v 0 (P : Int) ((P : Int) * g / P) _ (by omega) (by omega) hT.bt.cell hT.bn.cell hT.ba.cell hT.si.bG.cell hT.si.bV.cell hT.si.bW.cell (by simp) hok _ _ _ _ _ _ _ _ _ _ _ _ _ _ _ _ _ _ _ _ _ _ _ _ _ _ _ _ _ _ _ _ _ _ _ _ _ _ _ _ _ _ _ _ _ _ _ _ _ _ _ _ _ _ _ _ _ _ _ _ _ _ _ _ _ _ _ _ _ _ _ _ _ _ _ _ _ _ _ _ _ _ _ _ _ _ _ _ _ _ _ _ _ _ _ _ _ _ _ _ _ _ _ _ _ _ _ _ _ _ _ _ _ _ _ _ _ _ _ _ _ _ _ _ _ _ _ _ _ ?_
    intro r96 r97 r98 r99 r100 r101 r102 r103 r104 r105 r106 r107 r108 r109 r110 r111 r112 r113 r114 r115 r116 r117 r118 r119 r120 r121 r122 r123 r124 r125 r126 r127 r128 r129
    have cT := hT.bt.cell
    gi_wp2
    have hsW := hT.si.size
    have hDl : D < W.heap.size := (Array.getElem?_eq_some_iff.1 hK).1
    have hS1 := hT.si.grown (World.grownBy_alloc W (.cells #[.int .i64 1] 3) none)
    have hB1 := Boxed.new W 3 (.int .i64 1)
    have hK1 := (KeepsOthers.alloc W (.cells #[.int .i64 1] 3)).same D _ hK rfl
    have hX1 : (W.alloc (.cells #[.int .i64 1] 3)).heap.size = W.heap.size + 1 := by simp
    have hDN : N ≤ D := by simp at hD; omega
    clear hok hO hT cT hK hD
    revert hS1 hB1 hK1 hX1
    generalize W.alloc (.cells #[.int .i64 1] 3) = X
    intro hS1 hB1 hK1 hX1
    obtain ⟨M, hM⟩ : ∃ M, W.heap.size = M := ⟨_, rfl⟩
    rw [hM] at hB1 hX1 hsW hDl ⊢
    clear hM
    have HS1 := Lib.hid hS1
    have HK1 := Lib.hid hK1
    clear hS1 hK1
    rw [roundsIn_succ]
    have gT := hB1.cell
    gi_wp2
    have hs1 := HS1.out.grown (World.grownBy_alloc X (.cells #[.int .i64 0] 3) none)
    have hs2 := hs1.grown (World.grownBy_alloc _ (.cells #[.int .i64 0] 3) none)
    have h8 : TI w ((X.alloc (.cells #[.int .i64 0] 3)).alloc (.cells #[.int .i64 0] 3)) N P M (M + 1) (M + 1 + 1) g v 1 0 :=
      ⟨hs2, (hB1.alloc _).alloc _, by have := (Boxed.new X 3 (.int .i64 0)).alloc (.cells #[.int .i64 0] 3); rw [hX1] at this; exact this,
        by have := Boxed.new (X.alloc (.cells #[.int .i64 0] 3)) 3 (.int .i64 0); rw [World.size_alloc, hX1] at this; simpa using this⟩
    have H8 := Lib.hid h8
    have HK2 := Lib.hid ((KeepsOthers.alloc (X.alloc (.cells #[.int .i64 0] 3)) (.cells #[.int .i64 0] 3)).same D _ ((KeepsOthers.alloc X (.cells #[.int .i64 0] 3)).same D _ HK1.out rfl) rfl)
    have hX2 : ((X.alloc (.cells #[.int .i64 0] 3)).alloc (.cells #[.int .i64 0] 3)).heap.size = M + 3 := by simp [hX1]
    clear gT hs1 hs2 h8
    refine turn_yes P g v 1 w Hp.out (.inr rfl) N M (M + 1) (M + 1 + 1) _ H8.out (by omega) (by omega) (by omega) (by omega) (by omega) (by omega) _ _ _ _ _ _ _ _ _ _ _ _ _ _ _ _ _ _ _ _ _ _ _ _ _ _ _ _ _ _ _ _ _ _ _ _ _ _ _ _ _ _ _ _ _ _ _ _ _ _ _ _ _ _ _ _ _ _ _ _ _ _ _ _ _ _ _ _ _ _ _ _ _ _ _ _ _ _ _ _ _ _ _ _ _ _ _ _ _ _ _ _ _ _ _ _ _ _ _ _ _ _ _ _ _ _ _ _ _ _ _ _ _ _ _ _ _ _ _ _ _ _ _ _ _ _ ?_ ?_
    · rintro D2 W2 hD2 hT2 - hO2 hKK
      iterate 3 gi_step
      refine after_ok N (M) (M + 1) (M + 1 + 1) g P v 1 P (P * g / P) _ (by omega) (by omega) hT2.bt.cell hT2.bn.cell hT2.ba.cell hT2.si.bG.cell hT2.si.bV.cell hT2.si.bW.cell (by simp) (.inr ⟨.inl rfl, rfl, fun _ => Int.mul_ediv_cancel_left _ (by omega)⟩) _ _ _ _ _ _ _ _ _ _ _ _ _ _ _ _ _ _ _ _ _ _ _ _ _ _ _ _ _ _ _ _ _ _ _ _ _ _ _ _ _ _ _ _ _ _ _ _ _ _ _ _ _ _ _ _ _ _ _ _ _ _ _ _ _ _ _ _ _ _ _ _ _ _ _ _ _ _ _ _ _ _ _ _ _ _ _ _ _ _ _ _ _ _ _ _ _ _ _ _ _ _ _ _ _ _ _ _ _ _ _ _ _ _ _ _ _ _ _ _ _ _ _ _ _ _ _ _ _ ?_
      intro q96 q97 q98 q99 q100 q101 q102 q103 q104 q105 q106 q107 q108 q109 q110 q111 q112 q113 q114 q115 q116 q117 q118 q119 q120 q121 q122 q123 q124 q125 q126 q127 q128 q129
      have cT := hT2.bt.cell
      gi_wp2
      have hK2 := hO2.2 D _ (by omega) HK2.out rfl
      have hDl2 : D2 < W2.heap.size := (Array.getElem?_eq_some_iff.1 hKK).1
      have hS3 := hT2.si.grown (World.grownBy_alloc W2 (.cells #[.int .i64 2] 3) none)
      have hB3 := Boxed.new W2 3 (.int .i64 2)
      have hK3 := (KeepsOthers.alloc W2 (.cells #[.int .i64 2] 3)).same D _ hK2 rfl
      have hK4 := (KeepsOthers.alloc W2 (.cells #[.int .i64 2] 3)).same D2 _ hKK rfl
      rw [hX2] at hD2
      rw [roundsIn_succ]
      have gT := hB3.cell
      gi_wp2_with (gi_at_call 11; (with_reducible refine (callsIn_wide.2 (known_any _)).mono ?_); rintro e w9 ⟨rfl, hb9⟩; have hS9 := hS3.grown (below_grown hb9 none); have cR9 := hS9.bR.cell; have fR9 := hS9.bR.frozen)
      have hk9 := (KeepsOthers.of_grownBy (below_grown hb9 none) (fun j o e => by cases e)).trans (KeepsOthers.setCell w9 ⟨N + 1 + 1 + 1, 0, none⟩ (.bool true))
      exact str_end N D D2 w _ _ hN ((hS9.below).grown (grownBy_setCell' w9 (N + 1 + 1 + 1) (.bool true)) (by have := hS9.size; omega) (fun r e => by cases e; omega)) (hS9.bR.set _) (hk9.same D _ hK3 rfl) (hk9.same D2 _ hK4 rfl) (by omega) hDN (by omega) rfl
    · intro D2 k2 W2 _ _ h
      exact absurd h (by decide)
  · rintro D k W hD hT - h1 h2 h3 hO hK
    have hok : ((0 : Int) = 0 ∧ 0 < v ∧ (k : Int) = min v P) ∨ (((0 : Int) = 1 ∨ v ≤ 0) ∧ (k : Int) = P ∧ (0 < (P : Int) → (k : Int) * g / P = g)) := .inl ⟨rfl, by omega, by omega⟩
    clear h1 h2 h3
    iterate 3 gi_step
    refine after_ok N (N + 1 + 1 + 1 + 1 + 1 + 1 + 1) (N + 8) (N + 8 + 1) g P v 0 (k : Int) ((k : Int) * g / P) _ (by omega) (by omega) hT.bt.cell hT.bn.cell hT.ba.cell hT.si.bG.cell hT.si.bV.cell hT.si.bW.cell (by simp) hok _ _ _ _ _ _ _ _ _ _ _ _ _ _ _ _ _ _ _ _ _ _ _ _ _ _ _ _ _ _ _ _ _ _ _ _ _ _ _ _ _ _ _ _ _ _ _ _ _ _ _ _ _ _ _ _ _ _ _ _ _ _ _ _ _ _ _ _ _ _ _ _ _ _ _ _ _ _ _ _ _ _ _ _ _ _ _ _ _ _ _ _ _ _ _ _ _ _ _ _ _ _ _ _ _ _ _ _ _ _ _ _ _ _ _ _ _ _ _ _ _ _ _ _ _ _ _ _ _ ?_
    intro r96 r97 r98 r99 r100 r101 r102 r103 r104 r105 r106 r107 r108 r109 r110 r111 r112 r113 r114 r115 r116 r117 r118 r119 r120 r121 r122 r123 r124 r125 r126 r127 r128 r129
    have cT := hT.bt.cell
    gi_wp2
    have hsW := hT.si.size
    have hDl : D < W.heap.size := (Array.getElem?_eq_some_iff.1 hK).1
    have hS1 := hT.si.grown (World.grownBy_alloc W (.cells #[.int .i64 1] 3) none)
    have hB1 := Boxed.new W 3 (.int .i64 1)
    have hK1 := (KeepsOthers.alloc W (.cells #[.int .i64 1] 3)).same D _ hK rfl
    have hX1 : (W.alloc (.cells #[.int .i64 1] 3)).heap.size = W.heap.size + 1 := by simp
    have hDN : N ≤ D := by simp at hD; omega
    clear hok hO hT cT hK hD
    revert hS1 hB1 hK1 hX1
    generalize W.alloc (.cells #[.int .i64 1] 3) = X
    intro hS1 hB1 hK1 hX1
    obtain ⟨M, hM⟩ : ∃ M, W.heap.size = M := ⟨_, rfl⟩
    rw [hM] at hB1 hX1 hsW hDl ⊢
    clear hM
    have HS1 := Lib.hid hS1
    have HK1 := Lib.hid hK1
    clear hS1 hK1
    rw [roundsIn_succ]
    have gT := hB1.cell
    gi_wp2
    have hs1 := HS1.out.grown (World.grownBy_alloc X (.cells #[.int .i64 0] 3) none)
    have hs2 := hs1.grown (World.grownBy_alloc _ (.cells #[.int .i64 0] 3) none)
    have h8 : TI w ((X.alloc (.cells #[.int .i64 0] 3)).alloc (.cells #[.int .i64 0] 3)) N P M (M + 1) (M + 1 + 1) g v 1 0 :=
      ⟨hs2, (hB1.alloc _).alloc _, by have := (Boxed.new X 3 (.int .i64 0)).alloc (.cells #[.int .i64 0] 3); rw [hX1] at this; exact this,
        by have := Boxed.new (X.alloc (.cells #[.int .i64 0] 3)) 3 (.int .i64 0); rw [World.size_alloc, hX1] at this; simpa using this⟩
    have H8 := Lib.hid h8
    have HK2 := Lib.hid ((KeepsOthers.alloc (X.alloc (.cells #[.int .i64 0] 3)) (.cells #[.int .i64 0] 3)).same D _ ((KeepsOthers.alloc X (.cells #[.int .i64 0] 3)).same D _ HK1.out rfl) rfl)
    have hX2 : ((X.alloc (.cells #[.int .i64 0] 3)).alloc (.cells #[.int .i64 0] 3)).heap.size = M + 3 := by simp [hX1]
    clear gT hs1 hs2 h8
    refine turn_yes P g v 1 w Hp.out (.inr rfl) N M (M + 1) (M + 1 + 1) _ H8.out (by omega) (by omega) (by omega) (by omega) (by omega) (by omega) _ _ _ _ _ _ _ _ _ _ _ _ _ _ _ _ _ _ _ _ _ _ _ _ _ _ _ _ _ _ _ _ _ _ _ _ _ _ _ _ _ _ _ _ _ _ _ _ _ _ _ _ _ _ _ _ _ _ _ _ _ _ _ _ _ _ _ _ _ _ _ _ _ _ _ _ _ _ _ _ _ _ _ _ _ _ _ _ _ _ _ _ _ _ _ _ _ _ _ _ _ _ _ _ _ _ _ _ _ _ _ _ _ _ _ _ _ _ _ _ _ _ _ _ _ _ ?_ ?_
    · rintro D2 W2 hD2 hT2 - hO2 hKK
      iterate 3 gi_step
      refine after_ok N (M) (M + 1) (M + 1 + 1) g P v 1 P (P * g / P) _ (by omega) (by omega) hT2.bt.cell hT2.bn.cell hT2.ba.cell hT2.si.bG.cell hT2.si.bV.cell hT2.si.bW.cell (by simp) (.inr ⟨.inl rfl, rfl, fun _ => Int.mul_ediv_cancel_left _ (by omega)⟩) _ _ _ _ _ _ _ _ _ _ _ _ _ _ _ _ _ _ _ _ _ _ _ _ _ _ _ _ _ _ _ _ _ _ _ _ _ _ _ _ _ _ _ _ _ _ _ _ _ _ _ _ _ _ _ _ _ _ _ _ _ _ _ _ _ _ _ _ _ _ _ _ _ _ _ _ _ _ _ _ _ _ _ _ _ _ _ _ _ _ _ _ _ _ _ _ _ _ _ _ _ _ _ _ _ _ _ _ _ _ _ _ _ _ _ _ _ _ _ _ _ _ _ _ _ _ _ _ _ ?_
      intro q96 q97 q98 q99 q100 q101 q102 q103 q104 q105 q106 q107 q108 q109 q110 q111 q112 q113 q114 q115 q116 q117 q118 q119 q120 q121 q122 q123 q124 q125 q126 q127 q128 q129
      have cT := hT2.bt.cell
      gi_wp2
      have hK2 := hO2.2 D _ (by omega) HK2.out rfl
      have hDl2 : D2 < W2.heap.size := (Array.getElem?_eq_some_iff.1 hKK).1
      have hS3 := hT2.si.grown (World.grownBy_alloc W2 (.cells #[.int .i64 2] 3) none)
      have hB3 := Boxed.new W2 3 (.int .i64 2)
      have hK3 := (KeepsOthers.alloc W2 (.cells #[.int .i64 2] 3)).same D _ hK2 rfl
      have hK4 := (KeepsOthers.alloc W2 (.cells #[.int .i64 2] 3)).same D2 _ hKK rfl
      rw [hX2] at hD2
      rw [roundsIn_succ]
      have gT := hB3.cell
      gi_wp2_with (gi_at_call 11; (with_reducible refine (callsIn_wide.2 (known_any _)).mono ?_); rintro e w9 ⟨rfl, hb9⟩; have hS9 := hS3.grown (below_grown hb9 none); have cR9 := hS9.bR.cell; have fR9 := hS9.bR.frozen)
      have hk9 := (KeepsOthers.of_grownBy (below_grown hb9 none) (fun j o e => by cases e)).trans (KeepsOthers.setCell w9 ⟨N + 1 + 1 + 1, 0, none⟩ (.bool true))
      exact str_end N D D2 w _ _ hN ((hS9.below).grown (grownBy_setCell' w9 (N + 1 + 1 + 1) (.bool true)) (by have := hS9.size; omega) (fun r e => by cases e; omega)) (hS9.bR.set _) (hk9.same D _ hK3 rfl) (hk9.same D2 _ hK4 rfl) (by omega) hDN (by omega) rfl
    · intro D2 k2 W2 _ _ h
      exact absurd h (by decide)

set_option maxRecDepth 100000 in
set_option maxHeartbeats 1000000 in
theorem strLaw_no (p g v : Int) (w : World) (hp : ¬ mayB p g) (wv : (Lit.int .i64 v).wf = true) :
    Calls Try.prog 3 #[.int .i64 p, .int .i64 g, .int .i64 v] w fun e w' => e = .returned (.bool true) ∧ Below w.heap.size w w' := by
  have Hp := Lib.hid hp
  clear hp
  have hfn : ∀ W, (binOp .eql 23 (.func (.func 28) #[] #[.pointer (some ⟨w.heap.size + 1 + 1 + 1 + 1, 0, none⟩), .pointer (some ⟨w.heap.size + 1 + 1 + 1 + 1 + 1, 0, none⟩)]) .nilFunc).run Try.prog W = .ok (.bool false) W := fun W => by kernel_rfl
  refine (callsIn_wide (n := 10)).1 ?_
  refine callsIn_of_wp_marks Try.func3 rfl trivial ?_ rfl
  simp only [Try.ntmps3, List.size_toArray, List.length_cons, List.length_nil, Nat.reduceAdd, Nat.reduceSub, Array.replicate_succ, Array.replicate_zero, List.push_toArray, List.append_toArray, List.nil_append, List.cons_append]
  gi_wp2_with (first
    | (gi_at_call 8; (with_reducible refine (callsIn_wide.2 (Stretches_any _ _ _)).mono ?_); rintro e w' ⟨rfl, rfl⟩)
    | (gi_at_call 9; (with_reducible refine (callsIn_wide.2 (Workers_no _ _ _ Hp.out)).mono ?_); rintro e w' ⟨rfl, rfl⟩))
  have bP := (((((((Boxed.new (w) 3 (.int .i64 p)).alloc (.cells #[.int .i64 g] 3)).alloc (.cells #[.int .i64 v] 3)).alloc (.cells #[.bool false] 4)).alloc (.cells #[.int .i64 p] 3)).alloc (.cells #[.int .i64 g] 3)).alloc (.cells #[.int .i64 0] 3)).alloc (.cells #[.int .i64 0] 3)
  have bG := ((((((Boxed.new (w.alloc (.cells #[.int .i64 p] 3)) 3 (.int .i64 g)).alloc (.cells #[.int .i64 v] 3)).alloc (.cells #[.bool false] 4)).alloc (.cells #[.int .i64 p] 3)).alloc (.cells #[.int .i64 g] 3)).alloc (.cells #[.int .i64 0] 3)).alloc (.cells #[.int .i64 0] 3)
  have bV := (((((Boxed.new ((w.alloc (.cells #[.int .i64 p] 3)).alloc (.cells #[.int .i64 g] 3)) 3 (.int .i64 v)).alloc (.cells #[.bool false] 4)).alloc (.cells #[.int .i64 p] 3)).alloc (.cells #[.int .i64 g] 3)).alloc (.cells #[.int .i64 0] 3)).alloc (.cells #[.int .i64 0] 3)
  have bR := ((((Boxed.new (((w.alloc (.cells #[.int .i64 p] 3)).alloc (.cells #[.int .i64 g] 3)).alloc (.cells #[.int .i64 v] 3)) 4 (.bool false)).alloc (.cells #[.int .i64 p] 3)).alloc (.cells #[.int .i64 g] 3)).alloc (.cells #[.int .i64 0] 3)).alloc (.cells #[.int .i64 0] 3)
  have cP := (((Boxed.new ((((w.alloc (.cells #[.int .i64 p] 3)).alloc (.cells #[.int .i64 g] 3)).alloc (.cells #[.int .i64 v] 3)).alloc (.cells #[.bool false] 4)) 3 (.int .i64 p)).alloc (.cells #[.int .i64 g] 3)).alloc (.cells #[.int .i64 0] 3)).alloc (.cells #[.int .i64 0] 3)
  have cG := ((Boxed.new (((((w.alloc (.cells #[.int .i64 p] 3)).alloc (.cells #[.int .i64 g] 3)).alloc (.cells #[.int .i64 v] 3)).alloc (.cells #[.bool false] 4)).alloc (.cells #[.int .i64 p] 3)) 3 (.int .i64 g)).alloc (.cells #[.int .i64 0] 3)).alloc (.cells #[.int .i64 0] 3)
  have bW := (Boxed.new ((((((w.alloc (.cells #[.int .i64 p] 3)).alloc (.cells #[.int .i64 g] 3)).alloc (.cells #[.int .i64 v] 3)).alloc (.cells #[.bool false] 4)).alloc (.cells #[.int .i64 p] 3)).alloc (.cells #[.int .i64 g] 3)) 3 (.int .i64 0)).alloc (.cells #[.int .i64 0] 3)
  have bT := Boxed.new (((((((w.alloc (.cells #[.int .i64 p] 3)).alloc (.cells #[.int .i64 g] 3)).alloc (.cells #[.int .i64 v] 3)).alloc (.cells #[.bool false] 4)).alloc (.cells #[.int .i64 p] 3)).alloc (.cells #[.int .i64 g] 3)).alloc (.cells #[.int .i64 0] 3)) 3 (.int .i64 0)
  have hB0 : Below w.heap.size w ((((((((w.alloc (.cells #[.int .i64 p] 3)).alloc (.cells #[.int .i64 g] 3)).alloc (.cells #[.int .i64 v] 3)).alloc (.cells #[.bool false] 4)).alloc (.cells #[.int .i64 p] 3)).alloc (.cells #[.int .i64 g] 3)).alloc (.cells #[.int .i64 0] 3)).alloc (.cells #[.int .i64 0] 3)) := ((((((((Below.refl _ w).alloc (Nat.le_refl _) _).alloc (by simp) _).alloc (by simp; omega) _).alloc (by simp; omega) _).alloc (by simp; omega) _).alloc (by simp; omega) _).alloc (by simp; omega) _).alloc (by simp; omega) _
  have hsz : ((((((((w.alloc (.cells #[.int .i64 p] 3)).alloc (.cells #[.int .i64 g] 3)).alloc (.cells #[.int .i64 v] 3)).alloc (.cells #[.bool false] 4)).alloc (.cells #[.int .i64 p] 3)).alloc (.cells #[.int .i64 g] 3)).alloc (.cells #[.int .i64 0] 3)).alloc (.cells #[.int .i64 0] 3)).heap.size = w.heap.size + 8 := by simp
  simp only [World.size_alloc] at bG bV bR cP cG bW bT
  obtain ⟨W0, hW0⟩ : ∃ W0, (((((((w.alloc (.cells #[.int .i64 p] 3)).alloc (.cells #[.int .i64 g] 3)).alloc (.cells #[.int .i64 v] 3)).alloc (.cells #[.bool false] 4)).alloc (.cells #[.int .i64 p] 3)).alloc (.cells #[.int .i64 g] 3)).alloc (.cells #[.int .i64 0] 3)).alloc (.cells #[.int .i64 0] 3) = W0 := ⟨_, rfl⟩
  rw [hW0] at bP bG bV bR cP cG bW bT hB0 hsz ⊢
  clear hW0
  obtain ⟨N, hN⟩ : ∃ N, w.heap.size = N := ⟨_, rfl⟩
  rw [hN] at bP bG bV bR cP cG bW bT hB0 hsz ⊢
  have hS0 : SI w W0 N p 0 g v := ⟨bP, bG, bV, bR, cP, cG, bW, hB0, by omega⟩
  have HS0 := Lib.hid hS0
  clear bP bG bV bR cP cG bW hB0 hS0
  refine wpIn_loop_rounds 3 ?_
  rw [roundsIn_succ]
  have gT := bT.cell
  have gP := HS0.out.bP.cell
  have gG := HS0.out.bG.cell
  have hr1 := HS0.out.bP
  gi_wp2
  have hs1 := HS0.out.grown (World.grownBy_alloc W0 (.cells #[.int .i64 0] 3) none)
  have hs2 := hs1.grown (World.grownBy_alloc _ (.cells #[.int .i64 0] 3) none)
  have h7 : TZ w ((W0.alloc (.cells #[.int .i64 0] 3)).alloc (.cells #[.int .i64 0] 3)) N (N + 1 + 1 + 1 + 1 + 1 + 1 + 1) (N + 8) (N + 8 + 1) p g v 0 :=
    ⟨hs2, (bT.alloc _).alloc _, by have := (Boxed.new W0 3 (.int .i64 0)).alloc (.cells #[.int .i64 0] 3); rw [hsz] at this; exact this,
      by have := Boxed.new (W0.alloc (.cells #[.int .i64 0] 3)) 3 (.int .i64 0); rw [World.size_alloc, hsz] at this; simpa using this⟩
  have H7 := Lib.hid h7
  clear gT gP gG hs1 hs2 h7
  refine turn_no p g v 0 w Hp.out N (N + 1 + 1 + 1 + 1 + 1 + 1 + 1) (N + 8) (N + 8 + 1) _ H7.out _ _ _ _ _ _ _ _ _ _ _ _ _ _ _ _ _ _ _ _ _ _ _ _ _ _ _ _ _ _ _ _ _ _ _ _ _ _ _ _ _ _ _ _ _ _ _ _ _ _ _ _ _ _ _ _ _ _ _ _ _ _ _ _ _ _ _ _ _ _ _ _ _ _ _ _ _ _ _ _ _ _ _ _ _ _ _ _ _ _ _ _ _ _ _ _ _ _ _ _ _ _ _ _ _ _ _ _ _ _ _ _ _ _ _ _ _ _ _ _ _ _ _ _ _ _ ?_
  · rintro D W hD hT hO hK
    have hok : ((0 : Int) = 0 ∧ 0 < v ∧ (0 : Int) = min v 0) ∨ (((0 : Int) = 1 ∨ v ≤ 0) ∧ (0 : Int) = 0 ∧ (0 < (0 : Int) → (0 : Int) = g)) := by
      by_cases h0 : 0 < v
      · exact .inl ⟨rfl, h0, by omega⟩
      · exact .inr ⟨.inr (by omega), rfl, fun h => absurd h (by decide)⟩
    iterate 3 gi_step
    refine after_ok N (N + 1 + 1 + 1 + 1 + 1 + 1 + 1) (N + 8) (N + 8 + 1) g 0 v 0 0 0 _ (by omega) (by omega) hT.bt.cell hT.bn.cell hT.ba.cell hT.si.bG.cell hT.si.bV.cell hT.si.bW.cell (by simp) hok _ _ _ _ _ _ _ _ _ _ _ _ _ _ _ _ _ _ _ _ _ _ _ _ _ _ _ _ _ _ _ _ _ _ _ _ _ _ _ _ _ _ _ _ _ _ _ _ _ _ _ _ _ _ _ _ _ _ _ _ _ _ _ _ _ _ _ _ _ _ _ _ _ _ _ _ _ _ _ _ _ _ _ _ _ _ _ _ _ _ _ _ _ _ _ _ _ _ _ _ _ _ _ _ _ _ _ _ _ _ _ _ _ _ _ _ _ _ _ _ _ _ _ _ _ _ _ _ _ ?_
    intro r96 r97 r98 r99 r100 r101 r102 r103 r104 r105 r106 r107 r108 r109 r110 r111 r112 r113 r114 r115 r116 r117 r118 r119 r120 r121 r122 r123 r124 r125 r126 r127 r128 r129
    have cT := hT.bt.cell
    gi_wp2
    have hsW := hT.si.size
    have hDl : D < W.heap.size := (Array.getElem?_eq_some_iff.1 hK).1
    have hS1 := hT.si.grown (World.grownBy_alloc W (.cells #[.int .i64 1] 3) none)
    have hB1 := Boxed.new W 3 (.int .i64 1)
    have hK1 := (KeepsOthers.alloc W (.cells #[.int .i64 1] 3)).same D _ hK rfl
    have hX1 : (W.alloc (.cells #[.int .i64 1] 3)).heap.size = W.heap.size + 1 := by simp
    have hDN : N ≤ D := by simp at hD; omega
    clear hok hO hT cT hK hD
    revert hS1 hB1 hK1 hX1
    generalize W.alloc (.cells #[.int .i64 1] 3) = X
    intro hS1 hB1 hK1 hX1
    obtain ⟨M, hM⟩ : ∃ M, W.heap.size = M := ⟨_, rfl⟩
    rw [hM] at hB1 hX1 hsW hDl ⊢
    clear hM
    have HS1 := Lib.hid hS1
    have HK1 := Lib.hid hK1
    clear hS1 hK1
    rw [roundsIn_succ]
    have gT := hB1.cell
    gi_wp2
    have hs1 := HS1.out.grown (World.grownBy_alloc X (.cells #[.int .i64 0] 3) none)
    have hs2 := hs1.grown (World.grownBy_alloc _ (.cells #[.int .i64 0] 3) none)
    have h8 : TZ w ((X.alloc (.cells #[.int .i64 0] 3)).alloc (.cells #[.int .i64 0] 3)) N M (M + 1) (M + 1 + 1) p g v 1 :=
      ⟨hs2, (hB1.alloc _).alloc _, by have := (Boxed.new X 3 (.int .i64 0)).alloc (.cells #[.int .i64 0] 3); rw [hX1] at this; exact this,
        by have := Boxed.new (X.alloc (.cells #[.int .i64 0] 3)) 3 (.int .i64 0); rw [World.size_alloc, hX1] at this; simpa using this⟩
    have H8 := Lib.hid h8
    have HK2 := Lib.hid ((KeepsOthers.alloc (X.alloc (.cells #[.int .i64 0] 3)) (.cells #[.int .i64 0] 3)).same D _ ((KeepsOthers.alloc X (.cells #[.int .i64 0] 3)).same D _ HK1.out rfl) rfl)
    have hX2 : ((X.alloc (.cells #[.int .i64 0] 3)).alloc (.cells #[.int .i64 0] 3)).heap.size = M + 3 := by simp [hX1]
    clear gT hs1 hs2 h8
    refine turn_no p g v 1 w Hp.out N M (M + 1) (M + 1 + 1) _ H8.out _ _ _ _ _ _ _ _ _ _ _ _ _ _ _ _ _ _ _ _ _ _ _ _ _ _ _ _ _ _ _ _ _ _ _ _ _ _ _ _ _ _ _ _ _ _ _ _ _ _ _ _ _ _ _ _ _ _ _ _ _ _ _ _ _ _ _ _ _ _ _ _ _ _ _ _ _ _ _ _ _ _ _ _ _ _ _ _ _ _ _ _ _ _ _ _ _ _ _ _ _ _ _ _ _ _ _ _ _ _ _ _ _ _ _ _ _ _ _ _ _ _ _ _ _ _ ?_
    · rintro D2 W2 hD2 hT2 hO2 hKK
      iterate 3 gi_step
      refine after_ok N (M) (M + 1) (M + 1 + 1) g 0 v 1 0 0 _ (by omega) (by omega) hT2.bt.cell hT2.bn.cell hT2.ba.cell hT2.si.bG.cell hT2.si.bV.cell hT2.si.bW.cell (by simp) (.inr ⟨.inl rfl, rfl, fun h => absurd h (by decide)⟩) _ _ _ _ _ _ _ _ _ _ _ _ _ _ _ _ _ _ _ _ _ _ _ _ _ _ _ _ _ _ _ _ _ _ _ _ _ _ _ _ _ _ _ _ _ _ _ _ _ _ _ _ _ _ _ _ _ _ _ _ _ _ _ _ _ _ _ _ _ _ _ _ _ _ _ _ _ _ _ _ _ _ _ _ _ _ _ _ _ _ _ _ _ _ _ _ _ _ _ _ _ _ _ _ _ _ _ _ _ _ _ _ _ _ _ _ _ _ _ _ _ _ _ _ _ _ _ _ _ ?_
      intro q96 q97 q98 q99 q100 q101 q102 q103 q104 q105 q106 q107 q108 q109 q110 q111 q112 q113 q114 q115 q116 q117 q118 q119 q120 q121 q122 q123 q124 q125 q126 q127 q128 q129
      have cT := hT2.bt.cell
      gi_wp2
      have hK2 := hO2.2 D _ (by omega) HK2.out rfl
      have hDl2 : D2 < W2.heap.size := (Array.getElem?_eq_some_iff.1 hKK).1
      have hS3 := hT2.si.grown (World.grownBy_alloc W2 (.cells #[.int .i64 2] 3) none)
      have hB3 := Boxed.new W2 3 (.int .i64 2)
      have hK3 := (KeepsOthers.alloc W2 (.cells #[.int .i64 2] 3)).same D _ hK2 rfl
      have hK4 := (KeepsOthers.alloc W2 (.cells #[.int .i64 2] 3)).same D2 _ hKK rfl
      rw [hX2] at hD2
      rw [roundsIn_succ]
      have gT := hB3.cell
      gi_wp2_with (gi_at_call 11; (with_reducible refine (callsIn_wide.2 (known_any _)).mono ?_); rintro e w9 ⟨rfl, hb9⟩; have hS9 := hS3.grown (below_grown hb9 none); have cR9 := hS9.bR.cell; have fR9 := hS9.bR.frozen)
      have hk9 := (KeepsOthers.of_grownBy (below_grown hb9 none) (fun j o e => by cases e)).trans (KeepsOthers.setCell w9 ⟨N + 1 + 1 + 1, 0, none⟩ (.bool true))
      exact str_end N D D2 w _ _ hN ((hS9.below).grown (grownBy_setCell' w9 (N + 1 + 1 + 1) (.bool true)) (by have := hS9.size; omega) (fun r e => by cases e; omega)) (hS9.bR.set _) (hk9.same D _ hK3 rfl) (hk9.same D2 _ hK4 rfl) (by omega) hDN (by omega) rfl

theorem strLaw_any (p g v : Int) (w : World) (wp : (Lit.int .i64 p).wf = true) (wg : (Lit.int .i64 g).wf = true) (wv : (Lit.int .i64 v).wf = true) :
    Calls Try.prog 3 #[.int .i64 p, .int .i64 g, .int .i64 v] w fun e w' => e = .returned (.bool true) ∧ Below w.heap.size w w' := by
  by_cases hp : mayB p g
  · have hn : 1 ≤ p := hp.2.2.1
    have e : p = (p.toNat : Int) := by omega
    rw [e] at hp ⊢
    exact strLaw_yes p.toNat g v w hp wv
  · exact strLaw_no p g v w hp wv
end Go.Proofs.Ytdbbipdkaahplaa
