/- goes: the region behind a turn; the leaving. -/
import Derived.Test.YtdndljbagjfkkaaGoes
namespace Go.Proofs.Ytdndljbagjfkkaa
open Go.RowKit Go.Shelf Go.Lib
def firstRegion (k : Nat) : Code → Option Code
  | .region i ops d => if i = k then some (.region i ops d) else none
  | .rangeFunc _ _ a b => match firstRegion k a with
    | some c => some c
    | none => firstRegion k b
  | .seq a b => match firstRegion k a with
    | some c => some c
    | none => firstRegion k b
  | .block _ c => firstRegion k c
  | .loop c => firstRegion k c
  | .scope c => firstRegion k c
  | .cond _ a b => match firstRegion k a with
    | some c => some c
    | none => firstRegion k b
  | _ => none
noncomputable def goesAfter : Code := (Try.f23.body.bind (firstRegion 18)).getD .skip
set_option maxRecDepth 100000 in
set_option maxHeartbeats 1000000 in
theorem goes_after (m : Nat) (lv t n : Int) (B5 B6 B8 Bt Bn : Nat) (A : Option Addr) (cap : Nat) (W0 : World)
    (cL : W0.cell? ⟨B5, 0, none⟩ = some (.int .i64 lv)) (cW : W0.cell? ⟨B8, 0, none⟩ = some (.slice A m cap)) (cT : W0.cell? ⟨Bt, 0, none⟩ = some (.int .i64 t)) (cN : W0.cell? ⟨Bn, 0, none⟩ = some (.int .i64 n))
    (ht : t = 0 ∨ t = 1) (hok : (t = 0 ∧ 0 < lv ∧ n = min lv m) ∨ ((t = 1 ∨ lv ≤ 0) ∧ n = m))
    (ds : List Deferred) (s0 s1 s2 s3 s4 s7 s11 s12 s13 s14 s15 s16 s17 s18 s19 s20 s21 s22 s23 s24 s25 s26 s27 s28 s29 s30 s31 s32 s33 s34 s35 s36 s37 s38 s39 s40 s41 s42 s43 s44 s45 s46 s47 s48 s49 s50 s51 s52 s53 s54 s55 s56 s57 s58 s59 s60 s61 s62 s63 s64 s65 s66 s67 s68 s69 s70 s71 s72 s73 s74 s75 s76 s77 s78 s79 s80 s81 s82 s83 s84 s85 s86 s87 s88 s89 : Value) (Q : Exit → Act → World → Prop)
    (hQ : ∀ (r61 r62 r63 r64 r65 r66 r67 r68 r69 r70 r71 r72 r73 r74 r75 r76 r77 r78 r79 r80 r81 r82 r83 r84 r85 r86 r87 : Value), Q .normal { tmps := #[s0, s1, s2, s3, s4, .pointer (some ⟨B5, 0, none⟩), .pointer (some ⟨B6, 0, none⟩), s7, .pointer (some ⟨B8, 0, none⟩), .pointer (some ⟨Bt, 0, none⟩), .pointer (some ⟨Bn, 0, none⟩), s11, s12, s13, s14, s15, s16, s17, s18, s19, s20, s21, s22, s23, s24, s25, s26, s27, s28, s29, s30, s31, s32, s33, s34, s35, s36, s37, s38, s39, s40, s41, s42, s43, s44, s45, s46, s47, s48, s49, s50, s51, s52, s53, s54, s55, s56, s57, s58, s59, s60, r61, r62, r63, r64, r65, r66, r67, r68, r69, r70, r71, r72, r73, r74, r75, r76, r77, r78, r79, r80, r81, r82, r83, r84, r85, r86, r87, .bool false, s89], defers := ds } W0) :
    Code.wpIn Fence.wide 10 Try.prog goesAfter Q { tmps := #[s0, s1, s2, s3, s4, .pointer (some ⟨B5, 0, none⟩), .pointer (some ⟨B6, 0, none⟩), s7, .pointer (some ⟨B8, 0, none⟩), .pointer (some ⟨Bt, 0, none⟩), .pointer (some ⟨Bn, 0, none⟩), s11, s12, s13, s14, s15, s16, s17, s18, s19, s20, s21, s22, s23, s24, s25, s26, s27, s28, s29, s30, s31, s32, s33, s34, s35, s36, s37, s38, s39, s40, s41, s42, s43, s44, s45, s46, s47, s48, s49, s50, s51, s52, s53, s54, s55, s56, s57, s58, s59, s60, s61, s62, s63, s64, s65, s66, s67, s68, s69, s70, s71, s72, s73, s74, s75, s76, s77, s78, s79, s80, s81, s82, s83, s84, s85, s86, s87, s88, s89], defers := ds } W0 := by
  have HQ := Lib.hid hQ
  clear hQ
  refine wpIn_wide.2 ?_
  unfold goesAfter
  conv => arg 2; whnf
  have hmm : ((m : Int) != (m : Int)) = false := by simp
  rcases hok with ⟨h1, h2, h3⟩ | ⟨h1, h2⟩
  · subst h1
    have b0 : ((0 : Int) == 0) = true := rfl
    have b1 : decide (0 < lv) = true := by simpa using h2
    have b3 : decide (lv ≤ 0) = false := by simp; omega
    have b4 : decide ((0 : Int) < 0) = false := rfl
    have b6 : (n != min lv (m : Int)) = false := by rw [h3]; simp
    clear h2 h3 ht hmm
    go_wp2
    all_goals exact HQ.out _ _ _ _ _ _ _ _ _ _ _ _ _ _ _ _ _ _ _ _ _ _ _ _ _ _ _
  · subst h2
    rcases ht with ht | ht
    · subst ht
      have h0 : lv ≤ 0 := by omega
      have b0 : ((0 : Int) == 0) = true := rfl
      have b1 : decide (0 < lv) = false := by simpa using h0
      have b3 : decide (lv ≤ 0) = true := by simpa using h0
      have b4 : decide ((0 : Int) < 0) = false := rfl
      clear h0 h1
      go_wp2
      all_goals exact HQ.out _ _ _ _ _ _ _ _ _ _ _ _ _ _ _ _ _ _ _ _ _ _ _ _ _ _ _
    · subst ht
      have b0 : ((1 : Int) == 0) = false := rfl
      have b4 : decide ((0 : Int) < 1) = true := rfl
      clear h1
      go_wp2
      all_goals exact HQ.out _ _ _ _ _ _ _ _ _ _ _ _ _ _ _ _ _ _ _ _ _ _ _ _ _ _ _
theorem goes_end (N B6 D1 D2 : Nat) (w W : World) (tm : Array Value) (hN : w.heap.size = N) (hb : Below N w W) (hR : Boxed W B6 4 (.bool true))
    (h1 : W.heap[D1]? = some (.deferred (some []))) (h2 : W.heap[D2]? = some (.deferred (some []))) (hne : D1 ≠ D2) (hg1 : N ≤ D1) (hg2 : N ≤ D2)
    (ht : tm[6]?.getD undef = .pointer (some ⟨B6, 0, none⟩)) :
    LeavesInM Fence.wide 10 Try.prog Try.f23 tm (fun e w' => e = Ending.returned (.bool true) ∧ Below w.heap.size w w') [{ target := .collected D2, args := #[] }, { target := .collected D1, args := #[] }] .returning W := by
  subst hN
  have h1' : (W.putObj D2 (.deferred none)).heap[D1]? = some (.deferred (some [])) := (World.putObj_heap_other hne).trans h1
  have hb1 := hb.trans (belowK_b (n₀ := w.heap.size) (w := w) (Nat.le_refl _) W D2 _ (.deferred none) hg2 h2 rfl rfl)
  have hb2 := hb1.trans (belowK_b (n₀ := w.heap.size) (w := w) (Nat.le_refl _) _ D1 _ (.deferred none) hg1 h1' rfl rfl)
  have boxed_far : ∀ {W W' : World} {u : Value} {r : Nat} {o : Obj}, Boxed W B6 4 u → W.grownBy W' (some r) → W.heap[r]? = some o → o.isCells = false → Boxed W' B6 4 u := fun {W W' u r o} h hg ho hc => h.kept hg (fun e' => by
    cases e'
    rw [show W.heap[B6]? = _ from h] at ho; cases ho; cases hc)
  have hr1 := boxed_far hR (grownBy_putObj' W D2 (.deferred none)) h2 rfl
  have hr2 := boxed_far hr1 (grownBy_putObj' _ D1 (.deferred none)) h1' rfl
  refine ⟨by simp, .inl ⟨_, _, rfl, run_takeDeferred h2, ?_⟩⟩
  refine ⟨by simp, .inl ⟨_, _, rfl, run_takeDeferred h1', ?_⟩⟩
  refine ⟨.bool true, ?_, rfl, hb2⟩
  have hc := hr2.cell
  simp [results, Try.f23, go_sem, ht, hc]
end Go.Proofs.Ytdndljbagjfkkaa
