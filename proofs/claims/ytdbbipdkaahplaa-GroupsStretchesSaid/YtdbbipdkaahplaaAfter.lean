/- The region behind a turn's loop. -/
import Derived.Test.YtdbbipdkaahplaaTurn
namespace Go.Proofs.Ytdbbipdkaahplaa
open Go.RowKit Go.Shelf

def firstRegion (k : Nat) : Code → Option Code
  | .region i ops d => if i = k then some (.region i ops d) else none
  | .rangeFunc _ _ a b => match firstRegion k a with
    | some c => some c
    | none => firstRegion k b
  | .seq a b => match firstRegion k a with
    | some c => some c
    | none => firstRegion k b
  | .block _ c => firstRegion k c
  | .loop c => firstRegion k c
  | .scope c => firstRegion k c
  | .cond _ a b => match firstRegion k a with
    | some c => some c
    | none => firstRegion k b
  | _ => none
noncomputable def strAfter : Code := (Try.f3.body.bind (firstRegion 20)).getD .skip

set_option maxRecDepth 100000 in
set_option maxHeartbeats 1000000 in
theorem after_ok (N Bt Bn Ba : Nat) (g u v t k A : Int) (W0 : World) (hk0 : 0 ≤ k) (hu0 : 0 ≤ u)
    (cT : W0.cell? ⟨Bt, 0, none⟩ = some (.int .i64 t)) (cN : W0.cell? ⟨Bn, 0, none⟩ = some (.int .i64 k)) (cA : W0.cell? ⟨Ba, 0, none⟩ = some (.int .i64 A))
    (cG : W0.cell? ⟨N + 1, 0, none⟩ = some (.int .i64 g)) (cV : W0.cell? ⟨N + 1 + 1, 0, none⟩ = some (.int .i64 v)) (cW : W0.cell? ⟨N + 1 + 1 + 1 + 1 + 1 + 1, 0, none⟩ = some (.int .i64 u))
    (ht : t = 0 ∨ t = 1) (hok : (t = 0 ∧ 0 < v ∧ k = min v u) ∨ ((t = 1 ∨ v ≤ 0) ∧ k = u ∧ (0 < u → A = g)))
    (ds : List Deferred) (s0 s1 s2 s3 s6 s7 s12 s13 s14 s15 s16 s17 s18 s19 s20 s21 s22 s23 s24 s25 s26 s27 s28 s29 s30 s31 s32 s33 s34 s35 s36 s37 s38 s39 s40 s41 s42 s43 s44 s45 s46 s47 s48 s49 s50 s51 s52 s53 s54 s55 s56 s57 s58 s59 s60 s61 s62 s63 s64 s65 s66 s67 s68 s69 s70 s71 s72 s73 s74 s75 s76 s77 s78 s79 s80 s81 s82 s83 s84 s85 s86 s87 s88 s89 s90 s91 s92 s93 s94 s95 s96 s97 s98 s99 s100 s101 s102 s103 s104 s105 s106 s107 s108 s109 s110 s111 s112 s113 s114 s115 s116 s117 s118 s119 s120 s121 s122 s123 s124 s125 s126 s127 s128 s129 s130 s131 s132 : Value) (Q : Exit → Act → World → Prop)
    (hQ : ∀ (r96 r97 r98 r99 r100 r101 r102 r103 r104 r105 r106 r107 r108 r109 r110 r111 r112 r113 r114 r115 r116 r117 r118 r119 r120 r121 r122 r123 r124 r125 r126 r127 r128 r129 : Value), Q .normal { tmps := #[s0, s1, s2, s3, .pointer (some ⟨N + 1, 0, none⟩), .pointer (some ⟨N + 1 + 1, 0, none⟩), s6, s7, .pointer (some ⟨N + 1 + 1 + 1 + 1 + 1 + 1, 0, none⟩), .pointer (some ⟨Bt, 0, none⟩), .pointer (some ⟨Bn, 0, none⟩), .pointer (some ⟨Ba, 0, none⟩), s12, s13, s14, s15, s16, s17, s18, s19, s20, s21, s22, s23, s24, s25, s26, s27, s28, s29, s30, s31, s32, s33, s34, s35, s36, s37, s38, s39, s40, s41, s42, s43, s44, s45, s46, s47, s48, s49, s50, s51, s52, s53, s54, s55, s56, s57, s58, s59, s60, s61, s62, s63, s64, s65, s66, s67, s68, s69, s70, s71, s72, s73, s74, s75, s76, s77, s78, s79, s80, s81, s82, s83, s84, s85, s86, s87, s88, s89, s90, s91, s92, s93, s94, s95, r96, r97, r98, r99, r100, r101, r102, r103, r104, r105, r106, r107, r108, r109, r110, r111, r112, r113, r114, r115, r116, r117, r118, r119, r120, r121, r122, r123, r124, r125, r126, r127, r128, r129, .bool false, s131, s132], defers := ds } W0) :
    Code.wpIn Fence.wide 10 Try.prog strAfter Q { tmps := #[s0, s1, s2, s3, .pointer (some ⟨N + 1, 0, none⟩), .pointer (some ⟨N + 1 + 1, 0, none⟩), s6, s7, .pointer (some ⟨N + 1 + 1 + 1 + 1 + 1 + 1, 0, none⟩), .pointer (some ⟨Bt, 0, none⟩), .pointer (some ⟨Bn, 0, none⟩), .pointer (some ⟨Ba, 0, none⟩), s12, s13, s14, s15, s16, s17, s18, s19, s20, s21, s22, s23, s24, s25, s26, s27, s28, s29, s30, s31, s32, s33, s34, s35, s36, s37, s38, s39, s40, s41, s42, s43, s44, s45, s46, s47, s48, s49, s50, s51, s52, s53, s54, s55, s56, s57, s58, s59, s60, s61, s62, s63, s64, s65, s66, s67, s68, s69, s70, s71, s72, s73, s74, s75, s76, s77, s78, s79, s80, s81, s82, s83, s84, s85, s86, s87, s88, s89, s90, s91, s92, s93, s94, s95, s96, s97, s98, s99, s100, s101, s102, s103, s104, s105, s106, s107, s108, s109, s110, s111, s112, s113, s114, s115, s116, s117, s118, s119, s120, s121, s122, s123, s124, s125, s126, s127, s128, s129, s130, s131, s132], defers := ds } W0 := by
  have HQ := Lib.hid hQ
  clear hQ
  refine wpIn_wide.2 ?_
  unfold strAfter
  conv => arg 2; whnf
  rcases hok with ⟨h1, h2, h3⟩ | ⟨h1, h2, h3⟩
  · subst h1
    have b0 : ((0 : Int) == 0) = true := rfl
    have b1 : decide (0 < v) = true := by simpa using h2
    have b3 : decide (v ≤ 0) = false := by simp; omega
    have b4 : decide ((0 : Int) < 0) = false := rfl
    have b5 : (k == k) = true := beq_self_eq_true k
    have b6 : (k != k) = false := by simp
    by_cases hm : v < u
    · have hk : k = v := by omega
      subst hk
      clear h2 h3 ht
      go_wp2
      all_goals first | exact HQ.out _ _ _ _ _ _ _ _ _ _ _ _ _ _ _ _ _ _ _ _ _ _ _ _ _ _ _ _ _ _ _ _ _ _ | omega
    · have hk : k = u := by omega
      subst hk
      clear h2 h3 ht
      go_wp2
      all_goals first | exact HQ.out _ _ _ _ _ _ _ _ _ _ _ _ _ _ _ _ _ _ _ _ _ _ _ _ _ _ _ _ _ _ _ _ _ _ | omega
  · subst h2
    have b5 : (k == k) = true := beq_self_eq_true k
    have b6 : (k != k) = false := by simp
    have hb : ∃ b, decide (0 < v) = b := ⟨_, rfl⟩
    rcases ht with ht | ht
    · subst ht
      have b0 : ((0 : Int) == 0) = true := rfl
      have hv : v ≤ 0 := by rcases h1 with h | h <;> omega
      have b1 : decide (0 < v) = false := by simpa using hv
      have b3 : decide (v ≤ 0) = true := by simpa using hv
      have b4 : decide ((0 : Int) < 0) = false := rfl
      by_cases hk : 0 < k
      · have b7 : decide (0 < k) = true := by simpa using hk
        have b8 : (A == g) = true := beq_iff_eq.2 (h3 hk)
        have b9 : (A != g) = false := by simp [h3 hk]
        clear h1 h3 hv hk hb
        go_wp2
        exact HQ.out _ _ _ _ _ _ _ _ _ _ _ _ _ _ _ _ _ _ _ _ _ _ _ _ _ _ _ _ _ _ _ _ _ _
      · have b7 : decide (0 < k) = false := by simpa using hk
        clear h1 h3 hv hk hb
        go_wp2
        exact HQ.out _ _ _ _ _ _ _ _ _ _ _ _ _ _ _ _ _ _ _ _ _ _ _ _ _ _ _ _ _ _ _ _ _ _
    · subst ht
      have b0 : ((1 : Int) == 0) = false := rfl
      have b4 : decide ((0 : Int) < 1) = true := rfl
      by_cases hk : 0 < k
      · have b7 : decide (0 < k) = true := by simpa using hk
        have b8 : (A == g) = true := beq_iff_eq.2 (h3 hk)
        have b9 : (A != g) = false := by simp [h3 hk]
        clear h1 h3 hk hb
        go_wp2
        exact HQ.out _ _ _ _ _ _ _ _ _ _ _ _ _ _ _ _ _ _ _ _ _ _ _ _ _ _ _ _ _ _ _ _ _ _
      · have b7 : decide (0 < k) = false := by simpa using hk
        clear h1 h3 hk hb
        go_wp2
        exact HQ.out _ _ _ _ _ _ _ _ _ _ _ _ _ _ _ _ _ _ _ _ _ _ _ _ _ _ _ _ _ _ _ _ _ _
end Go.Proofs.Ytdbbipdkaahplaa
