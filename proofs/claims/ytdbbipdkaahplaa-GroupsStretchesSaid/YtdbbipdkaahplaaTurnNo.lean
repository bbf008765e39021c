/- A turn of the law GroupsStretches where the iterator hands over nothing. -/
import Derived.Test.YtdbbipdkaahplaaStrEnd
namespace Go.Proofs.Ytdbbipdkaahplaa
open Go.RowKit Go.Shelf
attribute [local go_sem] Oper.semAt_some wide_fn wide_depth wide_fn_in wide_depth_in

/-- What one turn keeps where nothing comes. -/
structure TZ (w W : World) (N Bt Bn Ba : Nat) (p g v t : Int) : Prop where
  si : SI w W N p 0 g v
  bt : Boxed W Bt 3 (.int .i64 t)
  bn : Boxed W Bn 3 (.int .i64 0)
  ba : Boxed W Ba 3 (.int .i64 0)
theorem TZ.own {w W W' : World} {N Bt Bn Ba : Nat} {p g v t : Int} (h : TZ w W N Bt Bn Ba p g v t) {row : Option Nat} (hg : W.grownBy W' row) (hr : ∀ r, row = some r → N + 7 ≤ r ∧ ∃ o : Obj, W.heap[r]? = some o ∧ o.isCells = false) : TZ w W' N Bt Bn Ba p g v t :=
  ⟨h.si.kept hg (fun r e => (hr r e).1), boxed_far h.bt hg (fun r e => .inl (hr r e).2), boxed_far h.bn hg (fun r e => .inl (hr r e).2), boxed_far h.ba hg (fun r e => .inl (hr r e).2)⟩
theorem TZ.grown {w W W' : World} {N Bt Bn Ba : Nat} {p g v t : Int} (h : TZ w W N Bt Bn Ba p g v t) (hg : W.grownBy W' none) : TZ w W' N Bt Bn Ba p g v t := h.own hg (fun r e => by cases e)

set_option maxRecDepth 100000 in
set_option maxHeartbeats 2000000 in
theorem turn_no (p g v t : Int) (w : World) (hp : ¬ mayB p g) (N Bt Bn Ba : Nat) (W0 : World) (h0 : TZ w W0 N Bt Bn Ba p g v t)
    (ds : List Deferred) (s0 s1 s2 s7 s12 s13 s14 s15 s16 s17 s18 s19 s20 s21 s22 s23 s24 s25 s26 s27 s28 s29 s31 s32 s33 s34 s35 s36 s37 s38 s39 s40 s41 s42 s43 s44 s45 s46 s47 s48 s49 s50 s51 s52 s53 s54 s55 s56 s57 s58 s59 s60 s61 s62 s63 s64 s65 s66 s67 s68 s69 s70 s71 s72 s73 s74 s75 s76 s77 s78 s79 s80 s81 s82 s83 s84 s85 s86 s87 s88 s89 s90 s91 s92 s93 s94 s95 s96 s97 s98 s99 s100 s101 s102 s103 s104 s105 s106 s107 s108 s109 s110 s111 s112 s113 s114 s115 s116 s117 s118 s119 s120 s121 s122 s123 s124 s125 s126 s127 s128 s129 s130 s131 s132 : Value) (Q : Exit → Act → World → Prop)
    (hdone : ∀ (D : Nat) (W : World), W0.heap.size ≤ D → TZ w W N Bt Bn Ba p g v t → KO W0 W → W.heap[D]? = some (.deferred (some [])) → Q .normal { tmps := #[s0, s1, s2, .pointer (some ⟨N, 0, none⟩), .pointer (some ⟨N + 1, 0, none⟩), .pointer (some ⟨N + 1 + 1, 0, none⟩), .pointer (some ⟨N + 1 + 1 + 1, 0, none⟩), s7, .pointer (some ⟨N + 1 + 1 + 1 + 1 + 1 + 1, 0, none⟩), .pointer (some ⟨Bt, 0, none⟩), .pointer (some ⟨Bn, 0, none⟩), .pointer (some ⟨Ba, 0, none⟩), s12, s13, s14, s15, s16, s17, s18, s19, s20, s21, s22, s23, s24, s25, s26, s27, s28, s29, .func (.func 28) #[] #[.pointer (some ⟨N + 1 + 1 + 1 + 1, 0, none⟩), .pointer (some ⟨N + 1 + 1 + 1 + 1 + 1, 0, none⟩)], s31, s32, s33, s34, s35, s36, s37, s38, s39, s40, s41, s42, s43, s44, s45, s46, s47, s48, s49, s50, s51, s52, s53, s54, s55, s56, s57, s58, s59, s60, s61, s62, s63, s64, s65, s66, s67, s68, s69, s70, s71, s72, s73, s74, s75, s76, s77, s78, s79, s80, s81, s82, s83, s84, s85, s86, s87, s88, s89, s90, s91, s92, s93, s94, s95, s96, s97, s98, s99, s100, s101, s102, s103, s104, s105, s106, s107, s108, s109, s110, s111, s112, s113, s114, s115, s116, s117, s118, s119, s120, s121, s122, s123, s124, s125, s126, s127, s128, s129, s130, s131, s132], defers := { target := .collected D, args := #[] } :: ds } W) :
    Code.wpIn Fence.wide 10 Try.prog strRange Q { tmps := #[s0, s1, s2, .pointer (some ⟨N, 0, none⟩), .pointer (some ⟨N + 1, 0, none⟩), .pointer (some ⟨N + 1 + 1, 0, none⟩), .pointer (some ⟨N + 1 + 1 + 1, 0, none⟩), s7, .pointer (some ⟨N + 1 + 1 + 1 + 1 + 1 + 1, 0, none⟩), .pointer (some ⟨Bt, 0, none⟩), .pointer (some ⟨Bn, 0, none⟩), .pointer (some ⟨Ba, 0, none⟩), s12, s13, s14, s15, s16, s17, s18, s19, s20, s21, s22, s23, s24, s25, s26, s27, s28, s29, .func (.func 28) #[] #[.pointer (some ⟨N + 1 + 1 + 1 + 1, 0, none⟩), .pointer (some ⟨N + 1 + 1 + 1 + 1 + 1, 0, none⟩)], s31, s32, s33, s34, s35, s36, s37, s38, s39, s40, s41, s42, s43, s44, s45, s46, s47, s48, s49, s50, s51, s52, s53, s54, s55, s56, s57, s58, s59, s60, s61, s62, s63, s64, s65, s66, s67, s68, s69, s70, s71, s72, s73, s74, s75, s76, s77, s78, s79, s80, s81, s82, s83, s84, s85, s86, s87, s88, s89, s90, s91, s92, s93, s94, s95, s96, s97, s98, s99, s100, s101, s102, s103, s104, s105, s106, s107, s108, s109, s110, s111, s112, s113, s114, s115, s116, s117, s118, s119, s120, s121, s122, s123, s124, s125, s126, s127, s128, s129, s130, s131, s132], defers := ds } W0 := by
  unfold strRange
  conv => arg 4; whnf
  have hsz0 := h0.si.size
  refine wpIn_rangeFunc_ownH (α := Nat) (w := W0) rfl (by omega) (gf := 28) (lb := #[.pointer (some ⟨N + 1 + 1 + 1 + 1, 0, none⟩), .pointer (some ⟨N + 1 + 1 + 1 + 1 + 1, 0, none⟩)]) rfl trivial (enters_of Try.func28 (by kernel_rfl) rfl)
    (seq_none 9 (N + 1 + 1 + 1 + 1) (N + 1 + 1 + 1 + 1 + 1) p g W0 hp (by omega) (by omega) h0.si.cP.cell h0.si.cG.cell) keep2_t (keep2_b (by omega) (by omega)) (Below.refl _ _) (fun _ => rfl)
    (fun _ W => TZ w W N Bt Bn Ba p g v t ∧ KO W0 W)
    (fun _ _ _ => False)
    (fun s X Y row hs hg hr => ⟨hs.1.own hg (fun r e => ⟨by have := (hr r e).1; omega, (hr r e).2⟩), hs.2.grown hg (fun r e => (hr r e).1)⟩)
    (fun c s X Y row hs hg hr => hs)
    ⟨h0, Nat.le_refl _, fun _ _ _ h _ => h⟩
    (fun _ _ _ => True)
    (fun x a' _ X Y row hs hg hr => hs)
    ?assign ?body ?done ?stop
  case assign =>
    rintro l pre x W K ⟨hT, hO⟩ hK
    have hsW := hT.si.size
    simp only [strEnc, strArr] at hK ⊢
    generalize x % 1 = y at hK ⊢
    gi_wp2
    exact hK _ _ ((KeepsOthers.alloc _ _).from _) (keep2_grown (World.grownBy_alloc W _ none) (by omega) (by omega) (by simp) (by simp)) ⟨hT.grown (World.grownBy_alloc W _ none), hO.others (KeepsOthers.alloc _ _)⟩ trivial
  case body =>
    rintro l pre x a' W - - - - hlt
    exact (Nat.not_lt_zero _ hlt).elim
  case done =>
    rintro D xs W hD - ⟨hT, hO⟩ hK
    exact hdone D W hD hT hO hK
  case stop =>
    rintro D c pre W hD hpre hx hK
    exact hx.elim
end Go.Proofs.Ytdbbipdkaahplaa
