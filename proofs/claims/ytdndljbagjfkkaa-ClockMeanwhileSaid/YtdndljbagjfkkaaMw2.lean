/- ClockMeanwhile: the first loop; what follows the range. -/
import Derived.Test.YtdndljbagjfkkaaMw1
namespace Go.Proofs.Ytdndljbagjfkkaa
open Go.RowKit Go.Shelf Go.Lib
def firstLoop : Code → Option Code
  | .loop c => some (.loop c)
  | .seq a b => match firstLoop a with
    | some c => some c
    | none => firstLoop b
  | .block _ c => firstLoop c
  | .scope c => firstLoop c
  | .cond _ a b => match firstLoop a with
    | some c => some c
    | none => firstLoop b
  | _ => none
noncomputable def mwLoop : Code := (Try.f4.body.bind firstLoop).getD .skip
noncomputable def mwAfter : Code := (Try.f4.body.bind (firstRegion 23)).getD .skip
set_option maxRecDepth 100000 in
set_option maxHeartbeats 4000000 in
theorem mw_after (hn B4 B5 B7 B10 B12 c d nb dw capw B : Nat) (Lm : List Int) (H : List Hd) (X : Nat → Prop) (A : Option Addr) (W0 : World)
    (b4 : Boxed W0 B4 4 (.bool false)) (b5 : Boxed W0 B5 24 (.pointer (some ⟨c, 0, none⟩))) (b7 : Boxed W0 B7 40 (.pointer (some ⟨d, 0, none⟩))) (b10 : Boxed W0 B10 40 (.pointer (some ⟨dw, 0, none⟩))) (b12 : Boxed W0 B12 3 (.int .i64 (hn : Int)))
    (cw : W0.cell? ⟨dw, 1, none⟩ = some (.slice A hn capw)) (hp : PrS W0 X c d nb Lm H B) (hB : B ≤ 4398046511104) (n1 : B12 ≠ B4) (n2 : B10 ≠ B4) (n3 : dw ≠ B4) (n4 : B5 ≠ B4) (n5 : B7 ≠ B4)
    (ds : List Deferred) (s0 s1 s2 s3 s6 s8 s9 s11 s13 s14 s15 s16 s17 s18 s19 s20 s21 s22 s23 s24 s25 s26 s27 s28 s29 s30 s31 s32 s33 s34 s35 s36 s37 s38 s39 s40 s41 s42 s43 s44 s45 s46 s47 s48 s49 s50 s51 s52 s53 s54 s55 s56 s57 s58 s59 s60 s61 s62 s63 s64 s65 s66 s67 s68 s69 s70 s71 s72 s73 s74 s75 s76 s77 s78 s79 s80 s81 s82 s83 s84 s85 s86 s87 s88 s89 s90 s91 s92 s93 s94 s95 s96 s97 s98 s99 s100 s101 s102 s103 s104 s105 s106 s107 s108 s109 s110 s111 s112 s113 s114 s115 s116 s117 s118 s119 s120 s121 s122 s123 s124 s125 s126 s127 s128 s129 s130 s131 s132 s133 s134 s135 s136 s137 : Value) (Q : Exit → Act → World → Prop)
    (hQ : ∀ (r118 r119 r120 r121 r122 r123 r124 r125 r126 r127 r128 r129 r130 r131 r132 r133 r134 r135 r136 r137 : Value) (W1 : World), Below W0.heap.size W0 W1 → Q .normal { tmps := #[s0, s1, s2, s3, .pointer (some ⟨B4, 0, none⟩), .pointer (some ⟨B5, 0, none⟩), s6, .pointer (some ⟨B7, 0, none⟩), s8, s9, .pointer (some ⟨B10, 0, none⟩), s11, .pointer (some ⟨B12, 0, none⟩), s13, s14, s15, s16, s17, s18, s19, s20, s21, s22, s23, s24, s25, s26, s27, s28, s29, s30, s31, s32, s33, s34, s35, s36, s37, s38, s39, s40, s41, s42, s43, s44, s45, s46, s47, s48, s49, s50, s51, s52, s53, s54, s55, s56, s57, s58, s59, s60, s61, s62, s63, s64, s65, s66, s67, s68, s69, s70, s71, s72, s73, s74, s75, s76, s77, s78, s79, s80, s81, s82, s83, s84, s85, s86, s87, s88, s89, s90, s91, s92, s93, s94, s95, s96, s97, s98, s99, s100, s101, s102, s103, s104, s105, s106, s107, s108, s109, s110, s111, s112, s113, s114, s115, s116, s117, r118, r119, r120, r121, r122, r123, r124, r125, r126, r127, r128, r129, r130, r131, r132, r133, r134, r135, r136, r137], defers := ds } (W1.setCell ⟨B4, 0, none⟩ (.bool true))) :
    Code.wpIn Fence.wide 10 Try.prog mwAfter Q { tmps := #[s0, s1, s2, s3, .pointer (some ⟨B4, 0, none⟩), .pointer (some ⟨B5, 0, none⟩), s6, .pointer (some ⟨B7, 0, none⟩), s8, s9, .pointer (some ⟨B10, 0, none⟩), s11, .pointer (some ⟨B12, 0, none⟩), s13, s14, s15, s16, s17, s18, s19, s20, s21, s22, s23, s24, s25, s26, s27, s28, s29, s30, s31, s32, s33, s34, s35, s36, s37, s38, s39, s40, s41, s42, s43, s44, s45, s46, s47, s48, s49, s50, s51, s52, s53, s54, s55, s56, s57, s58, s59, s60, s61, s62, s63, s64, s65, s66, s67, s68, s69, s70, s71, s72, s73, s74, s75, s76, s77, s78, s79, s80, s81, s82, s83, s84, s85, s86, s87, s88, s89, s90, s91, s92, s93, s94, s95, s96, s97, s98, s99, s100, s101, s102, s103, s104, s105, s106, s107, s108, s109, s110, s111, s112, s113, s114, s115, s116, s117, s118, s119, s120, s121, s122, s123, s124, s125, s126, s127, s128, s129, s130, s131, s132, s133, s134, s135, s136, s137], defers := ds } W0 := by
  have HQ := Lib.hid hQ
  have HTE : Hid (∀ W, Below W0.heap.size W0 W → Calls Try.prog 22 #[.pointer (some ⟨c, 0, none⟩), .pointer (some ⟨d, 0, none⟩)] W fun e w' => e = .returned (.bool true) ∧ Below W.heap.size W w') := fun W hW => tells_yes (hp.below hW)
  have HGO : Hid (∀ W, Below W0.heap.size W0 W → Calls Try.prog 23 #[.pointer (some ⟨c, 0, none⟩), .pointer (some ⟨d, 0, none⟩), .int .i64 0] W fun e w' => e = .returned (.bool true) ∧ Below W.heap.size W w') := fun W hW => by
    obtain ⟨T, ht, Xc, Xr, n, hc, hr, h1, h2, h3⟩ := (hp.below hW).ex
    exact goes_yes hc hr ht (by omega) (fun x hx => (hp.ok x hx).1) 0
  have HB := Lib.hid (below_drew W0)
  have HB4 : Hid (∀ W, Below W0.heap.size W0 W → Boxed W B4 4 (.bool false)) := fun W hW => (hW.block B4 b4.lt).trans b4
  have HSV : Hid (∀ W, Below W0.heap.size W0 W → W.cell? ⟨B12, 0, none⟩ = some (.int .i64 (hn : Int)) ∧ W.cell? ⟨B10, 0, none⟩ = some (.pointer (some ⟨dw, 0, none⟩)) ∧ W.cell? ⟨dw, 1, none⟩ = some (.slice A hn capw) ∧ W.cell? ⟨B5, 0, none⟩ = some (.pointer (some ⟨c, 0, none⟩)) ∧ W.cell? ⟨B7, 0, none⟩ = some (.pointer (some ⟨d, 0, none⟩)) ∧ W.frozen? ⟨B4, 0, none⟩ = false) := fun W hW => by
    have kb : ∀ {b : Nat} {j : Nat} {v : Value}, W0.cell? ⟨b, j, none⟩ = some v → W.cell? ⟨b, j, none⟩ = some v := fun {b j v} h => (World.cell?_of_block (a := ⟨b, j, none⟩) (hW.block b (Clock.block_lt h))).trans h
    exact ⟨kb b12.cell, kb b10.cell, kb cw, kb b5.cell, kb b7.cell, (HB4.out W hW).frozen⟩
  have HSW : Hid (∀ W, Below W0.heap.size W0 W → (W.setCell ⟨B4, 0, none⟩ (.bool true)).cell? ⟨B12, 0, none⟩ = some (.int .i64 (hn : Int)) ∧ (W.setCell ⟨B4, 0, none⟩ (.bool true)).cell? ⟨B10, 0, none⟩ = some (.pointer (some ⟨dw, 0, none⟩)) ∧ (W.setCell ⟨B4, 0, none⟩ (.bool true)).cell? ⟨dw, 1, none⟩ = some (.slice A hn capw) ∧ (W.setCell ⟨B4, 0, none⟩ (.bool true)).cell? ⟨B5, 0, none⟩ = some (.pointer (some ⟨c, 0, none⟩)) ∧ (W.setCell ⟨B4, 0, none⟩ (.bool true)).cell? ⟨B7, 0, none⟩ = some (.pointer (some ⟨d, 0, none⟩)) ∧ (W.setCell ⟨B4, 0, none⟩ (.bool true)).frozen? ⟨B4, 0, none⟩ = false) := fun W hW => by
    have kb : ∀ {b : Nat} {j : Nat} {v : Value}, b ≠ B4 → W0.cell? ⟨b, j, none⟩ = some v → (W.setCell ⟨B4, 0, none⟩ (.bool true)).cell? ⟨b, j, none⟩ = some v := fun {b j v} hn h => (World.cell?_of_block (a := ⟨b, j, none⟩) (((Only.set (X := fun k => k = B4) ⟨B4, 0, none⟩ (.bool true) rfl W).block b (Nat.lt_of_lt_of_le (Clock.block_lt h) hW.size) hn).trans (hW.block b (Clock.block_lt h)))).trans h
    exact ⟨kb n1 b12.cell, kb n2 b10.cell, kb n3 cw, kb n4 b5.cell, kb n5 b7.cell, ((HB4.out W hW).set (.bool true)).frozen⟩
  clear hQ hp b4 b5 b7 b10 b12 cw
  refine wpIn_wide.2 ?_
  unfold mwAfter
  conv => arg 2; whnf
  have hmm : ((hn : Int) == (hn : Int)) = true := by simp
  go_region_held3 (fun W => W.cell? ⟨B12, 0, none⟩ = some (.int .i64 (hn : Int)) ∧ W.cell? ⟨B10, 0, none⟩ = some (.pointer (some ⟨dw, 0, none⟩)) ∧ W.cell? ⟨dw, 1, none⟩ = some (.slice A hn capw) ∧ W.cell? ⟨B5, 0, none⟩ = some (.pointer (some ⟨c, 0, none⟩)) ∧ W.cell? ⟨B7, 0, none⟩ = some (.pointer (some ⟨d, 0, none⟩)) ∧ W.frozen? ⟨B4, 0, none⟩ = false)
    (first | exact HSV.out _ HB.out | exact HSW.out _ HB.out)
    (first
      | (go_at_call 22; (with_reducible refine (HTE.out _ HB.out).mono ?_); rintro e w1 ⟨rfl, hb⟩
         replace HB := Lib.hid (HB.out.trans (hb.mono HB.out.size))
         clear hb)
      | (go_at_call 23; (with_reducible refine (HGO.out _ HB.out).mono ?_); rintro e w1 ⟨rfl, hb⟩
         replace HB := Lib.hid (HB.out.trans (hb.mono HB.out.size))
         clear hb)
      | (go_at_call 7; (with_reducible refine (known_any _).mono ?_); rintro e w1 ⟨rfl, hb⟩
         replace HB := Lib.hid (HB.out.trans (hb.mono HB.out.size))
         have c4 := (HB4.out _ HB.out).cell
         have f4 := (HB4.out _ HB.out).frozen
         clear hb))
  all_goals go_simp
  all_goals exact HQ.out _ _ _ _ _ _ _ _ _ _ _ _ _ _ _ _ _ _ _ _ _ HB.out
end Go.Proofs.Ytdndljbagjfkkaa
