/- The walks of known and of the law MergeJoins. -/
import Derived.Test.YtjdfjaocidjhlaaSame
namespace Go.Proofs.Ytjdfjaocidjhlaa
open Go.RowKit

def kl : List Wn := [⟨0, 5, 0, 2, 7, 3, 4, 0, 0⟩, ⟨5, 8, 5, 1, 9, 9, 9, 0, 0⟩]
theorem kl_ap : Ap kl := by
  refine ⟨fun x hx => ?_, ?_⟩
  · simp only [kl, List.mem_cons, List.not_mem_nil, or_false] at hx
    rcases hx with rfl | rfl
    · exact ⟨by decide, by decide, by decide, by decide⟩
    · exact ⟨by decide, by decide, by decide, by decide⟩
  · simp [kl]
theorem kl_join : joinW kl 4 6 5 6 = [⟨0, 8, 5, 3, 16, 3, 9, 0, 0⟩] := by kernel_rfl
theorem kl_frm : frm kl 4 = 0 := by kernel_rfl

set_option maxRecDepth 100000 in
set_option maxHeartbeats 1000000 in
theorem known_any (w : World) : Calls Try.prog 7 #[] w fun e w' => e = .returned (.bool true) ∧ Below w.heap.size w w' := by
  have hW : Rw (w.alloc (.cells #[.int .i64 0, .int .i64 5, .int .i64 0, .int .i64 2, .int .i64 7, .int .i64 3, .int .i64 4, .int .i64 0, .int .i64 0, .int .i64 5, .int .i64 8, .int .i64 5, .int .i64 1, .int .i64 9, .int .i64 9, .int .i64 9, .int .i64 0, .int .i64 0] 43)) (.slice (some ⟨w.heap.size, 0, none⟩) 2 2) kl := by
    refine Rw.of_cells rfl (by decide) (by decide) (by simp) fun j u hj => ?_
    have := news_lit w #[.int .i64 0, .int .i64 5, .int .i64 0, .int .i64 2, .int .i64 7, .int .i64 3, .int .i64 4, .int .i64 0, .int .i64 0, .int .i64 5, .int .i64 8, .int .i64 5, .int .i64 1, .int .i64 9, .int .i64 9, .int .i64 9, .int .i64 0, .int .i64 0] 43 w.heap.size rfl j u hj
    rw [addr_add, Nat.zero_add] at this
    exact this
  have HW := Lib.hid hW
  have HJ : Hid (∀ W, Below (w.heap.size + 1) (w.alloc (.cells #[.int .i64 0, .int .i64 5, .int .i64 0, .int .i64 2, .int .i64 7, .int .i64 3, .int .i64 4, .int .i64 0, .int .i64 0, .int .i64 5, .int .i64 8, .int .i64 5, .int .i64 1, .int .i64 9, .int .i64 9, .int .i64 9, .int .i64 0, .int .i64 0] 43)) W → Calls Try.prog 11 #[.slice (some ⟨w.heap.size, 0, none⟩) 2 2, .agg #[.int .i64 4, .int .i64 6], .int .i64 5, .int .i64 6] W fun e w' => ∃ v', e = .returned (.tuple #[v', .int .i64 0, .int .i64 0]) ∧ Below W.heap.size W w' ∧ w'.ownsRow W.heap.size 43 9 v' (0 + 1) (wcells [⟨0, 8, 5, 3, 16, 3, 9, 0, 0⟩])) := fun W hb => by
    have h := Join_yes _ kl 4 6 5 6 W (hW.below (by simpa using hb)) kl_ap (by decide) (by decide)
    rw [kl_join, kl_frm] at h
    exact h
  clear hW
  go_enter Try.func7, Try.ntmps7
  go_wp2_with (first
    | (go_at_call 11; (with_reducible refine (HJ.out _ (Below.refl _ _)).mono ?_); rintro e w1 ⟨v', rfl, hb1, ho1⟩
       obtain ⟨g1, cap1, rfl, _, hgl, hcl, hcm, hcell, -⟩ := ownsRow_open ho1
       have q1 : w1.cell? ⟨g1, 1, none⟩ = some (.int .i64 8) := hcell 1 _ rfl
       have q2 : w1.cell? ⟨g1, 2, none⟩ = some (.int .i64 5) := hcell 2 _ rfl
       have q3 : w1.cell? ⟨g1, 3, none⟩ = some (.int .i64 3) := hcell 3 _ rfl
       have q4 : w1.cell? ⟨g1, 4, none⟩ = some (.int .i64 16) := hcell 4 _ rfl
       have HB1 := Lib.hid ((below_alloc w (.cells #[.int .i64 0, .int .i64 5, .int .i64 0, .int .i64 2, .int .i64 7, .int .i64 3, .int .i64 4, .int .i64 0, .int .i64 0, .int .i64 5, .int .i64 8, .int .i64 5, .int .i64 1, .int .i64 9, .int .i64 9, .int .i64 9, .int .i64 0, .int .i64 0] 43)).trans (hb1.mono (by simp)))
       have HR1 := Lib.hid (HW.out.below hb1)
       clear hcell ho1 hb1)
    | (go_at_call 13; (with_reducible refine (Apart_any _ kl _ HR1.out).mono ?_); rintro e w2 ⟨rfl, hb2⟩; have ha : apB kl = true := apB_yes kl_ap))
  go_ret
  exact ⟨rfl, HB1.out.trans (hb2.mono HB1.out.size)⟩

/-- What stays while the law looks at its windows. -/
structure MJ (w W : World) (v : Value) (l : List Wn) (g n cap : Nat) (S E Wm H : Int) : Prop where
  below : Below w.heap.size w W
  lt9 : Lt9 W g n cap l
  rw : Rw W v l
  bx : Bk W w.heap.size 26 #[.int .i64 S, .int .i64 E, .int .i64 Wm, .int .i64 H]
theorem MJ.next {w W W' : World} {v : Value} {l : List Wn} {g n cap : Nat} {S E Wm H : Int} (h : MJ w W v l g n cap S E Wm H) (hb : Below W.heap.size W W') : MJ w W' v l g n cap S E Wm H :=
  ⟨h.below.trans (hb.mono h.below.size), h.lt9.below hb, h.rw.below hb, h.bx.below hb⟩
theorem rw_nil (W : World) : Rw W (.slice none 0 0) [] := ⟨none, 0, rfl, Nat.le_refl _, by decide, fun h => by simp at h⟩

set_option maxRecDepth 100000 in
set_option maxHeartbeats 2000000 in
theorem mergeJoins_bad (v : Value) (l : List Wn) (S E Wm H : Int) (w : World) (hr : Rw w v l) (hlen : l.length ≤ 200) (hno : ¬ (Ap l ∧ S < E)) :
    Calls Try.prog 3 #[v, .agg #[.int .i64 S, .int .i64 E, .int .i64 Wm, .int .i64 H]] w fun e w' => e = .returned (.bool true) ∧ Below w.heap.size w w' := by
  obtain ⟨a, cap0, rfl, _, _, _⟩ := id hr
  have HLE : Hid (∀ W, Rw W (.slice a l.length cap0) l → Calls Try.prog 8 #[.slice a l.length cap0] W fun e w' => ∃ g cap, e = .returned (.slice (some ⟨g, 0, none⟩) l.length cap) ∧ Below W.heap.size W w' ∧ Lt9 w' g l.length cap l) := fun W h => lent_any _ l W h hlen
  have HTO : Hid (∀ W g cap, Lt9 W g l.length cap l → Calls Try.prog 9 #[.slice (some ⟨g, 0, none⟩) l.length cap, .agg #[.int .i64 S, .int .i64 E]] W fun e w' => e = .returned (.tuple #[.int .i64 0, .int .i64 0, .int .i64 190]) ∧ Below W.heap.size W w') := fun W g cap h => Touch_no _ l S E W h.rw hno
  have HRT : Hid (∀ W, Rw W (.slice a l.length cap0) l → Calls Try.prog 10 #[.slice a l.length cap0, .agg #[.int .i64 S, .int .i64 E]] W fun e w' => e = .returned (.tuple #[.int .i64 0, .int .i64 0, .int .i64 190]) ∧ Below W.heap.size W w') := fun W h => refTouch_no _ l S E W h hno
  have HJO : Hid (∀ W g cap, Lt9 W g l.length cap l → Calls Try.prog 11 #[.slice (some ⟨g, 0, none⟩) l.length cap, .agg #[.int .i64 S, .int .i64 E], .int .i64 Wm, .int .i64 H] W fun e w' => e = .returned (.tuple #[.slice none 0 0, .int .i64 0, .int .i64 190]) ∧ Below W.heap.size W w') := fun W g cap h => Join_no _ l S E Wm H W h.rw hno
  have HRJ : Hid (∀ W, Rw W (.slice a l.length cap0) l → Calls Try.prog 12 #[.slice a l.length cap0, .agg #[.int .i64 S, .int .i64 E], .int .i64 Wm, .int .i64 H] W fun e w' => e = .returned (.tuple #[.slice none 0 0, .int .i64 0, .int .i64 190]) ∧ Below W.heap.size W w') := fun W h => refJoin_no _ l S E Wm H W h hno
  have HAP : Hid (∀ W g cap, Lt9 W g l.length cap l → Calls Try.prog 13 #[.slice (some ⟨g, 0, none⟩) l.length cap] W fun e w' => e = .returned (.bool (apB l)) ∧ Below W.heap.size W w') := fun W g cap h => Apart_any _ l W h.rw
  have HRA : Hid (∀ W, Rw W (.slice a l.length cap0) l → Calls Try.prog 14 #[.slice a l.length cap0] W fun e w' => e = .returned (.bool (apB l)) ∧ Below W.heap.size W w') := fun W h => refApart_any _ l W h
  have HKE : Hid (∀ W g cap, Lt9 W g l.length cap l → Rw W (.slice a l.length cap0) l → Calls Try.prog 16 #[.slice (some ⟨g, 0, none⟩) l.length cap, .slice a l.length cap0] W fun e w' => e = .returned (.bool true) ∧ Below W.heap.size W w') := fun W g cap h h2 => kept_any _ _ _ _ l W h h2 hlen
  have HR : Hid (Rw w (.slice a l.length cap0) l) := hr
  clear hr hno
  generalize apB l = ab at *
  obtain ⟨n, hn⟩ : ∃ n, l.length = n := ⟨_, rfl⟩
  rw [hn] at HLE HTO HRT HJO HRJ HAP HRA HKE HR hlen ⊢
  clear hn
  have hln : decide ((200 : Int) < (n : Int)) = false := by simp; omega
  have HB0 : Hid (Below w.heap.size w (w.alloc (.cells #[.int .i64 S, .int .i64 E, .int .i64 Wm, .int .i64 H] 26))) := below_alloc _ _
  have HR0 := Lib.hid (HR.out.below HB0.out)
  go_enter Try.func3, Try.ntmps3
  go_wp2_with (first
    | (go_at_call 8; (with_reducible refine (HLE.out _ HR0.out).mono ?_); rintro e w1 ⟨g, cap, rfl, hb1, hl1⟩
       have HM1 : Hid (MJ w w1 (.slice a n cap0) l g n cap S E Wm H) := ⟨HB0.out.trans (hb1.mono (by simp)), hl1, HR0.out.below hb1, (Bk.new w _ _).below hb1⟩
       have x0 : w1.cell? ⟨w.heap.size, 0, none⟩ = some (.int .i64 S) := HM1.out.bx.cell 0
       have x1 : w1.cell? ⟨w.heap.size, 1, none⟩ = some (.int .i64 E) := HM1.out.bx.cell 1
       clear hb1 hl1)
    | (go_at_call 9; (with_reducible refine (HTO.out _ _ _ HM1.out.lt9).mono ?_); rintro e w2 ⟨rfl, hb2⟩
       have HM2 := Lib.hid (HM1.out.next hb2)
       have x0 : w2.cell? ⟨w.heap.size, 0, none⟩ = some (.int .i64 S) := HM2.out.bx.cell 0
       have x1 : w2.cell? ⟨w.heap.size, 1, none⟩ = some (.int .i64 E) := HM2.out.bx.cell 1
       clear hb2)
    | (go_at_call 10; (with_reducible refine (HRT.out _ HM2.out.rw).mono ?_); rintro e w3 ⟨rfl, hb3⟩
       have HM3 := Lib.hid (HM2.out.next hb3)
       have x0 : w3.cell? ⟨w.heap.size, 0, none⟩ = some (.int .i64 S) := HM3.out.bx.cell 0
       have x1 : w3.cell? ⟨w.heap.size, 1, none⟩ = some (.int .i64 E) := HM3.out.bx.cell 1
       have x2 : w3.cell? ⟨w.heap.size, 2, none⟩ = some (.int .i64 Wm) := HM3.out.bx.cell 2
       have x3 : w3.cell? ⟨w.heap.size, 3, none⟩ = some (.int .i64 H) := HM3.out.bx.cell 3
       have t3 : True := trivial
       clear hb3)
    | (go_at_call 11; (with_reducible refine (HJO.out _ _ _ HM3.out.lt9).mono ?_); rintro e w4 ⟨rfl, hb4⟩
       have HM4 := Lib.hid (HM3.out.next hb4)
       have x0 : w4.cell? ⟨w.heap.size, 0, none⟩ = some (.int .i64 S) := HM4.out.bx.cell 0
       have x1 : w4.cell? ⟨w.heap.size, 1, none⟩ = some (.int .i64 E) := HM4.out.bx.cell 1
       have x2 : w4.cell? ⟨w.heap.size, 2, none⟩ = some (.int .i64 Wm) := HM4.out.bx.cell 2
       have x3 : w4.cell? ⟨w.heap.size, 3, none⟩ = some (.int .i64 H) := HM4.out.bx.cell 3
       clear hb4 HM3)
    | (go_at_call 11; (with_reducible refine (HJO.out _ _ _ HM4.out.lt9).mono ?_); rintro e w5 ⟨rfl, hb5⟩
       have HM5 := Lib.hid (HM4.out.next hb5)
       have x0 : w5.cell? ⟨w.heap.size, 0, none⟩ = some (.int .i64 S) := HM5.out.bx.cell 0
       have x1 : w5.cell? ⟨w.heap.size, 1, none⟩ = some (.int .i64 E) := HM5.out.bx.cell 1
       have x2 : w5.cell? ⟨w.heap.size, 2, none⟩ = some (.int .i64 Wm) := HM5.out.bx.cell 2
       have x3 : w5.cell? ⟨w.heap.size, 3, none⟩ = some (.int .i64 H) := HM5.out.bx.cell 3
       clear hb5 HM4)
    | (go_at_call 12; (with_reducible refine (HRJ.out _ HM5.out.rw).mono ?_); rintro e w6 ⟨rfl, hb6⟩; have HM6 := Lib.hid (HM5.out.next hb6); clear hb6)
    | (go_at_call 13; (with_reducible refine (HAP.out _ _ _ HM6.out.lt9).mono ?_); rintro e w7 ⟨rfl, hb7⟩; have HM7 := Lib.hid (HM6.out.next hb7); clear hb7)
    | (go_at_call 14; (with_reducible refine (HRA.out _ HM7.out.rw).mono ?_); rintro e w8 ⟨rfl, hb8⟩; have HM8 := Lib.hid (HM7.out.next hb8); clear hb8)
    | (go_at_call 15; (with_reducible refine (SameWins_any _ _ [] _ (rw_nil _) (rw_nil _)).mono ?_); rintro e w9 ⟨rfl, hb9⟩; have HM9 := Lib.hid (HM8.out.next hb9); clear hb9)
    | (go_at_call 16; (with_reducible refine (HKE.out _ _ _ HM9.out.lt9 HM9.out.rw).mono ?_); rintro e w10 ⟨rfl, hb10⟩; have HM10 := Lib.hid (HM9.out.next hb10); clear hb10))
  go_loopw [21] (fun i wr => i = .int .i64 0 ∧ wr = w10) (fun _ _ => 0)
  case atStart => exact ⟨rfl, rfl⟩
  case round =>
    obtain ⟨rfl, rfl⟩ := hrel
    go_wp2_with (first
      | (go_at_call 15; (with_reducible refine (SameWins_any _ _ [] _ (rw_nil _) (rw_nil _)).mono ?_); rintro e w11 ⟨rfl, hb11⟩; have HM11 := Lib.hid (HM10.out.next hb11); clear hb11)
      | (go_at_call 16; (with_reducible refine (HKE.out _ _ _ HM11.out.lt9 HM11.out.rw).mono ?_); rintro e w12 ⟨rfl, hb12⟩; have HM12 := Lib.hid (HM11.out.next hb12); clear hb12)
      | (go_at_call 7; (with_reducible refine (known_any _).mono ?_); rintro e w13 ⟨rfl, hb13⟩))
    go_ret
    exact ⟨rfl, HM12.out.below.trans (hb13.mono HM12.out.below.size)⟩

theorem ownsRow_set {w : World} {base : Nat} {e : TypeId} {size n cap g j : Nat} {xs : List Value} (h : w.ownsRow base e size (.slice (some ⟨g, 0, none⟩) n cap) n xs) (u : Value) :
    (w.setCell ⟨g, j, none⟩ u).ownsRow base e size (.slice (some ⟨g, 0, none⟩) n cap) n (xs.set j u) := (h.stored j u).1
theorem own_mono {w : World} {base base' : Nat} {e : TypeId} {size : Nat} {v : Value} {n : Nat} {xs : List Value} (h : w.ownsRow base e size v n xs) (hb : base' ≤ base) : w.ownsRow base' e size v n xs := by
  refine ⟨h.1, ?_⟩
  rcases h.2 with h2 | ⟨g, cap, cur, h1, h2, h3⟩
  · exact .inl h2
  · exact .inr ⟨g, cap, cur, h1, Nat.le_trans hb h2, h3⟩

/-- The three rows that are told: the one that is written over, the other two. -/
structure PJ (w3 W : World) (b g4 c4 L : Nat) (v5 v6 : Value) (J : List Wn) : Prop where
  below : Below w3.heap.size w3 W
  own4 : W.ownsRow 0 43 9 (.slice (some ⟨g4, 0, none⟩) L c4) L (wcells J)
  own5 : W.ownsRow b 43 9 v5 L (wcells J)
  own6 : W.ownsRow b 43 9 v6 L (wcells J)
  lt : g4 < b
theorem PJ.next {w3 W W' : World} {b g4 c4 L : Nat} {v5 v6 : Value} {J : List Wn} (h : PJ w3 W b g4 c4 L v5 v6 J) (hb : Below W.heap.size W W') : PJ w3 W' b g4 c4 L v5 v6 J :=
  ⟨h.below.trans (hb.mono h.below.size), own_below h.own4 hb, own_below h.own5 hb, own_below h.own6 hb, h.lt⟩
theorem PJ.r4 {w3 W : World} {b g4 c4 L : Nat} {v5 v6 : Value} {J : List Wn} (h : PJ w3 W b g4 c4 L v5 v6 J) (hL : J.length = L) : Rw W (.slice (some ⟨g4, 0, none⟩) L c4) J := Rw.of_owns (by rw [hL]; exact h.own4)
theorem PJ.r5 {w3 W : World} {b g4 c4 L : Nat} {v5 v6 : Value} {J : List Wn} (h : PJ w3 W b g4 c4 L v5 v6 J) (hL : J.length = L) : Rw W v5 J := Rw.of_owns (by rw [hL]; exact h.own5)
theorem PJ.r6 {w3 W : World} {b g4 c4 L : Nat} {v5 v6 : Value} {J : List Wn} (h : PJ w3 W b g4 c4 L v5 v6 J) (hL : J.length = L) : Rw W v6 J := Rw.of_owns (by rw [hL]; exact h.own6)

set_option maxRecDepth 100000 in
set_option maxHeartbeats 2000000 in
theorem mergeJoins_good (v : Value) (l : List Wn) (S E Wm H : Int) (w : World) (hr : Rw w v l) (hlen : l.length ≤ 200) (hap : Ap l) (hse : S < E) (hSb : S ≤ 9223372036854775807) (hEb : -9223372036854775808 ≤ E) :
    Calls Try.prog 3 #[v, .agg #[.int .i64 S, .int .i64 E, .int .i64 Wm, .int .i64 H]] w fun e w' => e = .returned (.bool true) ∧ Below w.heap.size w w' := by
  obtain ⟨a, cap0, rfl, _, _, _⟩ := id hr
  have HLE : Hid (∀ W, Rw W (.slice a l.length cap0) l → Calls Try.prog 8 #[.slice a l.length cap0] W fun e w' => ∃ g cap, e = .returned (.slice (some ⟨g, 0, none⟩) l.length cap) ∧ Below W.heap.size W w' ∧ Lt9 w' g l.length cap l) := fun W h => lent_any _ l W h hlen
  have HTO : Hid (∀ W g cap, Lt9 W g l.length cap l → Calls Try.prog 9 #[.slice (some ⟨g, 0, none⟩) l.length cap, .agg #[.int .i64 S, .int .i64 E]] W fun e w' => e = .returned (.tuple #[.int .i64 (frm l S : Nat), .int .i64 (too l E : Nat), .int .i64 0]) ∧ Below W.heap.size W w') := fun W g cap h => Touch_yes _ l S E W h.rw hap hse (by omega)
  have HRT : Hid (∀ W, Rw W (.slice a l.length cap0) l → Calls Try.prog 10 #[.slice a l.length cap0, .agg #[.int .i64 S, .int .i64 E]] W fun e w' => e = .returned (.tuple #[.int .i64 (frm l S : Nat), .int .i64 (too l E : Nat), .int .i64 0]) ∧ Below W.heap.size W w') := fun W h => refTouch_yes _ l S E W h hap hse (by omega)
  have HJO : Hid (∀ W g cap, Lt9 W g l.length cap l → Calls Try.prog 11 #[.slice (some ⟨g, 0, none⟩) l.length cap, .agg #[.int .i64 S, .int .i64 E], .int .i64 Wm, .int .i64 H] W fun e w' => ∃ v', e = .returned (.tuple #[v', .int .i64 (frm l S : Nat), .int .i64 0]) ∧ Below W.heap.size W w' ∧ w'.ownsRow W.heap.size 43 9 v' (joinW l S E Wm H).length (wcells (joinW l S E Wm H))) := fun W g cap h => Join_yes _ l S E Wm H W h.rw hap hse (by omega)
  have HRJ : Hid (∀ W, Rw W (.slice a l.length cap0) l → Calls Try.prog 12 #[.slice a l.length cap0, .agg #[.int .i64 S, .int .i64 E], .int .i64 Wm, .int .i64 H] W fun e w' => ∃ v', e = .returned (.tuple #[v', .int .i64 (frm l S : Nat), .int .i64 0]) ∧ Below W.heap.size W w' ∧ w'.ownsRow W.heap.size 43 9 v' (joinW l S E Wm H).length (wcells (joinW l S E Wm H))) := fun W h => refJoin_yes _ l S E Wm H W h hap hse (by omega) hSb hEb
  have HAP : Hid (∀ W g cap, Lt9 W g l.length cap l → Calls Try.prog 13 #[.slice (some ⟨g, 0, none⟩) l.length cap] W fun e w' => e = .returned (.bool (apB l)) ∧ Below W.heap.size W w') := fun W g cap h => Apart_any _ l W h.rw
  have HRA : Hid (∀ W, Rw W (.slice a l.length cap0) l → Calls Try.prog 14 #[.slice a l.length cap0] W fun e w' => e = .returned (.bool (apB l)) ∧ Below W.heap.size W w') := fun W h => refApart_any _ l W h
  have HKE : Hid (∀ W g cap, Lt9 W g l.length cap l → Rw W (.slice a l.length cap0) l → Calls Try.prog 16 #[.slice (some ⟨g, 0, none⟩) l.length cap, .slice a l.length cap0] W fun e w' => e = .returned (.bool true) ∧ Below W.heap.size W w') := fun W g cap h h2 => kept_any _ _ _ _ l W h h2 hlen
  have HR : Hid (Rw w (.slice a l.length cap0) l) := hr
  have hJl : (joinW l S E Wm H).length ≤ 201 := by have := joinW_length (l := l) (S := S) (E := E) (W := Wm) (H := H); have := frm_le l S; have := frm_too hap hse; have := too_le l E; omega
  have hJ0 : 0 < (joinW l S E Wm H).length := by have := joinW_length (l := l) (S := S) (E := E) (W := Wm) (H := H); omega
  clear hr hap hSb hEb
  generalize frm l S = f at *
  generalize too l E = z at *
  generalize joinW l S E Wm H = J at *
  obtain ⟨L, hL⟩ : ∃ L, J.length = L + 1 := ⟨J.length - 1, by omega⟩
  have HL := Lib.hid hL
  rw [hL] at HJO HRJ hJl
  clear hL hJ0
  generalize apB l = ab at *
  obtain ⟨n, hn⟩ : ∃ n, l.length = n := ⟨_, rfl⟩
  rw [hn] at HLE HTO HRT HJO HRJ HAP HRA HKE HR hlen ⊢
  clear hn
  have hln : decide ((200 : Int) < (n : Int)) = false := by simp; omega
  have HB0 : Hid (Below w.heap.size w (w.alloc (.cells #[.int .i64 S, .int .i64 E, .int .i64 Wm, .int .i64 H] 26))) := below_alloc _ _
  have HR0 := Lib.hid (HR.out.below HB0.out)
  go_enter Try.func3, Try.ntmps3
  go_wp2_with (first
    | (go_at_call 8; (with_reducible refine (HLE.out _ HR0.out).mono ?_); rintro e w1 ⟨g, cap, rfl, hb1, hl1⟩
       have HM1 : Hid (MJ w w1 (.slice a n cap0) l g n cap S E Wm H) := ⟨HB0.out.trans (hb1.mono (by simp)), hl1, HR0.out.below hb1, (Bk.new w _ _).below hb1⟩
       have x0 : w1.cell? ⟨w.heap.size, 0, none⟩ = some (.int .i64 S) := HM1.out.bx.cell 0
       have x1 : w1.cell? ⟨w.heap.size, 1, none⟩ = some (.int .i64 E) := HM1.out.bx.cell 1
       clear hb1 hl1)
    | (go_at_call 9; (with_reducible refine (HTO.out _ _ _ HM1.out.lt9).mono ?_); rintro e w2 ⟨rfl, hb2⟩
       have HM2 := Lib.hid (HM1.out.next hb2)
       have x0 : w2.cell? ⟨w.heap.size, 0, none⟩ = some (.int .i64 S) := HM2.out.bx.cell 0
       have x1 : w2.cell? ⟨w.heap.size, 1, none⟩ = some (.int .i64 E) := HM2.out.bx.cell 1
       clear hb2)
    | (go_at_call 10; (with_reducible refine (HRT.out _ HM2.out.rw).mono ?_); rintro e w3 ⟨rfl, hb3⟩
       have HM3 := Lib.hid (HM2.out.next hb3)
       have x0 : w3.cell? ⟨w.heap.size, 0, none⟩ = some (.int .i64 S) := HM3.out.bx.cell 0
       have x1 : w3.cell? ⟨w.heap.size, 1, none⟩ = some (.int .i64 E) := HM3.out.bx.cell 1
       have x2 : w3.cell? ⟨w.heap.size, 2, none⟩ = some (.int .i64 Wm) := HM3.out.bx.cell 2
       have x3 : w3.cell? ⟨w.heap.size, 3, none⟩ = some (.int .i64 H) := HM3.out.bx.cell 3
       have t3 : True := trivial
       clear hb3)
    | (go_at_call 11; (with_reducible refine (HJO.out _ _ _ HM3.out.lt9).mono ?_); rintro e w4 ⟨v4, rfl, hb4, ho4⟩
       obtain ⟨g4, c4, rfl, hg41, hg42, hc4, hc4m, -, -⟩ := ownsRow_open ho4
       have HO4 := Lib.hid ho4
       have HB4 := Lib.hid hb4
       have HG4 := Lib.hid (show w3.heap.size ≤ g4 ∧ g4 < w4.heap.size from ⟨hg41, hg42⟩)
       have HC4 := Lib.hid (show L + 1 ≤ c4 ∧ c4 ≤ maxLen from ⟨hc4, hc4m⟩)
       have HM4 := Lib.hid (HM3.out.next hb4)
       have x0 : w4.cell? ⟨w.heap.size, 0, none⟩ = some (.int .i64 S) := HM4.out.bx.cell 0
       have x1 : w4.cell? ⟨w.heap.size, 1, none⟩ = some (.int .i64 E) := HM4.out.bx.cell 1
       have x2 : w4.cell? ⟨w.heap.size, 2, none⟩ = some (.int .i64 Wm) := HM4.out.bx.cell 2
       have x3 : w4.cell? ⟨w.heap.size, 3, none⟩ = some (.int .i64 H) := HM4.out.bx.cell 3
       clear hb4 ho4 hg41 hg42 hc4 hc4m)
    | (go_at_call 11; (with_reducible refine (HJO.out _ _ _ HM4.out.lt9).mono ?_); rintro e w5 ⟨v5, rfl, hb5, ho5⟩
       have HO5 := Lib.hid ho5
       have HS45 := Lib.hid hb5.size
       have HO4' := Lib.hid (own_below HO4.out hb5)
       have HB5 := Lib.hid (HB4.out.trans (hb5.mono HB4.out.size))
       have HM5 := Lib.hid (HM4.out.next hb5)
       have x0 : w5.cell? ⟨w.heap.size, 0, none⟩ = some (.int .i64 S) := HM5.out.bx.cell 0
       have x1 : w5.cell? ⟨w.heap.size, 1, none⟩ = some (.int .i64 E) := HM5.out.bx.cell 1
       have x2 : w5.cell? ⟨w.heap.size, 2, none⟩ = some (.int .i64 Wm) := HM5.out.bx.cell 2
       have x3 : w5.cell? ⟨w.heap.size, 3, none⟩ = some (.int .i64 H) := HM5.out.bx.cell 3
       clear hb5 HM4 ho5 HO4)
    | (go_at_call 12; (with_reducible refine (HRJ.out _ HM5.out.rw).mono ?_); rintro e w6 ⟨v6, rfl, hb6, ho6⟩; have HM6 := Lib.hid (HM5.out.next hb6); have HP6 : Hid (PJ w3 w6 w4.heap.size g4 c4 (L + 1) v5 v6 J) := ⟨HB5.out.trans (hb6.mono HB5.out.size), own_mono (own_below HO4'.out hb6) (Nat.zero_le _), own_below HO5.out hb6, own_mono ho6 HS45.out, HG4.out.2⟩; clear hb6 ho6)
    | (go_at_call 13; (with_reducible refine (HAP.out _ _ _ HM6.out.lt9).mono ?_); rintro e w7 ⟨rfl, hb7⟩; have HM7 := Lib.hid (HM6.out.next hb7); have HP7 := Lib.hid (HP6.out.next hb7); clear hb7)
    | (go_at_call 14; (with_reducible refine (HRA.out _ HM7.out.rw).mono ?_); rintro e w8 ⟨rfl, hb8⟩; have HM8 := Lib.hid (HM7.out.next hb8); have HP8 := Lib.hid (HP7.out.next hb8); clear hb8)
    | (go_at_call 15; (with_reducible refine (SameWins_any _ _ J _ (HP8.out.r4 HL.out) (HP8.out.r6 HL.out)).mono ?_); rintro e w9 ⟨rfl, hb9⟩; have HM9 := Lib.hid (HM8.out.next hb9); have HP9 := Lib.hid (HP8.out.next hb9); clear hb9)
    | (go_at_call 16; (with_reducible refine (HKE.out _ _ _ HM9.out.lt9 HM9.out.rw).mono ?_); rintro e w10 ⟨rfl, hb10⟩; have HM10 := Lib.hid (HM9.out.next hb10); have HP10 := Lib.hid (HP9.out.next hb10); clear hb10))
  have HPL := Lib.hid HP10.out.own4
  obtain ⟨hc41, hc42⟩ := HC4.out
  unfold maxLen at hc42
  go_loopw [21] (fun i wr => ∃ k : Nat, i = .int .i64 (k : Int) ∧ k ≤ L + 1 ∧ w10.grownBy wr (some g4) ∧ ∃ xs, wr.ownsRow 0 43 9 (.slice (some ⟨g4, 0, none⟩) (L + 1) c4) (L + 1) xs) (fun i _ => L + 1 - (intOf i).toNat)
  case atStart => exact ⟨0, rfl, Nat.zero_le _, only_refl _ _, _, HPL.out⟩
  case round =>
    obtain ⟨k, rfl, hkL, hg, xs, hxs⟩ := hrel
    have HG := Lib.hid hg
    have HX := Lib.hid hxs
    clear hg hxs
    by_cases hlt : k < L + 1
    · obtain ⟨_, _, hv, -, hgl, -, -, hcell, hfz⟩ := ownsRow_open HX.out
      cases hv
      obtain ⟨u0, hu0⟩ := ownsRow_cell HX.out (j := k * 9) (by omega)
      obtain ⟨u1, hu1⟩ := ownsRow_cell HX.out (j := k * 9 + 1) (by omega)
      obtain ⟨u2, hu2⟩ := ownsRow_cell HX.out (j := k * 9 + 2) (by omega)
      obtain ⟨u3, hu3⟩ := ownsRow_cell HX.out (j := k * 9 + 3) (by omega)
      obtain ⟨u4, hu4⟩ := ownsRow_cell HX.out (j := k * 9 + 4) (by omega)
      obtain ⟨u5, hu5⟩ := ownsRow_cell HX.out (j := k * 9 + 5) (by omega)
      obtain ⟨u6, hu6⟩ := ownsRow_cell HX.out (j := k * 9 + 6) (by omega)
      obtain ⟨u7, hu7⟩ := ownsRow_cell HX.out (j := k * 9 + 7) (by omega)
      obtain ⟨u8, hu8⟩ := ownsRow_cell HX.out (j := k * 9 + 8) (by omega)
      have d0 := hcell _ _ hu0
      have d1 := hcell _ _ hu1
      have d2 := hcell _ _ hu2
      have d3 := hcell _ _ hu3
      have d4 := hcell _ _ hu4
      have d5 := hcell _ _ hu5
      have d6 := hcell _ _ hu6
      have d7 := hcell _ _ hu7
      have d8 := hcell _ _ hu8
      have f0 := hfz (k * 9)
      have f1 := hfz (k * 9 + 1)
      have f2 := hfz (k * 9 + 2)
      have f3 := hfz (k * 9 + 3)
      have f4 := hfz (k * 9 + 4)
      have f5 := hfz (k * 9 + 5)
      have f6 := hfz (k * 9 + 6)
      have f7 := hfz (k * 9 + 7)
      have f8 := hfz (k * 9 + 8)
      clear hcell hfz hu0 hu1 hu2 hu3 hu4 hu5 hu6 hu7 hu8
      have hkl : (k : Int) < (L : Int) + 1 := by omega
      go_wp2
      go_roundw
      case rel => exact ⟨k + 1, by go_num, by omega, (only_set (only_set (only_set (only_set (only_set (only_set (only_set (only_set (only_set HG.out _ _ (.inl rfl)) _ _ (.inl rfl)) _ _ (.inl rfl)) _ _ (.inl rfl)) _ _ (.inl rfl)) _ _ (.inl rfl)) _ _ (.inl rfl)) _ _ (.inl rfl)) _ _ (.inl rfl)), _, (ownsRow_set (ownsRow_set (ownsRow_set (ownsRow_set (ownsRow_set (ownsRow_set (ownsRow_set (ownsRow_set (ownsRow_set HX.out _) _) _) _) _) _) _) _) _)⟩
      case measure => simp [intOf]; omega
    · obtain rfl : k = L + 1 := by omega
      have HBZ : Hid (Below w3.heap.size w3 wr) := HP10.out.below.grown HG.out HP10.out.below.size (fun r e => by cases e; exact HG4.out.1)
      have HMZ := Lib.hid (HM3.out.next HBZ.out)
      have HR5 : Hid (Rw wr v5 J) := Rw.of_owns (by rw [HL.out]; exact HP10.out.own5.kept HG.out (by
        cases hv : v5.ownBlock with
        | none => exact .inl rfl
        | some b => right; intro e; cases e; have := (HP10.out.own5.lt _ hv).1; have := HP10.out.lt; omega))
      have HR6 : Hid (Rw wr v6 J) := Rw.of_owns (by rw [HL.out]; exact HP10.out.own6.kept HG.out (by
        cases hv : v6.ownBlock with
        | none => exact .inl rfl
        | some b => right; intro e; cases e; have := (HP10.out.own6.lt _ hv).1; have := HP10.out.lt; omega))
      go_wp2_with (first
        | (go_at_call 15; (with_reducible refine (SameWins_any _ _ J _ HR5.out HR6.out).mono ?_); rintro e w11 ⟨rfl, hb11⟩; have HM11 := Lib.hid (HMZ.out.next hb11); clear hb11)
        | (go_at_call 16; (with_reducible refine (HKE.out _ _ _ HM11.out.lt9 HM11.out.rw).mono ?_); rintro e w12 ⟨rfl, hb12⟩; have HM12 := Lib.hid (HM11.out.next hb12); clear hb12)
        | (go_at_call 7; (with_reducible refine (known_any _).mono ?_); rintro e w13 ⟨rfl, hb13⟩))
      go_ret
      exact ⟨rfl, HM12.out.below.trans (hb13.mono HM12.out.below.size)⟩
end Go.Proofs.Ytjdfjaocidjhlaa
