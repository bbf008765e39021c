/- The reader that is not there, and the reader without bytes: what they answer. -/
import Derived.Test.YtmcgagjjgomkeaaNil
namespace Go.Proofs.Ytmcgagjjgomkeaa
open Go.RowKit Go.Lib

/-- A reader of which nothing is left (error 110), or none at all (error 1). -/
def Emp (B : Nat) (o : Option Addr) (z : Int) (w : World) : Prop := B ≤ w.heap.size ∧ ((o = none ∧ z = 1) ∨ (z = 110 ∧ ∃ g, o = some ⟨g, 0, none⟩ ∧ B ≤ g ∧ Rr w B g (.slice none 0 0) [] 0))
theorem Emp.below {B : Nat} {o : Option Addr} {z : Int} {w w' : World} (h : Emp B o z w) (hb : Below w.heap.size w w') : Emp B o z w' := by
  refine ⟨Nat.le_trans h.1 hb.size, ?_⟩
  rcases h.2 with h1 | ⟨h1, g, h2, h3, h4⟩
  · exact .inl h1
  · exact .inr ⟨h1, g, h2, h3, h4.below hb⟩
/-- What an asked reader without bytes does. -/
def Ans (B : Nat) (o : Option Addr) (z : Int) (f : FuncId) (args : Array Value) : Prop := ∀ w, Emp B o z w → Calls Try.prog f (#[.pointer o] ++ args) w fun e w' => ∃ x, e = .returned (.tuple #[x, .int .i64 z]) ∧ Below B w w' ∧ Emp B o z w'

theorem Ans_Number (B : Nat) (o : Option Addr) (z : Int) : ∀ w, Emp B o z w → Calls Try.prog 19 #[.pointer o] w fun e w' => e = .returned (.tuple #[.int .u64 0, .int .i64 z]) ∧ w = w' := by
  intro w h
  rcases h.2 with ⟨rfl, rfl⟩ | ⟨rfl, g, rfl, hg, hr⟩
  · exact R0_Number w
  · refine (RNumber_any B g 0 _ [] w hr).mono ?_
    rintro e w' ⟨_, k⟩
    exact k (by decide)
set_option maxRecDepth 100000 in
theorem Ans_Raw (B : Nat) (o : Option Addr) (z n : Int) (hn : 0 < n) : ∀ w, Emp B o z w → Calls Try.prog 50 #[.pointer o, .int .i64 n] w fun e w' => e = .returned (.tuple #[.slice none 0 0, .int .i64 z]) ∧ Below w.heap.size w w' := by
  intro w h
  rcases h.2 with ⟨rfl, rfl⟩ | ⟨rfl, g, rfl, hg, hr⟩
  · exact (R0_Raw n w).mono (by rintro e w' ⟨rfl, rfl⟩; exact ⟨rfl, Below.refl _ _⟩)
  · have HL := Lib.hid (Left_any B g 0 _ [] w hr)
    have h1 : decide (n < 0) = false := by simp; omega
    have h2 : decide ((0 : Int) < n) = true := by simp; omega
    clear h hr
    go_enter Try.func50, Try.ntmps50
    go_wp2_with (first
      | (go_at_call 28; (with_reducible refine HL.out.mono ?_); rintro e w1 ⟨rfl, hb⟩; have HB := Lib.hid hb; clear hb))
    go_ret2
    exact ⟨rfl, HB.out⟩
set_option maxRecDepth 100000 in
theorem Ans_Byte (B : Nat) (o : Option Addr) (z : Int) : ∀ w, Emp B o z w → Calls Try.prog 59 #[.pointer o] w fun e w' => e = .returned (.tuple #[.int .u8 0, .int .i64 z]) ∧ Below w.heap.size w w' := by
  intro w h
  have HL := Lib.hid (Ans_Raw B o z 1 (by decide) w h)
  have hz : (z == 0) = false := by rcases h.2 with ⟨_, rfl⟩ | ⟨rfl, _⟩ <;> rfl
  have hz2 : (z != 0) = true := by rcases h.2 with ⟨_, rfl⟩ | ⟨rfl, _⟩ <;> rfl
  clear h
  go_enter Try.func59, Try.ntmps59
  go_wp2_with (first
    | (go_at_call 50; (with_reducible refine HL.out.mono ?_); rintro e w1 ⟨rfl, hb⟩; have HB := Lib.hid hb; clear hb))
  go_ret2
  exact ⟨rfl, HB.out⟩
set_option maxRecDepth 100000 in
theorem Ans_Fixed (B : Nat) (o : Option Addr) (z : Int) : ∀ w, Emp B o z w → Calls Try.prog 57 #[.pointer o] w fun e w' => e = .returned (.tuple #[.int .u32 0, .int .i64 z]) ∧ Below w.heap.size w w' := by
  intro w h
  have HL := Lib.hid (Ans_Raw B o z 4 (by decide) w h)
  have hz : (z == 0) = false := by rcases h.2 with ⟨_, rfl⟩ | ⟨rfl, _⟩ <;> rfl
  have hz2 : (z != 0) = true := by rcases h.2 with ⟨_, rfl⟩ | ⟨rfl, _⟩ <;> rfl
  clear h
  go_enter Try.func57, Try.ntmps57
  go_wp2_with (first
    | (go_at_call 50; (with_reducible refine HL.out.mono ?_); rintro e w1 ⟨rfl, hb⟩; have HB := Lib.hid hb; clear hb))
  go_ret2
  exact ⟨rfl, HB.out⟩
set_option maxRecDepth 100000 in
theorem Ans_Signed (B : Nat) (o : Option Addr) (z : Int) : ∀ w, Emp B o z w → Calls Try.prog 56 #[.pointer o] w fun e w' => e = .returned (.tuple #[.int .i64 0, .int .i64 z]) ∧ w = w' := by
  intro w h
  have HL := Lib.hid (Ans_Number B o z w h)
  have hz : (z == 0) = false := by rcases h.2 with ⟨_, rfl⟩ | ⟨rfl, _⟩ <;> rfl
  have hz2 : (z != 0) = true := by rcases h.2 with ⟨_, rfl⟩ | ⟨rfl, _⟩ <;> rfl
  clear h
  go_enter Try.func56, Try.ntmps56
  go_wp2_with (first
    | (go_at_call 19; (with_reducible refine HL.out.mono ?_); rintro e w1 ⟨rfl, rfl⟩))
  go_ret2
  exact ⟨rfl, rfl⟩
set_option maxRecDepth 100000 in
theorem Ans_try (B : Nat) (o : Option Addr) (z n : Int) (hn : 0 ≤ n) (F : Value) : ∀ w, Emp B o z w → Calls Try.prog 48 #[.pointer o, .int .i64 n, F] w fun e w' => e = .returned (.int .i64 z) ∧ Below B w w' ∧ Emp B o z w' := by
  intro w h
  rcases h.2 with ⟨rfl, rfl⟩ | ⟨rfl, g, rfl, hg, hr⟩
  · have HE := Lib.hid h
    clear h
    go_enter Try.func48, Try.ntmps48
    go_wp2
    go_ret
    exact ⟨rfl, Below.refl _ _, HE.out⟩
  · have HL := Lib.hid (Ans_Number B _ 110 w h)
    have h1 : decide (n < 0) = false := by simp; omega
    have x1 : w.cell? ⟨g, 1, none⟩ = some (.int .i64 0) := hr.blk.cell 1
    have f1 := hr.blk.frozen 1
    have HR := Lib.hid hr
    have HE := Lib.hid h.1
    clear h hr
    go_enter Try.func48, Try.ntmps48
    go_wp2_with (first
      | (go_at_call 19; (with_reducible refine HL.out.mono ?_); rintro e w1 ⟨rfl, rfl⟩))
    go_ret
    exact ⟨rfl, (Below.refl _ _).setCell (p := ⟨g, 1, none⟩) hg _, ⟨by have := ((Below.refl 0 w).setCell (p := ⟨g, 1, none⟩) (Nat.zero_le _) (.int .i64 0)).size; have := HE.out; omega, .inr ⟨rfl, g, rfl, hg, ⟨HR.out.blk.set 1 _, own_set HR.out.own HR.out.blk (by decide) 1 _, Nat.le_refl _⟩⟩⟩⟩
theorem Emp.al (B : Nat) (o : Option Addr) (z : Int) (w : World) (h : Emp B o z w) : (∀ x, Emp B o z (w.alloc x) ∧ Below B w (w.alloc x)) ∧ (∀ x y, Emp B o z ((w.alloc x).alloc y) ∧ Below B w ((w.alloc x).alloc y)) ∧ (∀ x y u, Emp B o z (((w.alloc x).alloc y).alloc u) ∧ Below B w (((w.alloc x).alloc y).alloc u)) := by
  have k1 : ∀ x, Emp B o z (w.alloc x) ∧ Below B w (w.alloc x) := fun x => ⟨h.below (below_alloc w x), (below_alloc w x).mono h.1⟩
  have k2 : ∀ x y, Emp B o z ((w.alloc x).alloc y) ∧ Below B w ((w.alloc x).alloc y) := fun x y => ⟨(k1 x).1.below (below_alloc _ y), (k1 x).2.trans ((below_alloc _ y).mono (k1 x).1.1)⟩
  exact ⟨k1, k2, fun x y u => ⟨(k2 x y).1.below (below_alloc _ u), (k2 x y).2.trans ((below_alloc _ u).mono (k2 x y).1.1)⟩⟩
set_option maxRecDepth 100000 in
theorem Ans_Text (B : Nat) (o : Option Addr) (z n : Int) (hn : 0 ≤ n) : ∀ w, Emp B o z w → Calls Try.prog 22 #[.pointer o, .int .i64 n] w fun e w' => e = .returned (.tuple #[.string ⟨#[]⟩, .int .i64 z]) ∧ Below B w w' ∧ Emp B o z w' := by
  intro w h
  have HL := Lib.hid (Ans_try B o z n hn)
  have HA := Lib.hid (Emp.al B o z w h)
  have hz : (z == 0) = false := by rcases h.2 with ⟨_, rfl⟩ | ⟨rfl, _⟩ <;> rfl
  have hz2 : (z != 0) = true := by rcases h.2 with ⟨_, rfl⟩ | ⟨rfl, _⟩ <;> rfl
  clear h
  go_enter Try.func22, Try.ntmps22
  go_wp2_with (first
    | (go_at_call 48; (with_reducible refine (HL.out _ _ (HA.out.2.1 _ _).1).mono ?_); rintro e w1 ⟨rfl, hb, he⟩; have HB := Lib.hid ((HA.out.2.1 _ _).2.trans hb); have HE := Lib.hid he; clear hb he))
  go_ret2
  exact ⟨rfl, HB.out, HE.out⟩
set_option maxRecDepth 100000 in
theorem Ans_Rising (B : Nat) (o : Option Addr) (z n : Int) (hn : 0 ≤ n) : ∀ w, Emp B o z w → Calls Try.prog 24 #[.pointer o, .int .i64 n] w fun e w' => e = .returned (.tuple #[.slice none 0 0, .int .i64 z]) ∧ Below B w w' ∧ Emp B o z w' := by
  intro w h
  have HL := Lib.hid (Ans_try B o z n hn)
  have HA := Lib.hid (Emp.al B o z w h)
  have hz : (z == 0) = false := by rcases h.2 with ⟨_, rfl⟩ | ⟨rfl, _⟩ <;> rfl
  have hz2 : (z != 0) = true := by rcases h.2 with ⟨_, rfl⟩ | ⟨rfl, _⟩ <;> rfl
  clear h
  go_enter Try.func24, Try.ntmps24
  go_wp2_with (first
    | (go_at_call 48; (with_reducible refine (HL.out _ _ (HA.out.2.2 _ _ _).1).mono ?_); rintro e w1 ⟨rfl, hb, he⟩; have HB := Lib.hid ((HA.out.2.2 _ _ _).2.trans hb); have HE := Lib.hid he; clear hb he))
  go_ret2
  exact ⟨rfl, HB.out, HE.out⟩
theorem Ans_Place (B : Nat) (o : Option Addr) (z : Int) : ∀ w, Emp B o z w → Calls Try.prog 26 #[.pointer o] w fun e w' => e = .returned (.int .i64 0) ∧ w = w' := by
  intro w h
  rcases h.2 with ⟨rfl, rfl⟩ | ⟨rfl, g, rfl, hg, hr⟩
  · exact R0_Place w
  · exact Place_any B g 0 _ [] w hr
theorem Ans_Left (B : Nat) (o : Option Addr) (z : Int) : ∀ w, Emp B o z w → Calls Try.prog 28 #[.pointer o] w fun e w' => e = .returned (.int .i64 0) ∧ Below w.heap.size w w' := by
  intro w h
  rcases h.2 with ⟨rfl, rfl⟩ | ⟨rfl, g, rfl, hg, hr⟩
  · exact (R0_Left w).mono (by rintro e w' ⟨rfl, rfl⟩; exact ⟨rfl, Below.refl _ _⟩)
  · exact Left_any B g 0 _ [] w hr

set_option maxRecDepth 100000 in
set_option maxHeartbeats 2000000 in
theorem reads_any (B : Nat) (o : Option Addr) (z : Int) (w : World) (h : Emp B o z w) : Calls Try.prog 35 #[.pointer o, .int .i64 z] w fun e w' => e = .returned (.bool true) ∧ Below B w w' := by
  have HC1 := Lib.hid (Ans_Byte B o z)
  have HC2 := Lib.hid (Ans_Number B o z)
  have HC3 := Lib.hid (Ans_Signed B o z)
  have HC4 := Lib.hid (Ans_Text B o z 9 (by decide))
  have HC5 := Lib.hid (Ans_Raw B o z 1 (by decide))
  have HC6 := Lib.hid (Ans_Fixed B o z)
  have HC7 := Lib.hid (Ans_Rising B o z 9 (by decide))
  have HC8 := Lib.hid (Ans_Place B o z)
  have HC9 := Lib.hid (Ans_Left B o z)
  have HNUM := Lib.hid num_any
  have HE0 := Lib.hid h
  clear h
  go_enter Try.func35, Try.ntmps35
  go_wp2_with (first
    | (go_at_call 59; (with_reducible refine (HC1.out _ HE0.out).mono ?_); rintro e w1 ⟨rfl, hb⟩; have HE1 := Lib.hid (HE0.out.below hb); have HB1 := Lib.hid (hb.mono HE0.out.1); clear hb)
    | (go_at_call 19; (with_reducible refine (HC2.out _ HE1.out).mono ?_); rintro e w ⟨rfl, rfl⟩)
    | (go_at_call 56; (with_reducible refine (HC3.out _ HE1.out).mono ?_); rintro e w ⟨rfl, rfl⟩)
    | (go_at_call 22; (with_reducible refine (HC4.out _ HE1.out).mono ?_); rintro e w2 ⟨rfl, hb, he⟩; have HE2 := Lib.hid he; have HB2 := Lib.hid (HB1.out.trans hb); clear hb he)
    | (go_at_call 50; (with_reducible refine (HC5.out _ HE2.out).mono ?_); rintro e w3 ⟨rfl, hb⟩; have HE3 := Lib.hid (HE2.out.below hb); have HB3 := Lib.hid (HB2.out.trans (hb.mono HE2.out.1)); clear hb)
    | (go_at_call 57; (with_reducible refine (HC6.out _ HE3.out).mono ?_); rintro e w4 ⟨rfl, hb⟩; have HE4 := Lib.hid (HE3.out.below hb); have HB4 := Lib.hid (HB3.out.trans (hb.mono HE3.out.1)); clear hb)
    | (go_at_call 24; (with_reducible refine (HC7.out _ HE4.out).mono ?_); rintro e w5 ⟨rfl, hb, he⟩; have HE5 := Lib.hid he; have HB5 := Lib.hid (HB4.out.trans hb); clear hb he)
    | (go_at_call 20; (with_reducible refine (HNUM.out _ _).mono ?_); rintro e w ⟨rfl, rfl⟩)
    | (go_at_call 26; (with_reducible refine (HC8.out _ HE5.out).mono ?_); rintro e w ⟨rfl, rfl⟩)
    | (go_at_call 28; (with_reducible refine (HC9.out _ HE5.out).mono ?_); rintro e w6 ⟨rfl, hb⟩; have HE6 := Lib.hid (HE5.out.below hb); have HB6 := Lib.hid (HB5.out.trans (hb.mono HE5.out.1)); clear hb))
  go_ret
  exact ⟨rfl, HB6.out⟩
end Go.Proofs.Ytmcgagjjgomkeaa
