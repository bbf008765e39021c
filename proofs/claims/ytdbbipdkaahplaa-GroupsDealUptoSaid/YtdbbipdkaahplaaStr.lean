/- The walks of the functions on one worker, one group. -/
import Derived.Test.YtdbbipdkaahplaaHash
namespace Go.Proofs.Ytdbbipdkaahplaa
open Go.RowKit

theorem mul_bd {n p g : Int} (hp : 1 ≤ p) (hp2 : p ≤ 32768) (hg : 1 ≤ g) (hg2 : g ≤ 32768) (hn : 0 ≤ n) (hn2 : n ≤ p) : 0 ≤ n * g ∧ n * g ≤ 1073741824 := by
  refine ⟨Int.mul_nonneg hn (by omega), ?_⟩
  have h1 : n * g ≤ 32768 * g := Int.mul_le_mul_of_nonneg_right (by omega) (by omega)
  omega
instance (p g : Int) : Decidable (mayB p g) := by unfold mayB; infer_instance

def strOk (n p g : Int) : Prop := mayB p g ∧ 0 ≤ n ∧ n < p
instance (n p g : Int) : Decidable (strOk n p g) := by unfold strOk; infer_instance
def strA (n p g : Int) : Int := if strOk n p g then n * g / p else 0
def strB (n p g : Int) : Int := if strOk n p g then (n + 1) * g / p else 0
def strE (n p g : Int) : Int := if strOk n p g then 0 else 2

set_option maxHeartbeats 400000 in
theorem stretch_any (n p g : Int) (w : World) (hp : 1 ≤ p) (hp2 : p ≤ 32768) (hg : 1 ≤ g) (hg2 : g ≤ 32768) (hn : 0 ≤ n) (hn2 : n < p) :
    Calls Try.prog 30 #[.int .i64 n, .int .i64 p, .int .i64 g] w fun e w' => e = .returned (.agg #[.int .i64 (n * g / p), .int .i64 ((n + 1) * g / p)]) ∧ Below w.heap.size w w' := by
  obtain ⟨a1, a2⟩ := mul_bd hp hp2 hg hg2 hn (by omega)
  obtain ⟨b1, b2⟩ := mul_bd hp hp2 hg hg2 (n := n + 1) (by omega) (by omega)
  go_enter Try.func30, Try.ntmps30
  go_wp2
  go_region
  all_goals go_wp2
  exact bodyPost_ret (v := .agg #[.int .i64 (n * g / p), .int .i64 ((n + 1) * g / p)]) (by simp [results, Try.results30, go_sem]) rfl ⟨rfl, ((Below.refl _ _).alloc (Nat.le_refl _) _).drew⟩

set_option maxHeartbeats 400000 in
theorem Stretch_yes (n p g : Int) (w : World) (h : mayB p g) (hn : 0 ≤ n) (hn2 : n < p) :
    Calls Try.prog 17 #[.int .i64 n, .int .i64 p, .int .i64 g] w fun e w' => e = .returned (.tuple #[.int .i64 (n * g / p), .int .i64 ((n + 1) * g / p), .int .i64 0]) ∧ Below w.heap.size w w' := by
  obtain ⟨h1, h2, h3, h4⟩ := id h
  obtain ⟨a1, a2⟩ := mul_bd h3 (by omega) h1 h2 hn (by omega)
  obtain ⟨b1, b2⟩ := mul_bd h3 (by omega) h1 h2 (n := n + 1) (by omega) (by omega)
  have H := Lib.hid h
  clear h
  go_enter Try.func17, Try.ntmps17
  go_wp2_with (first
    | (go_at_call 29; refine (may_yes _ _ _ H.out).mono ?_; rintro e w' ⟨rfl, rfl⟩)
    | (go_at_call 30; refine (stretch_any _ _ _ _ h3 (by omega) h1 h2 hn hn2).mono ?_; rintro e w1 ⟨rfl, hb⟩))
  go_region
  all_goals go_wp2
  go_ret3
  exact ⟨rfl, (hb.alloc hb.size _).drew⟩

set_option maxHeartbeats 400000 in
theorem Stretch_no (n p g : Int) (w : World) (h : ¬ strOk n p g) :
    Calls Try.prog 17 #[.int .i64 n, .int .i64 p, .int .i64 g] w fun e w' => e = .returned (.tuple #[.int .i64 0, .int .i64 0, .int .i64 2]) ∧ Below w.heap.size w w' := by
  by_cases hm : mayB p g
  · have H := Lib.hid hm
    by_cases h0 : n < 0
    · clear h hm
      go_enter Try.func17, Try.ntmps17
      go_wp2_with (go_at_call 29; refine (may_yes _ _ _ H.out).mono ?_; rintro e w' ⟨rfl, rfl⟩)
      go_ret3
      exact ⟨rfl, Below.refl _ _⟩
    · have h1 : p ≤ n := by
        by_cases h2 : n < p
        · exact absurd ⟨hm, by omega, h2⟩ h
        · omega
      clear h hm
      go_enter Try.func17, Try.ntmps17
      go_wp2_with (go_at_call 29; refine (may_yes _ _ _ H.out).mono ?_; rintro e w' ⟨rfl, rfl⟩)
      go_ret3
      exact ⟨rfl, Below.refl _ _⟩
  · have H := Lib.hid hm
    clear hm h
    go_enter Try.func17, Try.ntmps17
    go_wp2_with (go_at_call 29; refine (may_no _ _ _ H.out).mono ?_; rintro e w' ⟨rfl, rfl⟩)
    go_ret3
    exact ⟨rfl, Below.refl _ _⟩

theorem Stretch_any (n p g : Int) (w : World) :
    Calls Try.prog 17 #[.int .i64 n, .int .i64 p, .int .i64 g] w fun e w' => e = .returned (.tuple #[.int .i64 (strA n p g), .int .i64 (strB n p g), .int .i64 (strE n p g)]) ∧ Below w.heap.size w w' := by
  unfold strA strB strE
  by_cases h : strOk n p g
  · rw [if_pos h, if_pos h, if_pos h]; exact Stretch_yes n p g w h.1 h.2.1 h.2.2
  · rw [if_neg h, if_neg h, if_neg h]; exact Stretch_no n p g w h

set_option maxHeartbeats 400000 in
theorem Groups_yes (g : Int) (w : World) (h : 1 ≤ g) (h2 : g ≤ 32768) :
    Calls Try.prog 31 #[.int .i64 g] w fun e w' => e = .returned (.bool true) ∧ w = w' := by
  go_enter Try.func31, Try.ntmps31
  go_wp2
  go_ret
  exact ⟨rfl, rfl⟩

set_option maxHeartbeats 400000 in
theorem Groups_no (g : Int) (w : World) (h : ¬ (1 ≤ g ∧ g ≤ 32768)) :
    Calls Try.prog 31 #[.int .i64 g] w fun e w' => e = .returned (.bool false) ∧ w = w' := by
  by_cases h1 : 1 ≤ g
  · have h2 : 32768 < g := by omega
    clear h
    go_enter Try.func31, Try.ntmps31
    go_wp2
    go_ret
    exact ⟨ret_bool (by simp; omega), rfl⟩
  · clear h
    go_enter Try.func31, Try.ntmps31
    go_wp2
    go_ret
    exact ⟨rfl, rfl⟩

set_option maxHeartbeats 400000 in
theorem Workers_yes (p g : Int) (w : World) (h : mayB p g) :
    Calls Try.prog 9 #[.int .i64 p, .int .i64 g] w fun e w' => e = .returned (.bool true) ∧ w = w' := by
  obtain ⟨h1, h2, h3, h4⟩ := h
  go_enter Try.func9, Try.ntmps9
  go_wp2_with (go_at_call 31; refine (Groups_yes _ _ h1 h2).mono ?_; rintro e w' ⟨rfl, rfl⟩)
  go_ret
  exact ⟨rfl, rfl⟩

set_option maxHeartbeats 400000 in
theorem Workers_no (p g : Int) (w : World) (h : ¬ mayB p g) :
    Calls Try.prog 9 #[.int .i64 p, .int .i64 g] w fun e w' => e = .returned (.bool false) ∧ w = w' := by
  by_cases hg : 1 ≤ g ∧ g ≤ 32768
  · obtain ⟨h1, h2⟩ := hg
    by_cases h3 : 1 ≤ p
    · have h4 : g < p := by
        by_cases h4 : p ≤ g
        · exact absurd ⟨h1, h2, h3, h4⟩ h
        · omega
      clear h
      go_enter Try.func9, Try.ntmps9
      go_wp2_with (go_at_call 31; refine (Groups_yes _ _ h1 h2).mono ?_; rintro e w' ⟨rfl, rfl⟩)
      go_ret
      exact ⟨ret_bool (by simp; omega), rfl⟩
    · clear h
      go_enter Try.func9, Try.ntmps9
      go_wp2_with (go_at_call 31; refine (Groups_yes _ _ h1 h2).mono ?_; rintro e w' ⟨rfl, rfl⟩)
      go_ret
      exact ⟨rfl, rfl⟩
  · have H := Lib.hid hg
    clear h hg
    go_enter Try.func9, Try.ntmps9
    go_wp2_with (go_at_call 31; refine (Groups_no _ _ H.out).mono ?_; rintro e w' ⟨rfl, rfl⟩)
    go_ret
    exact ⟨rfl, rfl⟩

set_option maxHeartbeats 400000 in
theorem refStretch_yes (n p g : Int) (w : World) (h : mayB p g) (hn : 0 ≤ n) (hn2 : n < p) :
    Calls Try.prog 10 #[.int .i64 n, .int .i64 p, .int .i64 g] w fun e w' => e = .returned (.tuple #[.int .i64 (n * g / p), .int .i64 ((n + 1) * g / p), .int .i64 0]) ∧ Below w.heap.size w w' := by
  obtain ⟨h1, h2, h3, h4⟩ := id h
  obtain ⟨a1, a2⟩ := mul_bd h3 (by omega) h1 h2 hn (by omega)
  obtain ⟨b1, b2⟩ := mul_bd h3 (by omega) h1 h2 (n := n + 1) (by omega) (by omega)
  have H := Lib.hid h
  clear h
  go_enter Try.func10, Try.ntmps10
  go_wp2_with (go_at_call 9; refine (Workers_yes _ _ _ H.out).mono ?_; rintro e w' ⟨rfl, rfl⟩)
  go_region
  all_goals go_wp2
  go_ret3
  exact ⟨rfl, (Below.refl _ _).drew⟩

set_option maxHeartbeats 400000 in
theorem refStretch_no (n p g : Int) (w : World) (h : ¬ strOk n p g) :
    Calls Try.prog 10 #[.int .i64 n, .int .i64 p, .int .i64 g] w fun e w' => e = .returned (.tuple #[.int .i64 0, .int .i64 0, .int .i64 2]) ∧ Below w.heap.size w w' := by
  by_cases hm : mayB p g
  · have H := Lib.hid hm
    by_cases h0 : n < 0
    · clear h hm
      go_enter Try.func10, Try.ntmps10
      go_wp2_with (go_at_call 9; refine (Workers_yes _ _ _ H.out).mono ?_; rintro e w' ⟨rfl, rfl⟩)
      go_ret3
      exact ⟨rfl, Below.refl _ _⟩
    · have h1 : p ≤ n := by
        by_cases h2 : n < p
        · exact absurd ⟨hm, by omega, h2⟩ h
        · omega
      clear h hm
      go_enter Try.func10, Try.ntmps10
      go_wp2_with (go_at_call 9; refine (Workers_yes _ _ _ H.out).mono ?_; rintro e w' ⟨rfl, rfl⟩)
      go_ret3
      exact ⟨rfl, Below.refl _ _⟩
  · have H := Lib.hid hm
    clear hm h
    go_enter Try.func10, Try.ntmps10
    go_wp2_with (go_at_call 9; refine (Workers_no _ _ _ H.out).mono ?_; rintro e w' ⟨rfl, rfl⟩)
    go_ret3
    exact ⟨rfl, Below.refl _ _⟩

theorem refStretch_any (n p g : Int) (w : World) :
    Calls Try.prog 10 #[.int .i64 n, .int .i64 p, .int .i64 g] w fun e w' => e = .returned (.tuple #[.int .i64 (strA n p g), .int .i64 (strB n p g), .int .i64 (strE n p g)]) ∧ Below w.heap.size w w' := by
  unfold strA strB strE
  by_cases h : strOk n p g
  · rw [if_pos h, if_pos h, if_pos h]; exact refStretch_yes n p g w h.1 h.2.1 h.2.2
  · rw [if_neg h, if_neg h, if_neg h]; exact refStretch_no n p g w h
end Go.Proofs.Ytdbbipdkaahplaa
