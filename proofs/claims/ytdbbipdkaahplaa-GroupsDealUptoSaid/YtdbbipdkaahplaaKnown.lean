/- The walk of known: the answers that the document names. -/
import Derived.Test.YtdbbipdkaahplaaMoves
namespace Go.Proofs.Ytdbbipdkaahplaa
open Go.RowKit

/-- A row of the call's own with an element at least: its address, its cells. -/
theorem ownsRow_open {W : World} {base : Nat} {e : TypeId} {size : Nat} {v : Value} {k : Nat} {xs : List Value} (h : W.ownsRow base e size v (k + 1) xs) :
    ∃ g cap, v = .slice (some ⟨g, 0, none⟩) (k + 1) cap ∧ base ≤ g ∧ g < W.heap.size ∧ k + 1 ≤ cap ∧ cap ≤ maxLen ∧ (∀ j u, xs[j]? = some u → W.cell? ⟨g, j, none⟩ = some u) ∧ ∀ j, W.frozen? ⟨g, j, none⟩ = false := by
  rcases h.2 with ⟨_, h0⟩ | ⟨g, cap, cur, rfl, hb, hg, hc, hm, hs, ht⟩
  · omega
  · refine ⟨g, cap, rfl, hb, (Array.getElem?_eq_some_iff.1 hg).1, hc, hm, fun j u hj => ?_, fun j => by simp [World.frozen?, hg]⟩
    have hj' : j < xs.length := by
      rcases Nat.lt_or_ge j xs.length with h1 | h1
      · exact h1
      · rw [List.getElem?_eq_none h1] at hj; cases hj
    simp only [World.cell?, hg]
    rw [← ht, List.getElem?_take_of_lt (by rw [← h.1]; exact hj')] at hj
    simpa using hj

theorem num_any (n : Int) (w : World) : Calls Try.prog 14 #[.int .i64 n] w fun e w' => e = .returned (.int .i64 n) ∧ w = w' := by
  go_enter Try.func14, Try.ntmps14
  go_wp2
  go_ret
  exact ⟨rfl, rfl⟩

theorem known_str (w : World) : Calls Try.prog 17 #[.int .i64 2, .int .i64 3, .int .i64 10] w fun e w' => e = .returned (.tuple #[.int .i64 6, .int .i64 10, .int .i64 0]) ∧ Below w.heap.size w w' :=
  Stretch_yes 2 3 10 w (by decide) (by decide) (by decide)
theorem known_wrk (w : World) : Calls Try.prog 18 #[.int .i64 5, .int .i64 3, .int .i64 10] w fun e w' => e = .returned (.tuple #[.int .i64 1, .int .i64 0]) ∧ Below w.heap.size w w' :=
  Worker_yes 5 3 10 w (by decide) (by decide) (by decide)
theorem known_mov (w : World) : Calls Try.prog 12 #[.int .i64 2, .int .i64 3, .int .i64 10] w fun e w' => ∃ v, e = .returned (.tuple #[v, .int .i64 0]) ∧ Below w.heap.size w w' ∧
    w'.ownsRow w.heap.size 40 4 v 2 [.int .i64 3, .int .i64 5, .int .i64 0, .int .i64 1, .int .i64 6, .int .i64 10, .int .i64 1, .int .i64 2] := by
  have h := Moves_yes 2 3 10 w (by decide) (by decide)
  have e : movPre 2 3 10 (List.range 2) = [⟨3, 5, 0, 1⟩, ⟨6, 10, 1, 2⟩] := by rfl
  rw [e] at h
  exact h
theorem known_grp (w : World) : Calls Try.prog 16 #[.string ⟨#[97]⟩, .int .i64 32769] w fun e w' => e = .returned (.tuple #[.int .i64 0, .int .i64 2]) ∧ w = w' := by
  have h := Group_any ⟨#[97]⟩ 32769 w (by decide)
  have e1 := grpE_2 (l := (⟨#[97]⟩ : ByteArray).data.toList) (g := 32769) (by decide)
  rw [grp_n (by rw [e1]; decide), e1] at h
  exact h
theorem known_hash (w : World) : Calls Try.prog 23 #[.string ⟨#[102, 111, 111, 98, 97, 114]⟩] w fun e w' => e = .returned (.int .u32 3214735720) ∧ w = w' := by
  have h := hash_any ⟨#[102, 111, 111, 98, 97, 114]⟩ w (by decide)
  have e : hash (⟨#[102, 111, 111, 98, 97, 114]⟩ : ByteArray).data.toList = 3214735720 := by decide +kernel
  rw [e] at h
  exact h

set_option maxRecDepth 100000 in
set_option maxHeartbeats 1000000 in
theorem known_any (w : World) : Calls Try.prog 11 #[] w fun e w' => e = .returned (.bool true) ∧ Below w.heap.size w w' := by
  go_enter Try.func11, Try.ntmps11
  go_wp2_with fail
  (with_reducible refine (known_str _).mono ?_); rintro e w1 ⟨rfl, hb1⟩
  go_wp2_with fail
  (with_reducible refine (known_wrk _).mono ?_); rintro e w2 ⟨rfl, hb2⟩
  go_wp2_with fail
  (with_reducible refine (known_mov _).mono ?_); rintro e w3 ⟨v, rfl, hb3, hrow⟩
  obtain ⟨g, cap, rfl, hg1, hg2, hc1, hc2, hcell, -⟩ := ownsRow_open hrow
  have c0 := hcell 0 _ rfl
  have c1 := hcell 1 _ rfl
  have c2 := hcell 2 _ rfl
  have c3 := hcell 3 _ rfl
  have HC := Lib.hid hcell
  have HB := Lib.hid (below_trans (below_trans hb1 hb2) hb3)
  clear hcell hb1 hb2 hb3 hrow
  go_wp2_with fail
  (with_reducible refine (known_grp _).mono ?_); rintro e w4 ⟨rfl, rfl⟩
  go_wp2_with fail
  (with_reducible refine (known_hash _).mono ?_); rintro e w4 ⟨rfl, rfl⟩
  go_wp2_with (go_at_call 14; (with_reducible refine (num_any _ _).mono ?_); rintro e w' ⟨rfl, rfl⟩)
  go_ret
  exact ⟨rfl, HB.out⟩
end Go.Proofs.Ytdbbipdkaahplaa
