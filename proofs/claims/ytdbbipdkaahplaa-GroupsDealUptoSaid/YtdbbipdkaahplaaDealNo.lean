/- Both Deals where the numbers fit no group; and both contracts in the two forms that the law takes. -/
import Derived.Test.YtdbbipdkaahplaaRefDeal
namespace Go.Proofs.Ytdbbipdkaahplaa
open Go.RowKit

theorem Deal_no (p g : Int) (v : Value) (w : World) (hp : ¬ mayB p g) :
    Calls Try.prog 25 #[.int .i64 p, .int .i64 g, v] w fun e w' => e = .returned (.tuple #[.slice none 0 0, .int .i64 2]) ∧ w = w' := by
  go_enter Try.func25, Try.ntmps25
  go_wp2_with (go_at_call 29; (with_reducible refine (may_no _ _ _ hp).mono ?_); rintro e w' ⟨rfl, rfl⟩)
  all_goals first | exact ⟨rfl, rfl⟩ | (go_ret2; exact ⟨rfl, rfl⟩)
theorem refDeal_no (p g : Int) (v : Value) (w : World) (hp : ¬ mayB p g) :
    Calls Try.prog 26 #[.int .i64 p, .int .i64 g, v] w fun e w' => e = .returned (.tuple #[.slice none 0 0, .int .i64 2]) ∧ w = w' := by
  go_enter Try.func26, Try.ntmps26
  go_wp2_with (go_at_call 9; (with_reducible refine (Workers_no _ _ _ hp).mono ?_); rintro e w' ⟨rfl, rfl⟩)
  all_goals first | exact ⟨rfl, rfl⟩ | (go_ret2; exact ⟨rfl, rfl⟩)

/-- The keys can be dealt. -/
def fits (p g : Int) (ks : List ByteArray) : Prop := mayB p g ∧ ∀ k ∈ ks, k.size ≤ 256
/-- Which error there is else. -/
def dealE (p g : Int) : Int := if mayB p g then 3 else 2

theorem Deal_fail (p g : Int) (v : Value) (ks : List ByteArray) (w : World) (hn : ¬ fits p g ks) (hk : ks.length ≤ 2097152) (hs : ∀ k ∈ ks, k.size ≤ maxLen) (hr : Rd w v ks.length (txCells ks)) :
    Calls Try.prog 25 #[.int .i64 p, .int .i64 g, v] w fun e w' => e = .returned (.tuple #[.slice none 0 0, .int .i64 (dealE p g)]) ∧ Below w.heap.size w w' := by
  by_cases hp : mayB p g
  · have e : dealE p g = 3 := if_pos hp
    have h1 := hp.2.2.1
    obtain ⟨P, rfl⟩ : ∃ P : Nat, p = (P : Int) := ⟨p.toNat, by omega⟩
    rw [e]
    refine (Deal_yes P g v ks w hp hk hs hr).mono ?_
    rintro e w' ⟨hb, ⟨_, _, _, _, h⟩ | ⟨h, _⟩⟩
    · exact (hn ⟨hp, h⟩).elim
    · exact ⟨h, hb⟩
  · have e : dealE p g = 2 := if_neg hp
    rw [e]
    refine (Deal_no p g v w hp).mono ?_
    rintro e w' ⟨h, rfl⟩
    exact ⟨h, Below.refl _ _⟩
theorem refDeal_fail (p g : Int) (v : Value) (ks : List ByteArray) (w : World) (hn : ¬ fits p g ks) (hk : ks.length ≤ 2097152) (hs : ∀ k ∈ ks, k.size ≤ maxLen) (hr : Rd w v ks.length (txCells ks)) :
    Calls Try.prog 26 #[.int .i64 p, .int .i64 g, v] w fun e w' => e = .returned (.tuple #[.slice none 0 0, .int .i64 (dealE p g)]) ∧ Below w.heap.size w w' := by
  by_cases hp : mayB p g
  · have e : dealE p g = 3 := if_pos hp
    have h1 := hp.2.2.1
    obtain ⟨P, rfl⟩ : ∃ P : Nat, p = (P : Int) := ⟨p.toNat, by omega⟩
    rw [e]
    refine (refDeal_yes P g v ks w hp hk hs hr).mono ?_
    rintro e w' ⟨hb, ⟨_, _, _, _, h⟩ | ⟨h, _⟩⟩
    · exact (hn ⟨hp, h⟩).elim
    · exact ⟨h, hb⟩
  · have e : dealE p g = 2 := if_neg hp
    rw [e]
    refine (refDeal_no p g v w hp).mono ?_
    rintro e w' ⟨h, rfl⟩
    exact ⟨h, Below.refl _ _⟩
theorem dealE_ne (p g : Int) : dealE p g ≠ 0 := by unfold dealE; split <;> decide

theorem Deal_good (P : Nat) (g : Int) (v : Value) (ks : List ByteArray) (w : World) (hf : fits (P : Int) g ks) (hk : ks.length ≤ 2097152) (hs : ∀ k ∈ ks, k.size ≤ maxLen) (hr : Rd w v ks.length (txCells ks)) :
    Calls Try.prog 25 #[.int .i64 (P : Int), .int .i64 g, v] w fun e w' => ∃ go vs, e = .returned (.tuple #[.slice (some ⟨go, 0, none⟩) P P, .int .i64 0]) ∧ Below w.heap.size w w' ∧ Dealt w' w.heap.size P go vs (rowOf (P : Int) g ks) := by
  refine (Deal_yes P g v ks w hf.1 hk hs hr).mono ?_
  rintro e w' ⟨hb, ⟨go, vs, he, hd, _⟩ | ⟨_, k, hk, hl⟩⟩
  · exact ⟨go, vs, he, hb, hd⟩
  · have := hf.2 k hk; omega
theorem refDeal_good (P : Nat) (g : Int) (v : Value) (ks : List ByteArray) (w : World) (hf : fits (P : Int) g ks) (hk : ks.length ≤ 2097152) (hs : ∀ k ∈ ks, k.size ≤ maxLen) (hr : Rd w v ks.length (txCells ks)) :
    Calls Try.prog 26 #[.int .i64 (P : Int), .int .i64 g, v] w fun e w' => ∃ go vs, e = .returned (.tuple #[.slice (some ⟨go, 0, none⟩) P P, .int .i64 0]) ∧ Below w.heap.size w w' ∧ Dealt w' w.heap.size P go vs (rowOf (P : Int) g ks) := by
  refine (refDeal_yes P g v ks w hf.1 hk hs hr).mono ?_
  rintro e w' ⟨hb, ⟨go, vs, he, hd, _⟩ | ⟨_, k, hk, hl⟩⟩
  · exact ⟨go, vs, he, hb, hd⟩
  · have := hf.2 k hk; omega
end Go.Proofs.Ytdbbipdkaahplaa
