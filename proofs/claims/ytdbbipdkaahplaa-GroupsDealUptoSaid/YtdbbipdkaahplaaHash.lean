/- The walks of the two hash functions. -/
import Derived.Test.YtdbbipdkaahplaaBase
namespace Go.Proofs.Ytdbbipdkaahplaa
open Go.RowKit

def hashStep (h : Int) (b : UInt8) : Int := bits .xor .u32 h ((b.toNat : Int) % 4294967296) * 16777619 % 4294967296
def hash (l : List UInt8) : Int := l.foldl hashStep 2166136261

theorem hash_snoc (l : List UInt8) (c : UInt8) : hash (l ++ [c]) = hashStep (hash l) c := by simp [hash]
theorem hash_bd (l : List UInt8) : 0 ≤ hash l ∧ hash l < 4294967296 := by
  have key : ∀ (l : List UInt8) (h : Int), 0 ≤ h ∧ h < 4294967296 → 0 ≤ l.foldl hashStep h ∧ l.foldl hashStep h < 4294967296 := by
    intro l
    induction l with
    | nil => intro h hh; exact hh
    | cons c l ih => intro h _; exact ih _ (by unfold hashStep; omega)
  exact key l _ (by omega)

set_option maxHeartbeats 400000 in
theorem hash_any (s : ByteArray) (w : World) (hs : s.size ≤ maxLen) :
    Calls Try.prog 23 #[.string s] w fun e w' => e = .returned (.int .u32 (hash s.data.toList)) ∧ w = w' := by
  unfold maxLen at hs
  go_enter Try.func23, Try.ntmps23
  go_wp2
  go_loop [3, 7] (fun h i => ∃ k : Nat, k ≤ s.size ∧ i = .int .i64 k ∧ h = .int .u32 (hash (s.data.toList.take k))) (fun _ i => s.size - (intOf i).toNat)
  case atStart => exact ⟨0, Nat.zero_le _, rfl, rfl⟩
  case round =>
    obtain ⟨k, hk, rfl, rfl⟩ := hrel
    by_cases hlt : k < s.size
    · go_wp2
      go_round
      case rel => exact ⟨k + 1, by omega, by go_num, by rw [take_snoc s k hlt, hash_snoc, hashStep]⟩
      case measure => simp [intOf]; omega
    · go_wp2
      go_ret
      exact ⟨ret_int (by rw [List.take_of_length_le (by simp; omega)]), rfl⟩

set_option maxHeartbeats 400000 in
theorem refHash_any (s : ByteArray) (w : World) (hs : s.size ≤ maxLen) :
    Calls Try.prog 24 #[.string s] w fun e w' => e = .returned (.int .u32 (hash s.data.toList)) ∧ w = w' := by
  unfold maxLen at hs
  go_enter Try.func24, Try.ntmps24
  go_wp2
  go_loop [3, 4] (fun h i => ∃ k : Nat, k ≤ s.size ∧ i = .int .i64 k ∧ h = .int .u32 (hash (s.data.toList.take k))) (fun _ i => s.size - (intOf i).toNat)
  case atStart => exact ⟨0, Nat.zero_le _, rfl, rfl⟩
  case round =>
    obtain ⟨k, hk, rfl, rfl⟩ := hrel
    by_cases hlt : k < s.size
    · go_wp2
      go_round
      case rel => exact ⟨k + 1, by omega, by go_num, by rw [take_snoc s k hlt, hash_snoc, hashStep]⟩
      case measure => simp [intOf]; omega
    · go_wp2
      go_ret
      exact ⟨ret_int (by rw [List.take_of_length_le (by simp; omega)]), rfl⟩

def mayB (p g : Int) : Prop := 1 ≤ g ∧ g ≤ 32768 ∧ 1 ≤ p ∧ p ≤ g

set_option maxHeartbeats 400000 in
theorem may_yes (p g : Int) (w : World) (h : mayB p g) :
    Calls Try.prog 29 #[.int .i64 p, .int .i64 g] w fun e w' => e = .returned (.bool true) ∧ w = w' := by
  obtain ⟨h1, h2, h3, h4⟩ := h
  go_enter Try.func29, Try.ntmps29
  go_wp2
  go_ret
  exact ⟨rfl, rfl⟩

set_option maxHeartbeats 400000 in
theorem may_no (p g : Int) (w : World) (h : ¬ mayB p g) :
    Calls Try.prog 29 #[.int .i64 p, .int .i64 g] w fun e w' => e = .returned (.bool false) ∧ w = w' := by
  unfold mayB at h
  go_enter Try.func29, Try.ntmps29
  by_cases h1 : 1 ≤ g
  · by_cases h2 : g ≤ 32768
    · by_cases h3 : 1 ≤ p
      · by_cases h4 : p ≤ g
        · exact absurd ⟨h1, h2, h3, h4⟩ h
        · clear h
          go_wp2
          go_ret
          exact ⟨rfl, rfl⟩
      · clear h
        go_wp2
        go_ret
        exact ⟨rfl, rfl⟩
    · clear h
      go_wp2
      go_ret
      exact ⟨rfl, rfl⟩
  · clear h
    go_wp2
    go_ret
    exact ⟨rfl, rfl⟩
end Go.Proofs.Ytdbbipdkaahplaa
