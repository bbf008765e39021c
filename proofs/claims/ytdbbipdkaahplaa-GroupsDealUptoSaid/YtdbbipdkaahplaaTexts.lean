/- The walk of SameTexts. -/
import Derived.Test.YtdbbipdkaahplaaMovLaw
namespace Go.Proofs.Ytdbbipdkaahplaa
open Go.RowKit

/-- Texts as cells. -/
def txCells (l : List ByteArray) : List Value := l.map Value.string
theorem txCells_at (l : List ByteArray) (k : Nat) (s : ByteArray) (h : l[k]? = some s) : (txCells l)[k]? = some (.string s) := by simp [txCells, h]
theorem txCells_length (l : List ByteArray) : (txCells l).length = l.length := by simp [txCells]

set_option maxHeartbeats 400000 in
theorem SameTexts_any (v1 v2 : Value) (l : List ByteArray) (w : World) (h1 : Rd w v1 l.length (txCells l)) (h2 : Rd w v2 l.length (txCells l)) :
    Calls Try.prog 27 #[v1, v2] w fun e w' => e = .returned (.bool true) ∧ Below w.heap.size w w' := by
  obtain ⟨a1, cap1, rfl, hc1, hm1, hr1⟩ := h1
  obtain ⟨a2, cap2, rfl, hc2, hm2, hr2⟩ := h2
  obtain ⟨n, hn⟩ : ∃ n, l.length = n := ⟨_, rfl⟩
  rw [hn] at hc1 hc2 hr1 hr2 ⊢
  unfold maxLen at hm1 hm2
  have HN := Lib.hid hn
  have HR1 := Lib.hid hr1
  have HR2 := Lib.hid hr2
  clear hn hr1 hr2
  go_enter Try.func27, Try.ntmps27
  go_wp2
  go_loopw [5] (fun i wr => ∃ k : Nat, i = .int .i64 k ∧ k ≤ n ∧ Below w.heap.size w wr) (fun i _ => n - (intOf i).toNat)
  case atStart => exact ⟨0, rfl, Nat.zero_le _, Below.refl _ _⟩
  case round =>
    obtain ⟨k, rfl, hk, hb⟩ := hrel
    by_cases hlt : k < n
    · obtain ⟨g1, o1, rfl, hg1, hx1⟩ := HR1.out (by omega)
      obtain ⟨g2, o2, rfl, hg2, hx2⟩ := HR2.out (by omega)
      obtain ⟨s, hs⟩ : ∃ s, l[k]? = some s := ⟨_, List.getElem?_eq_getElem (by have := HN.out; omega)⟩
      have y0 := txCells_at l k s hs
      have f0 := (hb.cell (p := ⟨g1, o1 + k, none⟩) hg1).trans (hx1 _ _ y0)
      have q0 := (hb.cell (p := ⟨g2, o2 + k, none⟩) hg2).trans (hx2 _ _ y0)
      clear hx1 hx2 y0 hs
      go_wp2
      go_region
      all_goals go_wp2
      all_goals go_roundw
      case rel => exact ⟨k + 1, by go_num, by omega, hb.drew⟩
      case measure => simp [intOf]; omega
    · go_wp2
      go_ret
      exact ⟨rfl, hb⟩
end Go.Proofs.Ytdbbipdkaahplaa
