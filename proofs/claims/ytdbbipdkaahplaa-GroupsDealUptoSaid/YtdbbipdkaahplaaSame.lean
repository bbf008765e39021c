/- The walks of the two comparisons. -/
import Derived.Test.YtdbbipdkaahplaaKnown
namespace Go.Proofs.Ytdbbipdkaahplaa
open Go.RowKit

/-- A slice that reads as these cells (n elements). -/
def Rd (w : World) (v : Value) (n : Nat) (xs : List Value) : Prop := ∃ a cap, v = .slice a n cap ∧ n ≤ cap ∧ cap ≤ maxLen ∧ (0 < n → ∃ g off, a = some ⟨g, off, none⟩ ∧ g < w.heap.size ∧ ∀ j u, xs[j]? = some u → w.cell? ⟨g, off + j, none⟩ = some u)

theorem Rd.of_owns {w : World} {base : Nat} {e : TypeId} {size : Nat} {v : Value} {n : Nat} {xs : List Value} (h : w.ownsRow base e size v n xs) : Rd w v n xs := by
  cases n with
  | zero =>
    rcases h.2 with ⟨rfl, _⟩ | ⟨g, cap, cur, rfl, _, _, hc, hm, _, _⟩
    · exact ⟨none, 0, rfl, Nat.le_refl _, by decide, fun h => by omega⟩
    · exact ⟨_, cap, rfl, hc, hm, fun h => by omega⟩
  | succ k =>
    obtain ⟨g, cap, rfl, _, hg, hc, hm, hcell, _⟩ := ownsRow_open h
    exact ⟨_, cap, rfl, hc, hm, fun _ => ⟨g, 0, rfl, hg, fun j u hj => by rw [Nat.zero_add]; exact hcell j u hj⟩⟩

theorem Rd.below {w w' : World} {v : Value} {n : Nat} {xs : List Value} (h : Rd w v n xs) (hb : Below w.heap.size w w') : Rd w' v n xs := by
  obtain ⟨a, cap, hv, hc, hm, hr⟩ := h
  refine ⟨a, cap, hv, hc, hm, fun hn => ?_⟩
  obtain ⟨g, off, ha, hg, hcell⟩ := hr hn
  exact ⟨g, off, ha, Nat.lt_of_lt_of_le hg hb.size, fun j u hj => (hb.cell (p := ⟨g, off + j, none⟩) hg).trans (hcell j u hj)⟩

theorem mvCells_at : ∀ (l : List Mv) (k : Nat) (m : Mv), l[k]? = some m → (mvCells l)[k * 4]? = some (.int .i64 m.first) ∧ (mvCells l)[k * 4 + 1]? = some (.int .i64 m.behind) ∧ (mvCells l)[k * 4 + 2]? = some (.int .i64 m.src) ∧ (mvCells l)[k * 4 + 3]? = some (.int .i64 m.dst)
  | [], _, _, h => by simp at h
  | x :: l, 0, m, h => by
    simp only [List.getElem?_cons_zero, Option.some.injEq] at h
    subst h
    simp [mvCells, Mv.cells]
  | x :: l, k + 1, m, h => by
    have ih := mvCells_at l k m (by simpa using h)
    have e : ∀ j, (mvCells (x :: l))[(k + 1) * 4 + j]? = (mvCells l)[k * 4 + j]? := by
      intro j
      have e1 : (k + 1) * 4 + j = (k * 4 + j) + 4 := by omega
      rw [e1]
      show ([.int .i64 x.first, .int .i64 x.behind, .int .i64 x.src, .int .i64 x.dst] ++ mvCells l)[_]? = _
      rw [List.getElem?_append_right (by simp)]
      simp
    rw [e 1, e 2, e 3]
    have e0 := e 0
    simp only [Nat.add_zero] at e0
    rw [e0]
    exact ih

set_option maxHeartbeats 400000 in
theorem SameMoves_any (v1 v2 : Value) (l : List Mv) (w : World) (h1 : Rd w v1 l.length (mvCells l)) (h2 : Rd w v2 l.length (mvCells l)) :
    Calls Try.prog 15 #[v1, v2] w fun e w' => e = .returned (.bool true) ∧ Below w.heap.size w w' := by
  obtain ⟨a1, cap1, rfl, hc1, hm1, hr1⟩ := h1
  obtain ⟨a2, cap2, rfl, hc2, hm2, hr2⟩ := h2
  obtain ⟨n, hn⟩ : ∃ n, l.length = n := ⟨_, rfl⟩
  rw [hn] at hc1 hc2 hr1 hr2 ⊢
  unfold maxLen at hm1 hm2
  have HN := Lib.hid hn
  have HR1 := Lib.hid hr1
  have HR2 := Lib.hid hr2
  clear hn hr1 hr2
  go_enter Try.func15, Try.ntmps15
  go_wp2
  go_loopw [5] (fun i wr => ∃ k : Nat, i = .int .i64 k ∧ k ≤ n ∧ Below w.heap.size w wr) (fun i _ => n - (intOf i).toNat)
  case atStart => exact ⟨0, rfl, Nat.zero_le _, Below.refl _ _⟩
  case round =>
    obtain ⟨k, rfl, hk, hb⟩ := hrel
    by_cases hlt : k < n
    · obtain ⟨g1, o1, rfl, hg1, hx1⟩ := HR1.out (by omega)
      obtain ⟨g2, o2, rfl, hg2, hx2⟩ := HR2.out (by omega)
      obtain ⟨m, hm⟩ : ∃ m, l[k]? = some m := ⟨_, List.getElem?_eq_getElem (by have := HN.out; omega)⟩
      obtain ⟨y0, y1, y2, y3⟩ := mvCells_at l k m hm
      have f0 := (hb.cell (p := ⟨g1, o1 + (k * 4), none⟩) hg1).trans (hx1 _ _ y0)
      have f1 : wr.cell? ⟨g1, o1 + k * 4 + 1, none⟩ = some (.int .i64 m.behind) := by rw [Nat.add_assoc]; exact (hb.cell (p := ⟨g1, o1 + (k * 4 + 1), none⟩) hg1).trans (hx1 _ _ y1)
      have f2 : wr.cell? ⟨g1, o1 + k * 4 + 2, none⟩ = some (.int .i64 m.src) := by rw [Nat.add_assoc]; exact (hb.cell (p := ⟨g1, o1 + (k * 4 + 2), none⟩) hg1).trans (hx1 _ _ y2)
      have f3 : wr.cell? ⟨g1, o1 + k * 4 + 3, none⟩ = some (.int .i64 m.dst) := by rw [Nat.add_assoc]; exact (hb.cell (p := ⟨g1, o1 + (k * 4 + 3), none⟩) hg1).trans (hx1 _ _ y3)
      have q0 := (hb.cell (p := ⟨g2, o2 + (k * 4), none⟩) hg2).trans (hx2 _ _ y0)
      have q1 : wr.cell? ⟨g2, o2 + k * 4 + 1, none⟩ = some (.int .i64 m.behind) := by rw [Nat.add_assoc]; exact (hb.cell (p := ⟨g2, o2 + (k * 4 + 1), none⟩) hg2).trans (hx2 _ _ y1)
      have q2 : wr.cell? ⟨g2, o2 + k * 4 + 2, none⟩ = some (.int .i64 m.src) := by rw [Nat.add_assoc]; exact (hb.cell (p := ⟨g2, o2 + (k * 4 + 2), none⟩) hg2).trans (hx2 _ _ y2)
      have q3 : wr.cell? ⟨g2, o2 + k * 4 + 3, none⟩ = some (.int .i64 m.dst) := by rw [Nat.add_assoc]; exact (hb.cell (p := ⟨g2, o2 + (k * 4 + 3), none⟩) hg2).trans (hx2 _ _ y3)
      clear hx1 hx2 y0 y1 y2 y3 hm
      go_wp2
      go_region
      all_goals go_wp2
      all_goals go_roundw
      case rel => exact ⟨k + 1, by go_num, by omega, hb.drew⟩
      case measure => simp [intOf]; omega
    · go_wp2
      go_ret
      exact ⟨rfl, hb⟩
end Go.Proofs.Ytdbbipdkaahplaa
