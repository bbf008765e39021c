/- Rows of windows in memory, and the walks of the smallest functions. -/
import Derived.Test.YtjdfjaocidjhlaaPl
import Derived.Lib.MinMax
import Derived.IntWalk
namespace Go.Proofs.Ytjdfjaocidjhlaa
open Go.RowKit

/-- The nine cells of a window at a place. -/
structure WnAt (W : World) (g o : Nat) (x : Wn) : Prop where
  c0 : W.cell? ⟨g, o, none⟩ = some (.int .i64 x.s)
  c1 : W.cell? ⟨g, o + 1, none⟩ = some (.int .i64 x.e)
  c2 : W.cell? ⟨g, o + 2, none⟩ = some (.int .i64 x.h)
  c3 : W.cell? ⟨g, o + 3, none⟩ = some (.int .i64 x.c)
  c4 : W.cell? ⟨g, o + 4, none⟩ = some (.int .i64 x.u)
  c5 : W.cell? ⟨g, o + 5, none⟩ = some (.int .i64 x.lo)
  c6 : W.cell? ⟨g, o + 6, none⟩ = some (.int .i64 x.hi)
  c7 : W.cell? ⟨g, o + 7, none⟩ = some (.int .i64 x.si)
  c8 : W.cell? ⟨g, o + 8, none⟩ = some (.int .i64 x.pa)

theorem WnAt.below {W W' : World} {B g o : Nat} {x : Wn} (h : WnAt W g o x) (hb : Below B W W') (hg : g < B) : WnAt W' g o x :=
  ⟨(hb.cell (p := ⟨g, o, none⟩) hg).trans h.c0, (hb.cell (p := ⟨g, o + 1, none⟩) hg).trans h.c1, (hb.cell (p := ⟨g, o + 2, none⟩) hg).trans h.c2, (hb.cell (p := ⟨g, o + 3, none⟩) hg).trans h.c3, (hb.cell (p := ⟨g, o + 4, none⟩) hg).trans h.c4,
   (hb.cell (p := ⟨g, o + 5, none⟩) hg).trans h.c5, (hb.cell (p := ⟨g, o + 6, none⟩) hg).trans h.c6, (hb.cell (p := ⟨g, o + 7, none⟩) hg).trans h.c7, (hb.cell (p := ⟨g, o + 8, none⟩) hg).trans h.c8⟩

def Wn.cells (x : Wn) : List Value := [.int .i64 x.s, .int .i64 x.e, .int .i64 x.h, .int .i64 x.c, .int .i64 x.u, .int .i64 x.lo, .int .i64 x.hi, .int .i64 x.si, .int .i64 x.pa]
def wcells (l : List Wn) : List Value := l.flatMap Wn.cells
theorem wcells_append (a b : List Wn) : wcells (a ++ b) = wcells a ++ wcells b := by simp [wcells]
theorem wcells_length : ∀ (l : List Wn), (wcells l).length = l.length * 9
  | [] => rfl
  | x :: l => by
    have := wcells_length l
    show (x.cells ++ wcells l).length = _
    rw [List.length_append, this]
    simp [Wn.cells]; omega
theorem wcells_at : ∀ (l : List Wn) (k : Nat) (x : Wn), l[k]? = some x → ∀ (j : Nat) (u : Value), x.cells[j]? = some u → (wcells l)[k * 9 + j]? = some u
  | [], _, _, h => by simp at h
  | y :: l, 0, x, h => fun j u hj => by
    simp only [List.getElem?_cons_zero, Option.some.injEq] at h
    subst h
    show (y.cells ++ wcells l)[_]? = _
    rw [Nat.zero_mul, Nat.zero_add, List.getElem?_append_left (List.getElem?_eq_some_iff.1 hj).1]
    exact hj
  | y :: l, k + 1, x, h => fun j u hj => by
    have ih := wcells_at l k x (by simpa using h) j u hj
    show (y.cells ++ wcells l)[_]? = _
    have e : (k + 1) * 9 + j = k * 9 + j + 9 := by omega
    rw [e, List.getElem?_append_right (by simp [Wn.cells])]
    simpa [Wn.cells] using ih

/-- A slice of windows that reads as this list. -/
def Rw (w : World) (v : Value) (l : List Wn) : Prop := ∃ a cap, v = .slice a l.length cap ∧ l.length ≤ cap ∧ cap ≤ maxLen ∧ (0 < l.length → ∃ g off, a = some ⟨g, off, none⟩ ∧ g < w.heap.size ∧ ∀ (k : Nat) (x : Wn), l[k]? = some x → WnAt w g (off + k * 9) x)

theorem Rw.below {w w' : World} {v : Value} {l : List Wn} (h : Rw w v l) (hb : Below w.heap.size w w') : Rw w' v l := by
  obtain ⟨a, cap, hv, hc, hm, hr⟩ := h
  refine ⟨a, cap, hv, hc, hm, fun hn => ?_⟩
  obtain ⟨g, off, ha, hg, hcell⟩ := hr hn
  exact ⟨g, off, ha, Nat.lt_of_lt_of_le hg hb.size, fun k x hk => (hcell k x hk).below hb hg⟩

theorem wnAt_of {W : World} {g o : Nat} {x : Wn} (h : ∀ (j : Nat) (u : Value), x.cells[j]? = some u → W.cell? ⟨g, o + j, none⟩ = some u) : WnAt W g o x :=
  ⟨h 0 _ rfl, h 1 _ rfl, h 2 _ rfl, h 3 _ rfl, h 4 _ rfl, h 5 _ rfl, h 6 _ rfl, h 7 _ rfl, h 8 _ rfl⟩

/-- A row of the call's own with an element at least: its address, its cells. -/
theorem ownsRow_open {W : World} {base : Nat} {e : TypeId} {size : Nat} {v : Value} {k : Nat} {xs : List Value} (h : W.ownsRow base e size v (k + 1) xs) :
    ∃ g cap, v = .slice (some ⟨g, 0, none⟩) (k + 1) cap ∧ base ≤ g ∧ g < W.heap.size ∧ k + 1 ≤ cap ∧ cap ≤ maxLen ∧ (∀ j u, xs[j]? = some u → W.cell? ⟨g, j, none⟩ = some u) ∧ ∀ j, W.frozen? ⟨g, j, none⟩ = false := by
  rcases h.2 with ⟨_, h0⟩ | ⟨g, cap, cur, rfl, hb, hg, hc, hm, hs, ht⟩
  · omega
  · refine ⟨g, cap, rfl, hb, (Array.getElem?_eq_some_iff.1 hg).1, hc, hm, fun j u hj => ?_, fun j => by simp [World.frozen?, hg]⟩
    have hj' : j < xs.length := by
      rcases Nat.lt_or_ge j xs.length with h1 | h1
      · exact h1
      · rw [List.getElem?_eq_none h1] at hj; cases hj
    simp only [World.cell?, hg]
    rw [← ht, List.getElem?_take_of_lt (by rw [← h.1]; exact hj')] at hj
    simpa using hj

theorem Rw.of_owns {w : World} {base : Nat} {e : TypeId} {v : Value} {l : List Wn} (h : w.ownsRow base e 9 v l.length (wcells l)) : Rw w v l := by
  cases hl : l with
  | nil =>
    subst hl
    rcases h.2 with ⟨rfl, _⟩ | ⟨g, cap, cur, rfl, _, _, hc, hm, _, _⟩
    · exact ⟨none, 0, rfl, Nat.le_refl _, by decide, fun h => by simp at h⟩
    · exact ⟨_, cap, rfl, hc, hm, fun h => by simp at h⟩
  | cons y r =>
    rw [← hl]
    have hn : l.length = r.length + 1 := by rw [hl]; rfl
    rw [hn] at h
    obtain ⟨g, cap, rfl, _, hg, hc, hm, hcell, _⟩ := ownsRow_open h
    refine ⟨_, cap, by rw [hn], by omega, hm, fun _ => ⟨g, 0, rfl, hg, fun k x hk => wnAt_of fun j u hj => ?_⟩⟩
    rw [Nat.zero_add]
    exact hcell _ _ (wcells_at l k x hk j u hj)

theorem right_any (n : Int) (w : World) : Calls Try.prog 33 #[.int .i64 n] w fun e w' => e = .returned (.bool (cnt n)) ∧ w = w' := by
  by_cases h : 0 ≤ n ∧ n ≤ 9007199254740992
  · have hc : cnt n = true := by simp [cnt, maxC, h]
    obtain ⟨h1, h2⟩ := h
    go_enter Try.func33, Try.ntmps33
    go_wp2
    go_ret
    first | exact ⟨rfl, rfl⟩ | (rw [hc]; exact ⟨rfl, rfl⟩)
  · have hc : cnt n = false := decide_eq_false h
    by_cases h0 : 0 ≤ n
    · have h2 : ¬ n ≤ 9007199254740992 := fun h2 => h ⟨h0, h2⟩
      go_enter Try.func33, Try.ntmps33
      go_wp2
      go_ret
      first | exact ⟨rfl, rfl⟩ | (rw [hc]; exact ⟨rfl, rfl⟩)
    · go_enter Try.func33, Try.ntmps33
      go_wp2
      go_ret
      first | exact ⟨rfl, rfl⟩ | (rw [hc]; exact ⟨rfl, rfl⟩)

theorem counts_any (n : Int) (w : World) : Calls Try.prog 34 #[.int .i64 n] w fun e w' => e = .returned (.bool (cnt n)) ∧ w = w' := by
  by_cases h : 0 ≤ n ∧ n ≤ 9007199254740992
  · have hc : cnt n = true := by simp [cnt, maxC, h]
    obtain ⟨h1, h2⟩ := h
    go_enter Try.func34, Try.ntmps34
    go_wp2
    go_ret
    first | exact ⟨rfl, rfl⟩ | (rw [hc]; exact ⟨rfl, rfl⟩)
  · have hc : cnt n = false := decide_eq_false h
    by_cases h0 : 0 ≤ n
    · have h2 : ¬ n ≤ 9007199254740992 := fun h2 => h ⟨h0, h2⟩
      go_enter Try.func34, Try.ntmps34
      go_wp2
      go_ret
      first | exact ⟨rfl, rfl⟩ | (rw [hc]; exact ⟨rfl, rfl⟩)
    · go_enter Try.func34, Try.ntmps34
      go_wp2
      go_ret
      first | exact ⟨rfl, rfl⟩ | (rw [hc]; exact ⟨rfl, rfl⟩)

theorem Due_any (s e wm : Int) (w : World) : Calls Try.prog 28 #[.agg #[.int .i64 s, .int .i64 e], .int .i64 wm] w fun e' w' => e' = .returned (.bool (decide (e ≤ wm))) ∧ Below w.heap.size w w' := by
  go_enter Try.func28, Try.ntmps28
  go_wp2
  go_ret
  exact ⟨rfl, below_alloc _ _⟩

/-- Have two spans a time in common? -/
def ovr (s e t f : Int) : Bool := decide (max s t < min e f)
theorem Overlap_any (s e t f : Int) (w : World) : Calls Try.prog 27 #[.agg #[.int .i64 s, .int .i64 e], .agg #[.int .i64 t, .int .i64 f]] w fun e' w' => e' = .returned (.bool (ovr s e t f)) ∧ Below w.heap.size w w' := by
  go_enter Try.func27, Try.ntmps27
  go_wp2
  go_ret
  exact ⟨rfl, ((Below.refl _ w).alloc (Nat.le_refl _) _).alloc (by simp) _⟩
end Go.Proofs.Ytjdfjaocidjhlaa
