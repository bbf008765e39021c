/- Plain: the moves that the program tells are the document's. -/
import Derived.Test.YtdbbipdkaahplaaRefMoves
namespace Go.Proofs.Ytdbbipdkaahplaa
open Go.RowKit

/-- The lists of moves that end at or ahead of x, the last not one that goes on at x. -/
def Fresh (p q g : Int) (out : List Mv) (x : Int) : Prop := ∀ m, out.getLast? = some m → m.behind ≤ x ∧ (m.behind = x → ¬ (m.src = owner p g x ∧ m.dst = owner q g x))

def refFrom (p q g : Int) (out : List Mv) (x : Nat) : Nat → List Mv
  | 0 => out
  | n + 1 => refFrom p q g (refStep p q g out x) (x + 1) n
theorem refFrom_add (p q g : Int) : ∀ (n k : Nat) (out : List Mv) (x : Nat), refFrom p q g out x (n + k) = refFrom p q g (refFrom p q g out x n) (x + n) k
  | 0, k, out, x => by simp [refFrom]
  | n + 1, k, out, x => by
    have e : n + 1 + k = (n + k) + 1 := by omega
    rw [e, refFrom, refFrom_add p q g n k, refFrom]
    congr 1
    omega
theorem refFrom_fold (p q g : Int) : ∀ n, refFrom p q g [] 0 n = refFold p q g n
  | 0 => rfl
  | n + 1 => by
    rw [refFrom_add p q g n 1, refFrom_fold p q g n, refFold_succ]
    simp [refFrom]

/-- Over groups that go alike from one worker to one other. -/
theorem refFrom_alike (p q g a b : Int) (hab : a ≠ b) (x : Nat) : ∀ (n : Nat) (out : List Mv) (z : Nat), (∀ y : Nat, z ≤ y → y < z + n → owner p g y = a ∧ owner q g y = b) →
    refFrom p q g (out ++ [⟨x, z, a, b⟩]) z n = out ++ [⟨x, (z + n : Nat), a, b⟩]
  | 0, out, z, _ => rfl
  | n + 1, out, z, h => by
    obtain ⟨ha, hb⟩ := h z (Nat.le_refl _) (by omega)
    have hs : refStep p q g (out ++ [⟨x, z, a, b⟩]) z = out ++ [⟨x, (z + 1 : Nat), a, b⟩] := by
      unfold refStep
      rw [ha, hb, if_neg hab]
      simp
    rw [refFrom, hs, refFrom_alike p q g a b hab x n out (z + 1) (fun y h1 h2 => h y (by omega) (by omega))]
    have e : z + 1 + n = z + (n + 1) := by omega
    rw [e]

theorem refFrom_stay (p q g a : Int) : ∀ (n : Nat) (out : List Mv) (z : Nat), (∀ y : Nat, z ≤ y → y < z + n → owner p g y = a ∧ owner q g y = a) → refFrom p q g out z n = out
  | 0, _, _, _ => rfl
  | n + 1, out, z, h => by
    obtain ⟨ha, hb⟩ := h z (Nat.le_refl _) (by omega)
    have hs : refStep p q g out z = out := by unfold refStep; rw [ha, hb, if_pos rfl]
    rw [refFrom, hs]
    exact refFrom_stay p q g a n out (z + 1) (fun y h1 h2 => h y (by omega) (by omega))

/-- A stretch that goes alike, from a fresh list on. -/
theorem refFrom_seg (p q g a b : Int) (out : List Mv) (z n : Nat) (hn : 0 < n) (hf : Fresh p q g out z) (h : ∀ y : Nat, z ≤ y → y < z + n → owner p g y = a ∧ owner q g y = b) :
    refFrom p q g out z n = out ++ (if a = b then [] else [⟨z, (z + n : Nat), a, b⟩]) := by
  by_cases hab : a = b
  · subst hab
    rw [if_pos rfl, List.append_nil]
    exact refFrom_stay p q g a n out z h
  · rw [if_neg hab]
    obtain ⟨k, rfl⟩ : ∃ k, n = k + 1 := ⟨n - 1, by omega⟩
    obtain ⟨ha, hb⟩ := h z (Nat.le_refl _) (by omega)
    have hs : refStep p q g out z = out ++ [⟨z, (z + 1 : Nat), a, b⟩] := by
      unfold refStep
      rw [ha, hb, if_neg hab]
      cases hl : out.getLast? with
      | none => simp
      | some m =>
        have hm := hf m hl
        simp only
        rw [if_neg (fun hh => (hm.2 hh.1) ⟨hh.2.1.trans ha.symm, hh.2.2.trans hb.symm⟩)]
        simp
    rw [refFrom, hs, refFrom_alike p q g a b hab z k out (z + 1) (fun y h1 h2 => h y (by omega) (by omega))]
    have e : z + 1 + k = z + (k + 1) := by omega
    rw [e]

theorem owner_range {p g x : Int} (hp : 1 ≤ p) (hg : 1 ≤ g) : owner p g x * g / p ≤ x ∧ x < (owner p g x + 1) * g / p := by
  have h1 := (le_wrk (w := owner p g x) (x := x) hp hg).1 (Int.le_refl _)
  have h2 := le_wrk (w := owner p g x + 1) (x := x) hp hg
  have h3 : ¬ (owner p g x + 1 ≤ ((x + 1) * p - 1) / g) := by unfold owner; omega
  exact ⟨h1, by have : ¬ ((owner p g x + 1) * g / p ≤ x) := fun h => h3 (h2.2 h); omega⟩

theorem owner_end {p g k z : Int} (hp : 1 ≤ p) (hg : 1 ≤ g) (h : (k + 1) * g / p ≤ z) : owner p g z ≠ k := by
  have := (le_wrk (w := k + 1) (x := z) hp hg).2 h
  unfold owner; omega

/-- One worker's stretch. -/
theorem movIn_ref (P : Nat) (q g : Int) (hp : mayB P g) (hq : mayB q g) (y : Nat) (s1 : Nat) (hs1 : ((y : Int) + 1) * g / P = s1) :
    ∀ (f : Nat) (x : Nat) (out : List Mv), (y : Int) * g / P ≤ x → x ≤ s1 → s1 - x ≤ f → Fresh P q g out x →
      refFrom P q g out x (s1 - x) = out ++ movIn q g y s1 f x ∧ Fresh P q g (out ++ movIn q g y s1 f x) s1
  | 0, x, out, h0, h1, hf, hfr => by
    have e : x = s1 := by omega
    subst e
    rw [Nat.sub_self]
    exact ⟨by simp [refFrom, movIn], by simpa [movIn] using hfr⟩
  | f + 1, x, out, h0, h1, hf, hfr => by
    obtain ⟨g1, g2, p1, p2⟩ := id hp
    obtain ⟨-, -, q1, q2⟩ := id hq
    by_cases hx : x < s1
    · have hxi : (x : Int) < s1 := by omega
      obtain ⟨b, hb⟩ : ∃ b, owner q g x = b := ⟨_, rfl⟩
      obtain ⟨c, hc⟩ : ∃ c, cutAt q g s1 x = c := ⟨_, rfl⟩
      obtain ⟨r1, r2⟩ := owner_range (p := q) (g := g) (x := x) q1 g1
      rw [hb] at r1 r2
      have hc' := hc
      unfold cutAt at hc'
      rw [hb] at hc'
      have hcx : (x : Int) < c ∧ c ≤ s1 ∧ c ≤ (b + 1) * g / q ∧ (c = s1 ∨ c = (b + 1) * g / q) := by rw [← hc']; split <;> omega
      obtain ⟨C, rfl⟩ : ∃ C : Nat, c = C := ⟨c.toNat, by omega⟩
      have hseg : ∀ z : Nat, x ≤ z → z < x + (C - x) → owner P g z = y ∧ owner q g z = b := fun z z1 z2 =>
        ⟨owner_eq p1 g1 (by omega) (by omega), owner_eq q1 g1 (by omega) (by omega)⟩
      have h2 := refFrom_seg P q g y b out x (C - x) (by omega) hfr hseg
      have e1 : s1 - x = (C - x) + (s1 - C) := by omega
      have e2 : x + (C - x) = C := by omega
      rw [e2] at h2
      have hm : movIn q g y s1 (f + 1) x = (if (y : Int) = b then [] else [⟨x, C, y, b⟩]) ++ movIn q g y s1 f C := by
        rw [movIn, if_pos hxi, hb, hc]
      have hfr2 : Fresh P q g (out ++ (if (y : Int) = b then [] else [⟨x, C, y, b⟩])) C := by
        intro m hm
        by_cases hyb : (y : Int) = b
        · rw [if_pos hyb, List.append_nil] at hm
          have := hfr m hm
          exact ⟨by omega, fun h => by omega⟩
        · rw [if_neg hyb] at hm
          simp at hm
          subst hm
          refine ⟨Int.le_refl _, fun _ hh => ?_⟩
          rcases hcx.2.2.2 with h | h
          · exact owner_end (p := P) (g := g) (k := y) (z := C) p1 g1 (by omega) hh.1.symm
          · exact owner_end (p := q) (g := g) (k := b) (z := C) q1 g1 (by omega) hh.2.symm
      obtain ⟨i1, i2⟩ := movIn_ref P q g hp hq y s1 hs1 f C _ (by omega) (by omega) (by omega) hfr2
      rw [hm, ← List.append_assoc, e1, refFrom_add, h2, e2]
      exact ⟨i1, i2⟩
    · have e : x = s1 := by omega
      subst e
      rw [Nat.sub_self, movIn, if_neg (by omega)]
      exact ⟨by simp [refFrom], by simpa using hfr⟩

theorem movPre_ref (P : Nat) (q g : Int) (hp : mayB P g) (hq : mayB q g) : ∀ k : Nat, k ≤ P → ∃ s : Nat, (k : Int) * g / P = s ∧ refFrom P q g [] 0 s = movPre P q g (List.range k) ∧ Fresh P q g (movPre P q g (List.range k)) s
  | 0, _ => ⟨0, by simp, rfl, fun m hm => by simp [movPre] at hm⟩
  | k + 1, hk => by
    obtain ⟨g1, g2, p1, p2⟩ := id hp
    obtain ⟨s, hs, h1, h2⟩ := movPre_ref P q g hp hq k (by omega)
    have m1 := st_mono (k := (k : Int)) p1 g1
    have m2 := st_le (k := ((k : Int) + 1)) (p := P) p1 g1 (by omega)
    have m0 := st_nonneg (k := (k : Int)) p1 g1 (by omega)
    obtain ⟨s1, hs1⟩ : ∃ s1 : Nat, ((k : Int) + 1) * g / P = s1 := ⟨(((k : Int) + 1) * g / P).toNat, by omega⟩
    obtain ⟨i1, i2⟩ := movIn_ref P q g hp hq k s1 hs1 32769 s _ (by omega) (by omega) (by omega) h2
    have e : movPre P q g (List.range (k + 1)) = movPre P q g (List.range k) ++ movIn q g k s1 32769 s := by
      rw [List.range_succ]
      simp only [movPre, List.flatMap_append, List.flatMap_cons, List.flatMap_nil, List.append_nil, movOf]
      rw [Nat.mod_eq_of_lt (by omega), hs1, hs]
    refine ⟨s1, by rw [← hs1]; push_cast; rfl, ?_, by rw [e]; exact i2⟩
    rw [e, ← i1]
    have e3 : s1 = s + (s1 - s) := by omega
    rw [e3, refFrom_add, h1, Nat.zero_add]
    have e4 : s + (s1 - s) - s = s1 - s := by omega
    rw [e4]

theorem moves_eq (P : Nat) (q g : Int) (hp : mayB P g) (hq : mayB q g) : movPre P q g (List.range P) = refFold P q g g.toNat := by
  obtain ⟨g1, g2, p1, p2⟩ := id hp
  obtain ⟨s, hs, h1, -⟩ := movPre_ref P q g hp hq P (Nat.le_refl _)
  rw [st_all p1] at hs
  rw [← h1, hs, refFrom_fold, Int.toNat_natCast]

/-- The moves back are the moves, turned. -/
def Mv.turn (m : Mv) : Mv := ⟨m.first, m.behind, m.dst, m.src⟩
theorem refStep_turn (p q g : Int) (out : List Mv) (x : Nat) : refStep q p g (out.map Mv.turn) x = (refStep p q g out x).map Mv.turn := by
  unfold refStep
  by_cases h : owner p g x = owner q g x
  · rw [if_pos h, if_pos h.symm]
  · rw [if_neg h, if_neg (fun hh => h hh.symm), List.getLast?_map]
    cases hl : out.getLast? with
    | none => simp [Mv.turn]
    | some m =>
      simp only [Option.map_some]
      by_cases hm : m.behind = x ∧ m.src = owner p g x ∧ m.dst = owner q g x
      · rw [if_pos hm, if_pos (by exact ⟨hm.1, hm.2.2, hm.2.1⟩), ← List.map_dropLast, List.map_append]; rfl
      · rw [if_neg hm, if_neg (fun hh => hm ⟨hh.1, hh.2.2, hh.2.1⟩), List.map_append]; rfl
theorem refFold_turn (p q g : Int) : ∀ n, refFold q p g n = (refFold p q g n).map Mv.turn
  | 0 => rfl
  | n + 1 => by rw [refFold_succ, refFold_succ, refFold_turn p q g n, refStep_turn]
end Go.Proofs.Ytdbbipdkaahplaa
