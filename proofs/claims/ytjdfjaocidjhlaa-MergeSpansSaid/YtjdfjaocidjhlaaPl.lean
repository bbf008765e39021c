/- Plain: rows of windows. -/
import Derived.Test.YtjdfjaocidjhlaaBase
namespace Go.Proofs.Ytjdfjaocidjhlaa

structure Wn where
  s : Int
  e : Int
  h : Int
  c : Int
  u : Int
  lo : Int
  hi : Int
  si : Int
  pa : Int

def maxC : Int := 9007199254740992
def cnt (n : Int) : Bool := decide (0 ≤ n ∧ n ≤ maxC)
/-- A window that may be in a row. -/
structure Okw (x : Wn) : Prop where
  lt : x.s < x.e
  c : cnt x.c = true
  si : cnt x.si = true
  pa : cnt x.pa = true
/-- A row of sessions. -/
def Ap (l : List Wn) : Prop := (∀ x ∈ l, Okw x) ∧ l.Pairwise (fun a b => a.e ≤ b.s)

open Classical in
noncomputable def apB (l : List Wn) : Bool := decide (Ap l)
theorem apB_yes {l : List Wn} (h : Ap l) : apB l = true := by unfold apB; simp [h]
theorem apB_no {l : List Wn} (h : ¬ Ap l) : apB l = false := by unfold apB; simp [h]
theorem apB_iff {l : List Wn} : apB l = true ↔ Ap l := by unfold apB; simp

def overP (a b : Wn) : Prop := a.s < a.e ∧ b.s < b.e ∧ a.s < b.e ∧ b.s < a.e

theorem getElem?_take_of {l : List Wn} {k j : Nat} {x : Wn} (h : (l.take k)[j]? = some x) : j < k ∧ l[j]? = some x := by
  by_cases hj : j < k
  · rw [List.getElem?_take_of_lt hj] at h; exact ⟨hj, h⟩
  · rw [List.getElem?_take_eq_none (by omega)] at h; cases h

/-- A row, a window more. -/
theorem ap_nil : Ap [] := ⟨by simp, List.Pairwise.nil⟩
theorem ap_snoc {l : List Wn} {x : Wn} (h : Ap l) (hx : Okw x) (hl : ∀ y, l.getLast? = some y → y.e ≤ x.s) : Ap (l ++ [x]) := by
  refine ⟨fun y hy => ?_, ?_⟩
  · rcases List.mem_append.1 hy with hy | hy
    · exact h.1 y hy
    · simp at hy; subst hy; exact hx
  · rw [List.pairwise_append]
    refine ⟨h.2, List.pairwise_singleton _ _, fun a ha b hb => ?_⟩
    simp at hb
    subst hb
    cases hq : l.getLast? with
    | none => rw [List.getLast?_eq_none_iff] at hq; subst hq; cases ha
    | some y =>
      have hy := hl y hq
      obtain ⟨ys, rfl⟩ := List.getLast?_eq_some_iff.1 hq
      rcases List.mem_append.1 ha with ha | ha
      · have h2 := (List.pairwise_append.1 h.2).2.2 a ha y (by simp)
        have h3 := (h.1 y (by simp)).lt
        omega
      · simp at ha; subst ha; exact hy
theorem ap_take_succ {l : List Wn} {k : Nat} {x : Wn} (hk : l[k]? = some x) (h : Ap (l.take k)) (hx : Okw x) (hp : ∀ y, 0 < k → l[k - 1]? = some y → y.e ≤ x.s) : Ap (l.take (k + 1)) := by
  have hlt := (List.getElem?_eq_some_iff.1 hk).1
  rw [List.take_succ_eq_append_getElem hlt, (List.getElem?_eq_some_iff.1 hk).2]
  refine ap_snoc h hx fun y hy => ?_
  rw [List.getLast?_take] at hy
  split at hy
  · cases hy
  · rename_i h0
    refine hp y (by omega) ?_
    have hl : l[k - 1]? = some l[k - 1] := List.getElem?_eq_getElem (by omega)
    rw [hl] at hy ⊢
    simpa using hy
theorem ap_okw {l : List Wn} {k : Nat} {x : Wn} (h : Ap l) (hk : l[k]? = some x) : Okw x := h.1 x (List.mem_of_getElem? hk)
theorem ap_lt {l : List Wn} {j k : Nat} {x y : Wn} (h : Ap l) (hj : l[j]? = some y) (hk : l[k]? = some x) (hlt : j < k) : y.e ≤ x.s := by
  obtain ⟨h1, rfl⟩ := List.getElem?_eq_some_iff.1 hj
  obtain ⟨h2, rfl⟩ := List.getElem?_eq_some_iff.1 hk
  exact (List.pairwise_iff_getElem.1 h.2) j k h1 h2 hlt

/-- How many windows are over at S, how many begin ahead of E. -/
def frm (l : List Wn) (S : Int) : Nat := l.countP (fun x => decide (x.e ≤ S))
def too (l : List Wn) (E : Int) : Nat := l.countP (fun x => decide (x.s < E))

theorem countP_idx {p : Wn → Bool} : ∀ (l : List Wn), (∀ (i j : Nat) (x y : Wn), i < j → l[i]? = some x → l[j]? = some y → p y = true → p x = true) → ∀ (k : Nat) (x : Wn), l[k]? = some x → (k < l.countP p ↔ p x = true)
  | [], _, k, x, h => by simp at h
  | a :: l, hm, k, x, h => by
    have hm' : ∀ (i j : Nat) (x y : Wn), i < j → l[i]? = some x → l[j]? = some y → p y = true → p x = true := fun i j x y hij hi hj => hm (i + 1) (j + 1) x y (by omega) (by simpa using hi) (by simpa using hj)
    have ih := countP_idx l hm'
    cases ha : p a with
    | true =>
      rw [List.countP_cons_of_pos ha]
      cases k with
      | zero => simp only [List.getElem?_cons_zero, Option.some.injEq] at h; subst h; simp [ha]
      | succ k =>
        have h' : l[k]? = some x := by simpa using h
        rw [← ih k x h']
        omega
    | false =>
      have h0 : l.countP p = 0 := by
        rw [List.countP_eq_zero]
        intro y hy hpy
        obtain ⟨j, hj⟩ := List.getElem?_of_mem hy
        have := hm 0 (j + 1) a y (by omega) rfl (by simpa using hj) hpy
        rw [ha] at this; cases this
      rw [List.countP_cons_of_neg (by simp [ha]), h0]
      cases k with
      | zero => simp only [List.getElem?_cons_zero, Option.some.injEq] at h; subst h; simp [ha]
      | succ k =>
        have h' : l[k]? = some x := by simpa using h
        have hpx : p x ≠ true := fun hp => by
          have := hm 0 (k + 1) a x (by omega) rfl h hp
          rw [ha] at this; cases this
        simp [hpx]

theorem frm_idx {l : List Wn} (h : Ap l) (S : Int) {k : Nat} {x : Wn} (hk : l[k]? = some x) : k < frm l S ↔ x.e ≤ S := by
  have := countP_idx (p := fun x => decide (x.e ≤ S)) l (fun i j x y hij hi hj hp => by
    have h1 := ap_lt h hi hj hij
    have h2 := (ap_okw h hj).lt
    simp only [decide_eq_true_eq] at hp ⊢
    omega) k x hk
  unfold frm
  rw [this]; simp
theorem too_idx {l : List Wn} (h : Ap l) (E : Int) {k : Nat} {x : Wn} (hk : l[k]? = some x) : k < too l E ↔ x.s < E := by
  have := countP_idx (p := fun x => decide (x.s < E)) l (fun i j x y hij hi hj hp => by
    have h1 := ap_lt h hi hj hij
    have h2 := (ap_okw h hi).lt
    simp only [decide_eq_true_eq] at hp ⊢
    omega) k x hk
  unfold too
  rw [this]; simp
theorem frm_le (l : List Wn) (S : Int) : frm l S ≤ l.length := List.countP_le_length
theorem too_le (l : List Wn) (E : Int) : too l E ≤ l.length := List.countP_le_length
theorem frm_too {l : List Wn} (h : Ap l) {S E : Int} (hse : S < E) : frm l S ≤ too l E := by
  refine List.countP_mono_left fun x hx => ?_
  have := (h.1 x hx).lt
  simp only [decide_eq_true_eq]
  omega
end Go.Proofs.Ytjdfjaocidjhlaa
