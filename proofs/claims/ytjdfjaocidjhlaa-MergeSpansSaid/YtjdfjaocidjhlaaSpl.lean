/- Plain: windows joined by two spans, one behind the other, in either order. -/
import Derived.Test.YtjdfjaocidjhlaaJdef
namespace Go.Proofs.Ytjdfjaocidjhlaa
open Go.RowKit

/-! Tallies. -/
structure Tv (t : Tl) : Prop where
  lo : 0 ≤ t.c
  hi : t.c ≤ 9007199254740992
theorem tly_v (l : List Tl) : Tv (tly l) := ⟨(tly_bd l).1, (tly_bd l).2⟩
theorem tstep_v {t x : Tl} (h : Tv t) : Tv (tstep t x) := ⟨(tstep_bd h.lo h.hi).1, (tstep_bd h.lo h.hi).2⟩
theorem wrap64_add (a b c : Int) : wrap64 (wrap64 (a + b) + c) = wrap64 (a + wrap64 (b + c)) := by
  unfold wrap64
  omega
theorem tl_ext {a b : Tl} (h1 : a.c = b.c) (h2 : a.u = b.u) (h3 : a.lo = b.lo) (h4 : a.hi = b.hi) : a = b := by
  cases a; cases b; simp_all
theorem tstep_skip {t x : Tl} (h : x.c < 1) : tstep t x = t := by unfold tstep; rw [if_pos h]
theorem tstep_add {t x : Tl} (h : ¬ x.c < 1) (h2 : 0 < t.c) : tstep t x = ⟨min (t.c + min x.c 9007199254740992) 9007199254740992, wrap64 (t.u + x.u), min t.lo x.lo, max t.hi x.hi⟩ := by unfold tstep; rw [if_neg h, if_pos h2]
theorem tstep_new {t x : Tl} (h : ¬ x.c < 1) (h2 : ¬ 0 < t.c) : tstep t x = ⟨min x.c 9007199254740992, x.u, x.lo, x.hi⟩ := by unfold tstep; rw [if_neg h, if_neg h2]
theorem tstep_assoc {t p x : Tl} (ht : Tv t) (hp : Tv p) : tstep (tstep t p) x = tstep t (tstep p x) := by
  have h1 := ht.lo
  have h2 := ht.hi
  have h3 := hp.lo
  have h4 := hp.hi
  by_cases hx : x.c < 1
  · rw [tstep_skip hx, tstep_skip hx]
  · by_cases hpc : p.c < 1
    · rw [tstep_skip (t := t) hpc, tstep_new (t := p) hx (by omega)]
      have hx' : ¬ (⟨min x.c 9007199254740992, x.u, x.lo, x.hi⟩ : Tl).c < 1 := by simp only; omega
      by_cases htc : 0 < t.c
      · rw [tstep_add hx htc, tstep_add hx' htc]
        apply tl_ext <;> simp only <;> omega
      · rw [tstep_new hx htc, tstep_new hx' htc]
        apply tl_ext <;> simp only
        omega
    · rw [tstep_add (t := p) hx (by omega)]
      have hx' : ¬ (⟨min (p.c + min x.c 9007199254740992) 9007199254740992, wrap64 (p.u + x.u), min p.lo x.lo, max p.hi x.hi⟩ : Tl).c < 1 := by simp only; omega
      by_cases htc : 0 < t.c
      · rw [tstep_add (t := t) hpc htc, tstep_add hx (by simp only; omega), tstep_add hx' htc]
        apply tl_ext <;> simp only
        · omega
        · exact wrap64_add _ _ _
        · omega
        · omega
      · rw [tstep_new (t := t) hpc htc, tstep_add hx (by simp only; omega), tstep_new hx' htc]
        apply tl_ext <;> simp only <;> omega
theorem tstep_zero {p : Tl} (hp : Tv p) (t0 : Tl) (h0 : t0.c = 0) (hz : p.c = 0 → p = t0) : tstep t0 p = p := by
  have h3 := hp.lo
  have h4 := hp.hi
  by_cases h : p.c < 1
  · rw [tstep_skip h]; exact (hz (by omega)).symm
  · rw [tstep_new h (by omega)]
    apply tl_ext <;> simp only
    omega
theorem foldl_tly : ∀ (m : List Tl) (t : Tl), Tv t → m.foldl tstep t = tstep t (tly m) := by
  intro m
  have key : ∀ (n : Nat) (m : List Tl), m.length = n → ∀ t, Tv t → m.foldl tstep t = tstep t (tly m) := by
    intro n
    induction n with
    | zero =>
      intro m hm t ht
      have : m = [] := List.eq_nil_of_length_eq_zero hm
      subst this
      show t = tstep t ⟨0, 0, 0, 0⟩
      rw [tstep_skip (by decide)]
    | succ n ih =>
      intro m hm t ht
      obtain ⟨r, x, rfl⟩ : ∃ r x, m = r ++ [x] := by
        have hne : m ≠ [] := by intro h; rw [h] at hm; simp at hm
        exact ⟨m.dropLast, m.getLast hne, (List.dropLast_concat_getLast hne).symm⟩
      have hr : r.length = n := by simpa using hm
      rw [List.foldl_append, List.foldl_cons, List.foldl_nil, ih r hr t ht, tly_snoc, tstep_assoc ht (tly_v r)]
  exact key _ m rfl
theorem tly_append (a b : List Tl) : tly (a ++ b) = tstep (tly a) (tly b) := by
  unfold tly
  rw [List.foldl_append]
  exact foldl_tly b _ (tly_v a)
theorem tly_cons (x : Tl) (b : List Tl) : tly (x :: b) = tstep (tly [x]) (tly b) := tly_append [x] b
theorem tly_one_tly (m : List Tl) : tly [tly m] = tly m := by
  show tstep ⟨0, 0, 0, 0⟩ (tly m) = tly m
  refine tstep_zero (tly_v m) _ rfl fun h0 => ?_
  have : ∀ (l : List Tl), (tly l).c = 0 → tly l = ⟨0, 0, 0, 0⟩ := by
    intro l
    have key : ∀ (n : Nat) (l : List Tl), l.length = n → (tly l).c = 0 → tly l = ⟨0, 0, 0, 0⟩ := by
      intro n
      induction n with
      | zero => intro l hl _; rw [List.eq_nil_of_length_eq_zero hl]; rfl
      | succ n ih =>
        intro l hl h
        obtain ⟨r, x, rfl⟩ : ∃ r x, l = r ++ [x] := by
          have hne : l ≠ [] := by intro h; rw [h] at hl; simp at hl
          exact ⟨l.dropLast, l.getLast hne, (List.dropLast_concat_getLast hne).symm⟩
        have hr : r.length = n := by simpa using hl
        rw [tly_snoc] at h ⊢
        by_cases hx : x.c < 1
        · rw [tstep_skip hx] at h ⊢; exact ih r hr h
        · have := (tly_v r).lo
          by_cases htc : 0 < (tly r).c
          · rw [tstep_add hx htc] at h; simp only at h; omega
          · rw [tstep_new hx htc] at h; simp only at h; omega
    exact key _ l rfl
  exact this m h0

/-! Counts. -/
theorem sat_fold (g : Wn → Int) : ∀ (l : List Wn) (a : Int), 0 ≤ a → a ≤ 9007199254740992 → (∀ x ∈ l, 0 ≤ g x) →
    l.foldl (fun a y => min (a + g y) 9007199254740992) a = min (a + l.foldl (fun a y => min (a + g y) 9007199254740992) 0) 9007199254740992
  | [], a, h0, h1, _ => by show a = min (a + 0) 9007199254740992; omega
  | x :: l, a, h0, h1, h => by
    have hx := h x (by simp)
    have hl : ∀ y ∈ l, 0 ≤ g y := fun y hy => h y (by simp [hy])
    have e1 := sat_fold g l (min (a + g x) 9007199254740992) (by omega) (by omega) hl
    have e2 := sat_fold g l (min (0 + g x) 9007199254740992) (by omega) (by omega) hl
    have hb := fold_bd g l 0 (by decide) (by decide) hl
    rw [List.foldl_cons, List.foldl_cons, e1, e2]
    omega
theorem sinc_append {a b : List Wn} (ha : ∀ x ∈ a, 0 ≤ x.si) (hb : ∀ x ∈ b, 0 ≤ x.si) : sinc (a ++ b) = min (sinc a + sinc b) 9007199254740992 := by
  unfold sinc
  have := fold_bd Wn.si a 0 (by decide) (by decide) ha
  rw [List.foldl_append, sat_fold Wn.si b _ this.1 this.2 hb]
theorem pans_append {a b : List Wn} (ha : ∀ x ∈ a, 0 ≤ x.pa) (hb : ∀ x ∈ b, 0 ≤ x.pa) : pans (a ++ b) = min (pans a + pans b) 9007199254740992 := by
  unfold pans
  have := fold_bd Wn.pa a 0 (by decide) (by decide) ha
  rw [List.foldl_append, sat_fold Wn.pa b _ this.1 this.2 hb]

/-! Spans. -/
theorem smin_fold : ∀ (l : List Sn) (m : Int), l.foldl (fun m x => min m x.s) (min m 9223372036854775807) = min m (l.foldl (fun m x => min m x.s) 9223372036854775807)
  | [], m => rfl
  | x :: l, m => by
    rw [List.foldl_cons, List.foldl_cons]
    have e1 := smin_fold l (min m x.s)
    have e2 := smin_fold l x.s
    rw [show min (min m 9223372036854775807) x.s = min (min m x.s) 9223372036854775807 by omega, e1, show min 9223372036854775807 x.s = min x.s 9223372036854775807 by omega, e2]
    omega
theorem smax_fold : ∀ (l : List Sn) (m : Int), l.foldl (fun m x => max m x.e) (max m (-9223372036854775808)) = max m (l.foldl (fun m x => max m x.e) (-9223372036854775808))
  | [], m => rfl
  | x :: l, m => by
    rw [List.foldl_cons, List.foldl_cons]
    have e1 := smax_fold l (max m x.e)
    have e2 := smax_fold l x.e
    rw [show max (max m (-9223372036854775808)) x.e = max (max m x.e) (-9223372036854775808) by omega, e1, show max (-9223372036854775808) x.e = max x.e (-9223372036854775808) by omega, e2]
    omega
theorem smin_cons (x : Sn) (l : List Sn) : smin (x :: l) = min x.s (smin l) := by
  unfold smin
  rw [List.foldl_cons, show min 9223372036854775807 x.s = min x.s 9223372036854775807 by omega, smin_fold]
theorem smax_cons (x : Sn) (l : List Sn) : smax (x :: l) = max x.e (smax l) := by
  unfold smax
  rw [List.foldl_cons, show max (-9223372036854775808) x.e = max x.e (-9223372036854775808) by omega, smax_fold]
theorem smin_append : ∀ (a b : List Sn), smin (a ++ b) = min (smin a) (smin b)
  | [], b => by
    have : smin b ≤ 9223372036854775807 := by
      cases b with
      | nil => exact Int.le_refl _
      | cons x l =>
        have : ∀ (l : List Sn) (m : Int), l.foldl (fun m x => min m x.s) m ≤ m := by
          intro l
          induction l with
          | nil => exact fun m => Int.le_refl _
          | cons y l ih => intro m; have := ih (min m y.s); rw [List.foldl_cons]; omega
        exact this (x :: l) _
    show smin b = min 9223372036854775807 (smin b)
    omega
  | x :: a, b => by rw [List.cons_append, smin_cons, smin_cons, smin_append a b]; omega
theorem smax_append : ∀ (a b : List Sn), smax (a ++ b) = max (smax a) (smax b)
  | [], b => by
    have : -9223372036854775808 ≤ smax b := by
      have : ∀ (l : List Sn) (m : Int), m ≤ l.foldl (fun m x => max m x.e) m := by
        intro l
        induction l with
        | nil => exact fun m => Int.le_refl _
        | cons y l ih => intro m; have := ih (max m y.e); rw [List.foldl_cons]; omega
      exact this b _
    show smax b = max (-9223372036854775808) (smax b)
    omega
  | x :: a, b => by rw [List.cons_append, smax_cons, smax_cons, smax_append a b]; omega
end Go.Proofs.Ytjdfjaocidjhlaa
