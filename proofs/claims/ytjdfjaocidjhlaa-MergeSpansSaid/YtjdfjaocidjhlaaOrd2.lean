/- Joined by events, one behind the other: their sessions. -/
import Derived.Test.YtjdfjaocidjhlaaOrd
namespace Go.Proofs.Ytjdfjaocidjhlaa
open Go.RowKit

theorem tly_sum : ∀ (m : List Tl) (t0 : Tl), 0 ≤ t0.c → (t0.c = 0 → t0.u = 0) → -(2000 * t0.c) ≤ t0.u → t0.u ≤ 2000 * t0.c → (∀ x ∈ m, 1 ≤ x.c ∧ -(2000 * x.c) ≤ x.u ∧ x.u ≤ 2000 * x.c) → t0.c + (m.map Tl.c).sum ≤ 1000 →
    (m.foldl tstep t0).c = t0.c + (m.map Tl.c).sum ∧ (m.foldl tstep t0).u = t0.u + (m.map Tl.u).sum
  | [], t0, _, _, _, _, _, _ => by simp
  | x :: m, t0, h1, h2, h3, h4, h5, h6 => by
    have hx := h5 x (List.mem_cons_self ..)
    have hm : ∀ y ∈ m, 1 ≤ y.c ∧ -(2000 * y.c) ≤ y.u ∧ y.u ≤ 2000 * y.c := fun y hy => h5 y (List.mem_cons_of_mem _ hy)
    have hs0 : 0 ≤ (m.map Tl.c).sum := by
      clear h6 h5
      induction m with
      | nil => simp
      | cons y m ih =>
        have := hm y (List.mem_cons_self ..)
        have := ih fun z hz => hm z (List.mem_cons_of_mem _ hz)
        simp only [List.map_cons, List.sum_cons]; omega
    simp only [List.map_cons, List.sum_cons] at h6 ⊢
    have hst : (tstep t0 x).c = t0.c + x.c ∧ (tstep t0 x).u = t0.u + x.u := by
      unfold tstep
      rw [if_neg (by omega)]
      by_cases h0 : 0 < t0.c
      · rw [if_pos h0]
        refine ⟨by show min (t0.c + min x.c 9007199254740992) 9007199254740992 = _; omega, ?_⟩
        show wrap64 (t0.u + x.u) = _
        unfold wrap64; omega
      · rw [if_neg h0]
        have := h2 (by omega)
        refine ⟨by show min x.c 9007199254740992 = _; omega, by show x.u = _; omega⟩
    rw [List.foldl_cons]
    obtain ⟨g1, g2⟩ := tly_sum m (tstep t0 x) (by omega) (by omega) (by omega) (by omega) hm (by omega)
    constructor <;> omega
theorem wt_bd {g : Int} {p : List Int} (hp : ∀ t ∈ p, -2000 < t ∧ t < 2000) (s e : Int) : 0 ≤ wt g (fun _ => 1) p s e ∧ wt g (fun _ => 1) p s e ≤ (p.length : Int) ∧ -(2000 * wt g (fun _ => 1) p s e) ≤ wt g (fun t => t) p s e ∧ wt g (fun t => t) p s e ≤ 2000 * wt g (fun _ => 1) p s e := by
  induction p with
  | nil => simp [wt]
  | cons t p ih =>
    have ht := hp t (List.mem_cons_self ..)
    have ih := ih fun s hs => hp s (List.mem_cons_of_mem _ hs)
    rw [wt_cons, wt_cons, List.length_cons]
    by_cases h : ins g s e t = true
    · rw [if_pos h, if_pos h]; omega
    · rw [if_neg h, if_neg h]; omega
/-- The window that a time was joined to, counted. -/
def bump (t : Int) (x : Wn) : Wn := ⟨x.s, x.e, x.h, x.c + 1, x.u + t, x.lo, x.hi, x.si, x.pa⟩
def jnt (g : Int) (l : List Wn) (t : Int) : Wn := jn t (t + g) (-5000) t (midW l t (t + g))
def stp (g : Int) (l : List Wn) (t : Int) : List Wn := l.take (frm l t) ++ [bump t (jnt g l t)] ++ l.drop (too l (t + g))
structure Evs (g : Int) (p : List Int) (l : List Wn) : Prop where
  ap : Ap l
  ss : Sess g p (l.map Wn.sp)
  h : ∀ x ∈ l, x.h = x.s
  c : ∀ x ∈ l, x.c = wt g (fun _ => 1) p x.s x.e ∧ 1 ≤ x.c
  u : ∀ x ∈ l, x.u = wt g (fun t => t) p x.s x.e
theorem Evs.nil (g : Int) : Evs g [] [] := ⟨ap_nil, ⟨⟨by simp, List.Pairwise.nil⟩, by simp, by simp, by simp, by simp⟩, by simp, by simp, by simp⟩
theorem smin_att : ∀ (m : List Sn), smin m = 9223372036854775807 ∨ ∃ x ∈ m, x.s = smin m
  | [] => .inl rfl
  | x :: m => by
    rw [smin_cons]
    rcases smin_att m with h | ⟨y, hy, h⟩
    · by_cases hx : x.s ≤ 9223372036854775807
      · exact .inr ⟨x, List.mem_cons_self .., by omega⟩
      · exact .inl (by omega)
    · by_cases hx : x.s ≤ smin m
      · exact .inr ⟨x, List.mem_cons_self .., by omega⟩
      · exact .inr ⟨y, List.mem_cons_of_mem _ hy, by omega⟩
theorem smax_att : ∀ (m : List Sn), smax m = -9223372036854775808 ∨ ∃ x ∈ m, x.e = smax m
  | [] => .inl rfl
  | x :: m => by
    rw [smax_cons]
    rcases smax_att m with h | ⟨y, hy, h⟩
    · by_cases hx : -9223372036854775808 ≤ x.e
      · exact .inr ⟨x, List.mem_cons_self .., by omega⟩
      · exact .inl (by omega)
    · by_cases hx : smax m ≤ x.e
      · exact .inr ⟨x, List.mem_cons_self .., by omega⟩
      · exact .inr ⟨y, List.mem_cons_of_mem _ hy, by omega⟩
theorem hld_min {W t : Int} : ∀ (m : List Wn) (a : Int), (∀ x ∈ m, ¬ x.e ≤ W ∧ x.h = x.s) → m.foldl (fun m y => if y.e ≤ W then m else min m y.h) (min t a) = min t ((m.map Wn.sp).foldl (fun m x => min m x.s) a)
  | [], _, _ => rfl
  | x :: m, a, h => by
    have hx := h x (List.mem_cons_self ..)
    rw [List.foldl_cons, List.map_cons, List.foldl_cons, if_neg hx.1, hx.2]
    have := hld_min (W := W) (t := t) m (min a x.s) fun y hy => h y (List.mem_cons_of_mem _ hy)
    rw [show min (min t a) x.s = min t (min a x.s) by omega, this]
    rfl
theorem midW_sl (l : List Wn) (S E : Int) : midW l S E = sl l (frm l S) (too l E) := rfl
theorem parts (l : List Wn) (hap : Ap l) {S E : Int} (hse : S < E) : l = l.take (frm l S) ++ midW l S E ++ l.drop (too l E) := by
  rw [midW_sl, sl_take, sl_drop, sl_append l (Nat.zero_le _) (frm_too hap hse), sl_append l (Nat.zero_le _) (too_le l E)]
  simp [sl]
theorem apn_sp {l : List Wn} (h : Ap l) : Apn (l.map Wn.sp) := by
  refine ⟨fun x hx => ?_, ?_⟩
  · obtain ⟨y, hy, rfl⟩ := List.mem_map.1 hx
    exact (h.1 y hy).lt
  · rw [List.pairwise_map]; exact h.2
theorem ap_of_sp {l : List Wn} (ho : ∀ x ∈ l, Okw x) (h : Apn (l.map Wn.sp)) : Ap l := ⟨ho, by have := h.2; rwa [List.pairwise_map] at this⟩
theorem Evs.step {g : Int} (hg : 1 ≤ g) (hg2 : g ≤ 50) {p : List Int} {l : List Wn} (h : Evs g p l) {t : Int} (ht : -2000 < t ∧ t < 2000) (hp : ∀ s ∈ p, -2000 < s ∧ s < 2000) (hn : p.length ≤ 100) :
    Evs g (p ++ [t]) (stp g l t) ∧ (jnt g l t).s ≤ t ∧ t + g ≤ (jnt g l t).e ∧ 0 ≤ (jnt g l t).c ∧ (jnt g l t).c ≤ 100 ∧ -200000 ≤ (jnt g l t).u ∧ (jnt g l t).u ≤ 200000 ∧ Ap (joinW l t (t + g) (-5000) t) := by
  have hse : t < t + g := by omega
  have hj := ap_join h.ap (S := t) (E := t + g) (W := -5000) (H := t) hse (by unfold B64; omega) (by unfold B64; omega)
  obtain ⟨A, hA⟩ : ∃ A, l.take (frm l t) = A := ⟨_, rfl⟩
  obtain ⟨M, hM⟩ : ∃ M, midW l t (t + g) = M := ⟨_, rfl⟩
  obtain ⟨C, hC⟩ : ∃ C, l.drop (too l (t + g)) = C := ⟨_, rfl⟩
  have hl : l = A ++ M ++ C := by rw [← hA, ← hM, ← hC]; exact parts l h.ap hse
  have hjl : joinW l t (t + g) (-5000) t = A ++ [jnt g l t] ++ C := by unfold joinW jnt; rw [hA, hC]
  have mA : ∀ x ∈ A, x ∈ l := fun x hx => by rw [hl]; exact List.mem_append_left _ (List.mem_append_left _ hx)
  have mM : ∀ x ∈ M, x ∈ l := fun x hx => by rw [hl]; exact List.mem_append_left _ (List.mem_append_right _ hx)
  have mC : ∀ x ∈ C, x ∈ l := fun x hx => by rw [hl]; exact List.mem_append_right _ hx
  have qA : ∀ x ∈ A, x.e ≤ t := fun x hx => by
    rw [← hA, sl_take] at hx
    obtain ⟨k, -, h2, h3⟩ := sl_mem hx
    exact (frm_idx h.ap t h3).1 h2
  have qM : ∀ x ∈ M, t < x.e ∧ x.s < t + g := fun x hx => by
    rw [← hM, midW_sl] at hx
    obtain ⟨k, h1, h2, h3⟩ := sl_mem hx
    refine ⟨?_, (too_idx h.ap _ h3).1 h2⟩
    have : ¬ x.e ≤ t := fun hc => by have := (frm_idx h.ap t h3).2 hc; omega
    omega
  have qC : ∀ x ∈ C, t + g ≤ x.s := fun x hx => by
    rw [← hC, sl_drop] at hx
    obtain ⟨k, h1, -, h3⟩ := sl_mem hx
    have : ¬ x.s < t + g := fun hc => by have := (too_idx h.ap _ h3).2 hc; omega
    omega
  have hMs : Apn (M.map Wn.sp) := by
    have := apn_sp h.ap
    rw [hl, List.map_append, List.map_append] at this
    exact (apn_append.1 (apn_append.1 this).1).2.1
  obtain ⟨J, hJ⟩ : ∃ J, jnt g l t = J := ⟨_, rfl⟩
  have Js : J.s = min t (smin (M.map Wn.sp)) := by rw [← hJ]; unfold jnt; rw [hM]; exact jn_s
  have Je : J.e = max (t + g) (smax (M.map Wn.sp)) := by rw [← hJ]; unfold jnt; rw [hM]; exact jn_e
  have Jt : (⟨J.c, J.u, J.lo, J.hi⟩ : Tl) = tly (M.map Wn.tl) := by rw [← hJ]; unfold jnt; rw [hM]; exact jn_tl
  have Jh : J.h = J.s := by
    have e1 : J.h = hld (-5000) t M := by rw [← hJ]; unfold jnt; rw [hM]; rfl
    rw [e1, Js]
    have := hld_min (W := -5000) (t := t) M 9223372036854775807 fun x hx => ⟨by have := (qM x hx).1; omega, h.h x (mM x hx)⟩
    rw [show min t 9223372036854775807 = t by omega] at this
    exact this
  rw [hjl, hJ] at hj
  -- what lies in J
  have inJ : ∀ x ∈ M, J.s ≤ x.s ∧ x.e ≤ J.e := fun x hx => by
    have := smin_sp_le hx; have := smax_sp_ge hx; omega
  have hApJ := apn_sp hj
  rw [List.map_append, List.map_append] at hApJ
  obtain ⟨hAJ, hCs, hAC⟩ := apn_append.1 hApJ
  obtain ⟨hAs, hJ1, hAJ2⟩ := apn_append.1 hAJ
  have aJ : ∀ x ∈ A, x.e ≤ J.s := fun x hx => hAJ2 x.sp (List.mem_map_of_mem hx) J.sp (by simp)
  have cJ : ∀ x ∈ C, J.e ≤ x.s := fun x hx => hAC J.sp (by simp) x.sp (List.mem_map_of_mem hx)
  have uni : ∀ s ∈ p, (ins g J.s J.e s = true ↔ ∃ x ∈ M.map Wn.sp, ins g x.s x.e s = true) := fun s hs => by
    constructor
    · intro hi
      obtain ⟨i1, i2⟩ := ins_iff.1 hi
      obtain ⟨y, hy, y1, y2⟩ := h.ss.inn s hs
      obtain ⟨x, hx, rfl⟩ := List.mem_map.1 hy
      have hx' := hx
      rw [hl] at hx'
      rcases List.mem_append.1 hx' with hx1 | hx1
      · rcases List.mem_append.1 hx1 with hx2 | hx2
        · exfalso
          have := aJ x hx2
          have : x.sp.e = x.e := rfl
          omega
        · exact ⟨x.sp, List.mem_map_of_mem hx2, ins_iff.2 ⟨y1, y2⟩⟩
      · exfalso
        have := cJ x hx1
        have : x.sp.s = x.s := rfl
        omega
    · rintro ⟨y, hy, hi⟩
      obtain ⟨x, hx, rfl⟩ := List.mem_map.1 hy
      obtain ⟨i1, i2⟩ := ins_iff.1 hi
      have := inJ x hx
      have e1 : x.sp.s = x.s := rfl
      have e2 : x.sp.e = x.e := rfl
      exact ins_iff.2 ⟨by omega, by omega⟩
  have w1 := wt_union hg (fun _ => 1) hMs p uni
  have w2 := wt_union hg (fun t => t) hMs p uni
  rw [List.map_map] at w1 w2
  have c1 : (M.map Wn.tl).map Tl.c = M.map ((fun x : Sn => wt g (fun _ => 1) p x.s x.e) ∘ Wn.sp) := by
    rw [List.map_map]; exact List.map_congr_left fun x hx => (h.c x (mM x hx)).1
  have u1 : (M.map Wn.tl).map Tl.u = M.map ((fun x : Sn => wt g (fun t => t) p x.s x.e) ∘ Wn.sp) := by
    rw [List.map_map]; exact List.map_congr_left fun x hx => h.u x (mM x hx)
  have bd := wt_bd (g := g) hp J.s J.e
  have sums := tly_sum (M.map Wn.tl) ⟨0, 0, 0, 0⟩ (by decide) (fun _ => rfl) (by decide) (by decide) (fun y hy => by
    obtain ⟨x, hx, rfl⟩ := List.mem_map.1 hy
    have b := wt_bd (g := g) hp x.s x.e
    have d1 := h.c x (mM x hx)
    have d2 := h.u x (mM x hx)
    show 1 ≤ x.c ∧ -(2000 * x.c) ≤ x.u ∧ x.u ≤ 2000 * x.c
    rw [d2, d1.1]
    rw [d1.1] at d1
    omega) (by rw [c1, ← w1]; show 0 + _ ≤ _; omega)
  rw [c1, u1, ← w1, ← w2] at sums
  have jc : J.c = wt g (fun _ => 1) p J.s J.e := by
    have := congrArg Tl.c Jt
    have h2 := sums.1
    simp only at this h2
    rw [this]; show (List.foldl tstep _ _).c = _; rw [h2]; omega
  have ju : J.u = wt g (fun t => t) p J.s J.e := by
    have := congrArg Tl.u Jt
    have h2 := sums.2
    simp only at this h2
    rw [this]; show (List.foldl tstep _ _).u = _; rw [h2]; omega
  have jins : ins g J.s J.e t = true := ins_iff.2 ⟨by omega, by omega⟩
  have hstp : stp g l t = A ++ [bump t J] ++ C := by unfold stp; rw [hA, hC, hJ]
  have hsps : (stp g l t).map Wn.sp = A.map Wn.sp ++ [J.sp] ++ C.map Wn.sp := by rw [hstp]; simp [bump, Wn.sp]
  refine ⟨?_, by rw [hJ]; omega, by rw [hJ]; omega, by rw [hJ]; omega, by rw [hJ]; omega, by rw [hJ]; omega, by rw [hJ]; omega, by rw [hjl, hJ]; exact hj⟩
  have okJ : Okw J := hj.1 J (by simp)
  have memJ : ∀ {x : Wn}, x ∈ stp g l t → x ∈ A ∨ x = bump t J ∨ x ∈ C := fun {x} hx => by
    rw [hstp] at hx
    rcases List.mem_append.1 hx with h1 | h1
    · rcases List.mem_append.1 h1 with h2 | h2
      · exact .inl h2
      · exact .inr (.inl (by simpa using h2))
    · exact .inr (.inr h1)
  have outA : ∀ x ∈ A, ins g x.s x.e t = false := fun x hx => by
    have := qA x hx
    rw [Bool.eq_false_iff]; intro hc; have := ins_iff.1 hc; omega
  have outC : ∀ x ∈ C, ins g x.s x.e t = false := fun x hx => by
    have := qC x hx
    rw [Bool.eq_false_iff]; intro hc; have := ins_iff.1 hc; omega
  refine ⟨ap_of_sp ?_ ?_, ?_, ?_, ?_, ?_⟩
  · intro x hx
    rcases memJ hx with h1 | rfl | h1
    · exact h.ap.1 x (mA x h1)
    · exact ⟨okJ.lt, by show cnt (J.c + 1) = true; unfold cnt maxC; simp only [decide_eq_true_eq]; omega, okJ.si, okJ.pa⟩
    · exact h.ap.1 x (mC x h1)
  · rw [hsps]; simpa using hApJ
  · rw [hsps]
    have hApJ' : Apn (A.map Wn.sp ++ [J.sp] ++ C.map Wn.sp) := by simpa using hApJ
    have mem : ∀ {z : Sn}, z ∈ A.map Wn.sp ++ [J.sp] ++ C.map Wn.sp → (∃ x ∈ l, x.sp = z ∧ z ∈ l.map Wn.sp) ∨ z = J.sp := fun {z} hz => by
      rcases List.mem_append.1 hz with h1 | h1
      · rcases List.mem_append.1 h1 with h2 | h2
        · obtain ⟨x, hx, rfl⟩ := List.mem_map.1 h2; exact .inl ⟨x, mA x hx, rfl, List.mem_map_of_mem (mA x hx)⟩
        · exact .inr (by simpa using h2)
      · obtain ⟨x, hx, rfl⟩ := List.mem_map.1 h1; exact .inl ⟨x, mC x hx, rfl, List.mem_map_of_mem (mC x hx)⟩
    refine ⟨hApJ', ?_, ?_, ?_, ?_⟩
    · intro s hs
      rcases List.mem_append.1 hs with h1 | h1
      · obtain ⟨y, hy, y1, y2⟩ := h.ss.inn s h1
        obtain ⟨x, hx, rfl⟩ := List.mem_map.1 hy
        have hx' := hx
        rw [hl] at hx'
        rcases List.mem_append.1 hx' with hx1 | hx1
        · rcases List.mem_append.1 hx1 with hx2 | hx2
          · exact ⟨x.sp, by simp only [List.mem_append]; exact .inl (.inl (List.mem_map_of_mem hx2)), y1, y2⟩
          · refine ⟨J.sp, by simp, ?_, ?_⟩
            · have := (inJ x hx2).1; show J.s ≤ s; have : x.sp.s = x.s := rfl; omega
            · have := (inJ x hx2).2; show s + g ≤ J.e; have : x.sp.e = x.e := rfl; omega
        · exact ⟨x.sp, by simp only [List.mem_append]; exact .inr (List.mem_map_of_mem hx1), y1, y2⟩
      · simp only [List.mem_singleton] at h1; subst h1
        exact ⟨J.sp, by simp, by show J.s ≤ s; omega, by show s + g ≤ J.e; omega⟩
    · intro z hz
      rcases mem hz with ⟨x, hx, rfl, hz'⟩ | rfl
      · exact List.mem_append_left _ (h.ss.st _ hz')
      · show J.s ∈ p ++ [t]
        rcases int_lt_or_ge (smin (M.map Wn.sp)) t with h1 | h1
        · rcases smin_att (M.map Wn.sp) with h2 | ⟨y, hy, h2⟩
          · omega
          · obtain ⟨x, hx, rfl⟩ := List.mem_map.1 hy
            have := h.ss.st x.sp (List.mem_map_of_mem (mM x hx))
            rw [h2] at this
            rw [show J.s = smin (M.map Wn.sp) by omega]
            exact List.mem_append_left _ this
        · rw [show J.s = t by omega]; simp
    · intro z hz
      rcases mem hz with ⟨x, hx, rfl, hz'⟩ | rfl
      · obtain ⟨s, hs, he⟩ := h.ss.en _ hz'
        exact ⟨s, List.mem_append_left _ hs, he⟩
      · show ∃ s ∈ p ++ [t], s + g = J.e
        rcases int_lt_or_ge (t + g) (smax (M.map Wn.sp)) with h1 | h1
        · rcases smax_att (M.map Wn.sp) with h2 | ⟨y, hy, h2⟩
          · omega
          · obtain ⟨x, hx, rfl⟩ := List.mem_map.1 hy
            obtain ⟨s, hs, he⟩ := h.ss.en x.sp (List.mem_map_of_mem (mM x hx))
            exact ⟨s, List.mem_append_left _ hs, by omega⟩
        · exact ⟨t, by simp, by omega⟩
    · intro z hz y z1 z2
      rcases mem hz with ⟨x, hx, rfl, hz'⟩ | rfl
      · obtain ⟨s, hs, he⟩ := h.ss.mid _ hz' y z1 z2
        exact ⟨s, List.mem_append_left _ hs, he⟩
      · have y1 : J.s < y := z1
        have y2 : y < J.e := z2
        have fromM : ∀ x ∈ M, x.s < y → y < x.e → ∃ s ∈ p ++ [t], s < y ∧ y < s + g := fun x hx h1 h2 => by
          obtain ⟨s, hs, he⟩ := h.ss.mid x.sp (List.mem_map_of_mem (mM x hx)) y h1 h2
          exact ⟨s, List.mem_append_left _ hs, he⟩
        rcases int_lt_or_ge t y with h1 | h1
        · rcases int_lt_or_ge y (t + g) with h2 | h2
          · exact ⟨t, by simp, h1, h2⟩
          · rcases smax_att (M.map Wn.sp) with h3 | ⟨z, hz, h3⟩
            · omega
            · obtain ⟨x, hx, rfl⟩ := List.mem_map.1 hz
              have := qM x hx
              have e1 : x.sp.e = x.e := rfl
              exact fromM x hx (by omega) (by omega)
        · rcases smin_att (M.map Wn.sp) with h3 | ⟨z, hz, h3⟩
          · omega
          · obtain ⟨x, hx, rfl⟩ := List.mem_map.1 hz
            have := qM x hx
            have e1 : x.sp.s = x.s := rfl
            exact fromM x hx (by omega) (by omega)
  · intro x hx
    rcases memJ hx with h1 | rfl | h1
    · exact h.h x (mA x h1)
    · exact Jh
    · exact h.h x (mC x h1)
  · intro x hx
    rcases memJ hx with h1 | rfl | h1
    · rw [wt_snoc, outA x h1]; have := h.c x (mA x h1); simpa using this
    · show J.c + 1 = wt g (fun _ => 1) (p ++ [t]) J.s J.e ∧ 1 ≤ J.c + 1
      rw [wt_snoc, jins]; simp only [if_true]; omega
    · rw [wt_snoc, outC x h1]; have := h.c x (mC x h1); simpa using this
  · intro x hx
    rcases memJ hx with h1 | rfl | h1
    · rw [wt_snoc, outA x h1]; have := h.u x (mA x h1); simpa using this
    · show J.u + t = wt g (fun t => t) (p ++ [t]) J.s J.e
      rw [wt_snoc, jins]; simp only [if_true]; omega
    · rw [wt_snoc, outC x h1]; have := h.u x (mC x h1); simpa using this
end Go.Proofs.Ytjdfjaocidjhlaa
