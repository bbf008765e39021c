/- Events in any order make the same sessions: plainly. -/
import Derived.Test.YtjdfjaocidjhlaaSpl2
namespace Go.Proofs.Ytjdfjaocidjhlaa
open Go.RowKit

theorem int_lt_or_ge (a b : Int) : a < b ∨ b ≤ a := by omega
/-- Lies [t, t + g) in [s, e)? -/
def ins (g s e t : Int) : Bool := decide (s ≤ t) && decide (t + g ≤ e)
theorem ins_iff {g s e t : Int} : ins g s e t = true ↔ s ≤ t ∧ t + g ≤ e := by simp [ins]
/-- The sum of f over the times that lie in it. -/
def wt (g : Int) (f : Int → Int) (p : List Int) (s e : Int) : Int := (p.map fun t => if ins g s e t then f t else 0).sum
theorem wt_cons (g : Int) (f : Int → Int) (t : Int) (p : List Int) (s e : Int) : wt g f (t :: p) s e = (if ins g s e t then f t else 0) + wt g f p s e := by simp [wt]
theorem wt_snoc (g : Int) (f : Int → Int) (t : Int) (p : List Int) (s e : Int) : wt g f (p ++ [t]) s e = wt g f p s e + (if ins g s e t then f t else 0) := by simp [wt]
theorem wt_reverse (g : Int) (f : Int → Int) (p : List Int) (s e : Int) : wt g f p.reverse s e = wt g f p s e := by simp [wt, List.sum_reverse]
/-- Spans apart. -/
def Apn (l : List Sn) : Prop := (∀ x ∈ l, x.s < x.e) ∧ l.Pairwise (fun a b => a.e ≤ b.s)
theorem ind_sum {g : Int} (hg : 1 ≤ g) (v t : Int) : ∀ (m : List Sn), Apn m → (m.map fun x => if ins g x.s x.e t then v else 0).sum = if (∃ x ∈ m, ins g x.s x.e t = true) then v else 0
  | [], _ => by simp
  | x :: m, h => by
    have ih := ind_sum hg v t m ⟨fun y hy => h.1 y (List.mem_cons_of_mem _ hy), (List.pairwise_cons.1 h.2).2⟩
    rw [List.map_cons, List.sum_cons, ih]
    by_cases hx : ins g x.s x.e t = true
    · have hno : ¬ ∃ y ∈ m, ins g y.s y.e t = true := by
        rintro ⟨y, hy, hyt⟩
        have h1 := (List.pairwise_cons.1 h.2).1 y hy
        have h2 := ins_iff.1 hx
        have h3 := ins_iff.1 hyt
        omega
      rw [if_pos hx, if_neg hno, if_pos ⟨x, List.mem_cons_self .., hx⟩]; omega
    · by_cases hm : ∃ y ∈ m, ins g y.s y.e t = true
      · obtain ⟨y, hy, hyt⟩ := hm
        rw [if_neg hx, if_pos ⟨y, hy, hyt⟩, if_pos ⟨y, List.mem_cons_of_mem _ hy, hyt⟩]; omega
      · have hn2 : ¬ ∃ y ∈ x :: m, ins g y.s y.e t = true := by
          rintro ⟨y, hy, hyt⟩
          rcases List.mem_cons.1 hy with rfl | hy
          · exact hx hyt
          · exact hm ⟨y, hy, hyt⟩
        rw [if_neg hx, if_neg hm, if_neg hn2]; omega
theorem sum_zero {α : Type} : ∀ (l : List α), (l.map fun _ => (0 : Int)).sum = 0
  | [] => rfl
  | _ :: l => by rw [List.map_cons, List.sum_cons, sum_zero l]; omega
theorem sum_add {α : Type} (f h : α → Int) : ∀ (l : List α), (l.map fun x => f x + h x).sum = (l.map f).sum + (l.map h).sum
  | [] => rfl
  | x :: l => by simp only [List.map_cons, List.sum_cons, sum_add f h l]; omega
/-- The weight of a span that spans lie in: theirs together. -/
theorem wt_union {g : Int} (hg : 1 ≤ g) (f : Int → Int) {m : List Sn} (hm : Apn m) {S E : Int} : ∀ (p : List Int), (∀ t ∈ p, (ins g S E t = true ↔ ∃ x ∈ m, ins g x.s x.e t = true)) → wt g f p S E = (m.map fun x => wt g f p x.s x.e).sum
  | [], _ => by simp [wt, sum_zero]
  | t :: p, h => by
    have ih := wt_union hg f hm p (fun s hs => h s (List.mem_cons_of_mem _ hs))
    have h0 := h t (List.mem_cons_self ..)
    rw [wt_cons, ih]
    have e1 : (m.map fun x => wt g f (t :: p) x.s x.e) = m.map fun x => (if ins g x.s x.e t then f t else 0) + wt g f p x.s x.e := List.map_congr_left fun x _ => wt_cons ..
    rw [e1, sum_add, ind_sum hg (f t) t m hm]
    congr 1
    by_cases hS : ins g S E t = true
    · rw [if_pos hS, if_pos (h0.1 hS)]
    · rw [if_neg hS, if_neg (fun hc => hS (h0.2 hc))]
/-- The sessions of some times. -/
structure Sess (g : Int) (p : List Int) (l : List Sn) : Prop where
  ap : Apn l
  inn : ∀ t ∈ p, ∃ x ∈ l, x.s ≤ t ∧ t + g ≤ x.e
  st : ∀ x ∈ l, x.s ∈ p
  en : ∀ x ∈ l, ∃ t ∈ p, t + g = x.e
  mid : ∀ x ∈ l, ∀ y, x.s < y → y < x.e → ∃ t ∈ p, t < y ∧ y < t + g
theorem apn_one {l : List Sn} (h : Apn l) {x y : Sn} (hx : x ∈ l) (hy : y ∈ l) {z : Int} (h1 : x.s ≤ z) (h2 : z < x.e) (h3 : y.s ≤ z) (h4 : z < y.e) : x = y := by
  obtain ⟨i, hi⟩ := List.getElem?_of_mem hx
  obtain ⟨j, hj⟩ := List.getElem?_of_mem hy
  rcases Nat.lt_trichotomy i j with hij | hij | hij
  · have := List.pairwise_iff_getElem.1 h.2 i j (List.getElem?_eq_some_iff.1 hi).1 (List.getElem?_eq_some_iff.1 hj).1 hij
    rw [(List.getElem?_eq_some_iff.1 hi).2, (List.getElem?_eq_some_iff.1 hj).2] at this
    omega
  · subst hij; rw [hi] at hj; exact Option.some.inj hj
  · have := List.pairwise_iff_getElem.1 h.2 j i (List.getElem?_eq_some_iff.1 hj).1 (List.getElem?_eq_some_iff.1 hi).1 hij
    rw [(List.getElem?_eq_some_iff.1 hi).2, (List.getElem?_eq_some_iff.1 hj).2] at this
    omega
theorem Sess.sub {g : Int} (hg : 1 ≤ g) {p q : List Int} {l m : List Sn} (hl : Sess g p l) (hm : Sess g q m) (hpq : ∀ t, t ∈ p ↔ t ∈ q) {x : Sn} (hx : x ∈ l) : x ∈ m := by
  have hlt := hl.ap.1 x hx
  obtain ⟨y, hy, y1, y2⟩ := hm.inn x.s ((hpq _).1 (hl.st x hx))
  have hs : y.s = x.s := by
    rcases int_lt_or_ge y.s x.s with h | h
    · obtain ⟨t, ht, t1, t2⟩ := hm.mid y hy x.s h (by omega)
      obtain ⟨z, hz, z1, z2⟩ := hl.inn t ((hpq _).2 ht)
      have := apn_one hl.ap hx hz (z := x.s) (by omega) hlt (by omega) (by omega)
      subst this
      omega
    · omega
  obtain ⟨t, ht, te⟩ := hl.en x hx
  obtain ⟨z, hz, z1, z2⟩ := hm.inn t ((hpq _).1 ht)
  have hxt : x.s ≤ t := by
    obtain ⟨u, hu, u1, u2⟩ := hl.inn t ht
    have := apn_one hl.ap hx hu (z := x.e - 1) (by omega) (by omega) (by omega) (by omega)
    subst this
    exact u1
  have hyz : y = z := by
    -- y and z hold times of x: there is no cut between them
    rcases int_lt_or_ge y.e x.e with h | h
    · exfalso
      obtain ⟨s, hs', s1, s2⟩ := hl.mid x hx y.e (by omega) h
      obtain ⟨u, hu, u1, u2⟩ := hm.inn s ((hpq _).1 hs')
      have h5 := hm.ap.1 y hy
      have := apn_one hm.ap hy hu (z := y.e - 1) (by omega) (by omega) (by omega) (by omega)
      subst this
      omega
    · exact apn_one hm.ap hy hz (z := x.e - 1) (by omega) (by omega) (by omega) (by omega)
  subst hyz
  have he : y.e = x.e := by
    rcases int_lt_or_ge x.e y.e with h | h
    · obtain ⟨s, hs', s1, s2⟩ := hm.mid y hy x.e (by omega) h
      obtain ⟨u, hu, u1, u2⟩ := hl.inn s ((hpq _).2 hs')
      have := apn_one hl.ap hx hu (z := x.e - 1) (by omega) (by omega) (by omega) (by omega)
      subst this
      omega
    · omega
  have : x = y := by cases x; cases y; simp_all
  rw [this]; exact hy
theorem apn_ext : ∀ {l m : List Sn}, Apn l → Apn m → (∀ x, x ∈ l ↔ x ∈ m) → l = m
  | [], [], _, _, _ => rfl
  | [], y :: m, _, _, h => by have := (h y).2 (List.mem_cons_self ..); simp at this
  | x :: l, [], _, _, h => by have := (h x).1 (List.mem_cons_self ..); simp at this
  | x :: l, y :: m, hl, hm, h => by
    have hl2 := List.pairwise_cons.1 hl.2
    have hm2 := List.pairwise_cons.1 hm.2
    have hxy : x = y := by
      have h1 := (h x).1 (List.mem_cons_self ..)
      have h2 := (h y).2 (List.mem_cons_self ..)
      rcases List.mem_cons.1 h1 with e | h1
      · exact e
      · rcases List.mem_cons.1 h2 with e | h2
        · exact e.symm
        · exfalso
          have a1 := hm2.1 x h1
          have a2 := hl2.1 y h2
          have a3 := hl.1 x (List.mem_cons_self ..)
          have a4 := hm.1 y (List.mem_cons_self ..)
          omega
    subst hxy
    congr 1
    refine apn_ext ⟨fun z hz => hl.1 z (List.mem_cons_of_mem _ hz), hl2.2⟩ ⟨fun z hz => hm.1 z (List.mem_cons_of_mem _ hz), hm2.2⟩ fun z => ?_
    constructor
    · intro hz
      rcases List.mem_cons.1 ((h z).1 (List.mem_cons_of_mem _ hz)) with e | h1
      · exfalso; subst e; have := hl2.1 z hz; have := hl.1 z (List.mem_cons_self ..); omega
      · exact h1
    · intro hz
      rcases List.mem_cons.1 ((h z).2 (List.mem_cons_of_mem _ hz)) with e | h1
      · exfalso; subst e; have := hm2.1 z hz; have := hm.1 z (List.mem_cons_self ..); omega
      · exact h1
theorem Sess.uniq {g : Int} (hg : 1 ≤ g) {p q : List Int} {l m : List Sn} (hl : Sess g p l) (hm : Sess g q m) (hpq : ∀ t, t ∈ p ↔ t ∈ q) : l = m :=
  apn_ext hl.ap hm.ap fun _ => ⟨fun h => hl.sub hg hm hpq h, fun h => hm.sub hg hl (fun t => (hpq t).symm) h⟩
/-- Each time lies in just one session: all of them together. -/
theorem Sess.total {g : Int} (hg : 1 ≤ g) {p : List Int} {l : List Sn} (h : Sess g p l) : (l.map fun x => wt g (fun _ => 1) p x.s x.e).sum = (p.length : Int) := by
  have key : ∀ q : List Int, (∀ t ∈ q, t ∈ p) → (l.map fun x => wt g (fun _ => 1) q x.s x.e).sum = (q.length : Int) := by
    intro q
    induction q with
    | nil => intro _; simp [wt, sum_zero]
    | cons t q ih =>
      intro hq
      have e1 : (l.map fun x => wt g (fun _ => 1) (t :: q) x.s x.e) = l.map fun x => (if ins g x.s x.e t then 1 else 0) + wt g (fun _ => 1) q x.s x.e := List.map_congr_left fun x _ => wt_cons ..
      rw [e1, sum_add, ind_sum hg 1 t l h.ap, ih fun s hs => hq s (List.mem_cons_of_mem _ hs)]
      obtain ⟨x, hx, h1, h2⟩ := h.inn t (hq t (List.mem_cons_self ..))
      rw [if_pos ⟨x, hx, ins_iff.2 ⟨h1, h2⟩⟩, List.length_cons]
      omega
  exact key p fun _ h => h
/-- Sorted times, put together one behind the other. -/
def gstep (g : Int) (l : List Sn) (t : Int) : List Sn := match l.getLast? with
  | none => l ++ [⟨t, t + g⟩]
  | some x => if t < x.e then l.dropLast ++ [⟨x.s, t + g⟩] else l ++ [⟨t, t + g⟩]
def gaps (g : Int) (p : List Int) : List Sn := p.foldl (gstep g) []
theorem apn_append {a b : List Sn} : Apn (a ++ b) ↔ Apn a ∧ Apn b ∧ ∀ x ∈ a, ∀ y ∈ b, x.e ≤ y.s := by
  unfold Apn
  rw [List.pairwise_append]
  constructor
  · rintro ⟨h1, h2, h3, h4⟩
    exact ⟨⟨fun x hx => h1 x (List.mem_append_left _ hx), h2⟩, ⟨fun x hx => h1 x (List.mem_append_right _ hx), h3⟩, h4⟩
  · rintro ⟨⟨h1, h2⟩, ⟨h3, h4⟩, h5⟩
    exact ⟨fun x hx => (List.mem_append.1 hx).elim (h1 x) (h3 x), h2, h4, h5⟩
theorem apn_single {x : Sn} : Apn [x] ↔ x.s < x.e := by unfold Apn; simp
structure Gp (g : Int) (p : List Int) (l : List Sn) : Prop where
  ss : Sess g p l
  last : ∀ x, l.getLast? = some x → ∀ t, p.getLast? = some t → x.e = t + g
  none_ : l = [] → p = []
theorem Gp.step {g : Int} (hg : 1 ≤ g) {p : List Int} {l : List Sn} (h : Gp g p l) (t : Int) (hs : ∀ s ∈ p, s ≤ t) : Gp g (p ++ [t]) (gstep g l t) := by
  unfold gstep
  have new : (∀ x, l.getLast? = some x → x.e ≤ t) → Gp g (p ++ [t]) (l ++ [⟨t, t + g⟩]) := fun hl => by
    have hall : ∀ x ∈ l, x.e ≤ t := fun x hx => by
      have hne : l ≠ [] := List.ne_nil_of_mem hx
      obtain ⟨d, z, rfl⟩ : ∃ d z, l = d ++ [z] := ⟨l.dropLast, l.getLast hne, (List.dropLast_concat_getLast hne).symm⟩
      have hz := hl z (by simp)
      rcases List.mem_append.1 hx with hd | hd
      · have h1 := (apn_append.1 h.ss.ap).2.2 x hd z (by simp)
        have h2 := h.ss.ap.1 z (by simp)
        omega
      · simp only [List.mem_singleton] at hd; subst hd; exact hz
    refine ⟨⟨apn_append.2 ⟨h.ss.ap, apn_single.2 (by show t < t + g; omega), fun x hx y hy => by simp only [List.mem_singleton] at hy; subst hy; exact hall x hx⟩, ?_, ?_, ?_, ?_⟩, ?_, ?_⟩
    · intro s hs
      rcases List.mem_append.1 hs with h1 | h1
      · obtain ⟨x, hx, x1, x2⟩ := h.ss.inn s h1
        exact ⟨x, List.mem_append_left _ hx, x1, x2⟩
      · simp only [List.mem_singleton] at h1; subst h1
        exact ⟨_, List.mem_append_right _ (List.mem_singleton.2 rfl), Int.le_refl _, Int.le_refl _⟩
    · intro x hx
      rcases List.mem_append.1 hx with h1 | h1
      · exact List.mem_append_left _ (h.ss.st x h1)
      · simp only [List.mem_singleton] at h1; subst h1; simp
    · intro x hx
      rcases List.mem_append.1 hx with h1 | h1
      · obtain ⟨s, hs, he⟩ := h.ss.en x h1
        exact ⟨s, List.mem_append_left _ hs, he⟩
      · simp only [List.mem_singleton] at h1; subst h1; exact ⟨t, by simp, rfl⟩
    · intro x hx y y1 y2
      rcases List.mem_append.1 hx with h1 | h1
      · obtain ⟨s, hs, he⟩ := h.ss.mid x h1 y y1 y2
        exact ⟨s, List.mem_append_left _ hs, he⟩
      · simp only [List.mem_singleton] at h1; subst h1; exact ⟨t, by simp, y1, y2⟩
    · intro x hx s hs
      simp only [List.getLast?_concat, Option.some.injEq] at hx hs
      subst hx hs; rfl
    · intro h1; simp at h1
  cases hl : l.getLast? with
  | none => exact new fun x hx => by rw [hl] at hx; cases hx
  | some x =>
    simp only
    by_cases htx : t < x.e
    · rw [if_pos htx]
      obtain ⟨d, rfl⟩ : ∃ d, l = d ++ [x] := by
        have hne : l ≠ [] := fun e => by rw [e] at hl; simp at hl
        refine ⟨l.dropLast, ?_⟩
        have := (List.dropLast_concat_getLast hne).symm
        rw [List.getLast?_eq_some_getLast hne] at hl
        cases hl
        exact this
      rw [List.dropLast_concat]
      obtain ⟨a1, a2, a3⟩ := apn_append.1 h.ss.ap
      have a4 := apn_single.1 a2
      have hpn : p ≠ [] := fun e => by have := h.ss.st x (by simp); rw [e] at this; simp at this
      obtain ⟨t', ht'⟩ : ∃ t', p.getLast? = some t' := ⟨_, List.getLast?_eq_some_getLast hpn⟩
      have hxe := h.last x hl t' ht'
      have ht'p : t' ∈ p := List.mem_of_getLast? ht'
      have h1 := hs t' ht'p
      have h2 := hs x.s (h.ss.st x (by simp))
      refine ⟨⟨apn_append.2 ⟨a1, apn_single.2 (by show x.s < t + g; omega), fun z hz y hy => by simp only [List.mem_singleton] at hy; subst hy; exact a3 z hz x (by simp)⟩, ?_, ?_, ?_, ?_⟩, ?_, ?_⟩
      · intro s hs'
        rcases List.mem_append.1 hs' with h3 | h3
        · obtain ⟨z, hz, z1, z2⟩ := h.ss.inn s h3
          rcases List.mem_append.1 hz with h4 | h4
          · exact ⟨z, List.mem_append_left _ h4, z1, z2⟩
          · simp only [List.mem_singleton] at h4; subst h4
            exact ⟨_, List.mem_append_right _ (List.mem_singleton.2 rfl), z1, by have := hs s h3; show s + g ≤ t + g; omega⟩
        · simp only [List.mem_singleton] at h3; subst h3
          exact ⟨_, List.mem_append_right _ (List.mem_singleton.2 rfl), h2, Int.le_refl _⟩
      · intro z hz
        rcases List.mem_append.1 hz with h3 | h3
        · exact List.mem_append_left _ (h.ss.st z (List.mem_append_left _ h3))
        · simp only [List.mem_singleton] at h3; subst h3
          exact List.mem_append_left _ (h.ss.st x (by simp))
      · intro z hz
        rcases List.mem_append.1 hz with h3 | h3
        · obtain ⟨s, hs', he⟩ := h.ss.en z (List.mem_append_left _ h3)
          exact ⟨s, List.mem_append_left _ hs', he⟩
        · simp only [List.mem_singleton] at h3; subst h3; exact ⟨t, by simp, rfl⟩
      · intro z hz y y1 y2
        rcases List.mem_append.1 hz with h3 | h3
        · obtain ⟨s, hs', he⟩ := h.ss.mid z (List.mem_append_left _ h3) y y1 y2
          exact ⟨s, List.mem_append_left _ hs', he⟩
        · simp only [List.mem_singleton] at h3; subst h3
          simp only at y1 y2
          rcases int_lt_or_ge y x.e with h4 | h4
          · obtain ⟨s, hs', he⟩ := h.ss.mid x (by simp) y y1 h4
            exact ⟨s, List.mem_append_left _ hs', he⟩
          · exact ⟨t, by simp, by omega, by omega⟩
      · intro z hz s hs'
        simp only [List.getLast?_concat, Option.some.injEq] at hz hs'
        subst hz hs'; rfl
      · intro h3; simp at h3
    · rw [if_neg htx]
      exact new fun y hy => by rw [hl] at hy; cases hy; omega
theorem gaps_sess {g : Int} (hg : 1 ≤ g) : ∀ (q p : List Int) (l : List Sn), Gp g p l → (p ++ q).Pairwise (· ≤ ·) → Gp g (p ++ q) (q.foldl (gstep g) l)
  | [], p, l, h, _ => by simpa using h
  | t :: q, p, l, h, hp => by
    have hs : ∀ s ∈ p, s ≤ t := fun s hs => (List.pairwise_append.1 hp).2.2 s hs t (List.mem_cons_self ..)
    have := gaps_sess hg q (p ++ [t]) (gstep g l t) (h.step hg t hs) (by simpa using hp)
    simpa using this
theorem gaps_ok {g : Int} (hg : 1 ≤ g) {p : List Int} (hp : p.Pairwise (· ≤ ·)) : Sess g p (gaps g p) := by
  have h0 : Gp g [] [] := ⟨⟨⟨by simp, List.Pairwise.nil⟩, by simp, by simp, by simp, by simp⟩, by simp, fun _ => rfl⟩
  have := gaps_sess hg p [] [] h0 (by simpa using hp)
  simpa [gaps] using this.ss
end Go.Proofs.Ytjdfjaocidjhlaa
