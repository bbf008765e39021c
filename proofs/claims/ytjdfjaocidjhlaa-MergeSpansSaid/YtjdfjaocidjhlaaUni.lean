/- Spans put together, plainly: what any way of doing so comes to. -/
import Derived.Test.YtjdfjaocidjhlaaOrd
namespace Go.Proofs.Ytjdfjaocidjhlaa
open Go.RowKit

/-- Apart by d at least. -/
def Sp (d : Int) (l : List Sn) : Prop := (∀ x ∈ l, x.s < x.e) ∧ l.Pairwise fun a b => a.e + d ≤ b.s
theorem Sp.one {d : Int} {l : List Sn} (h : Sp d l) {x y : Sn} (hx : x ∈ l) (hy : y ∈ l) : x = y ∨ x.e + d ≤ y.s ∨ y.e + d ≤ x.s := by
  obtain ⟨i, hi⟩ := List.getElem?_of_mem hx
  obtain ⟨j, hj⟩ := List.getElem?_of_mem hy
  rcases Nat.lt_trichotomy i j with hij | hij | hij
  · have := List.pairwise_iff_getElem.1 h.2 i j (List.getElem?_eq_some_iff.1 hi).1 (List.getElem?_eq_some_iff.1 hj).1 hij
    rw [(List.getElem?_eq_some_iff.1 hi).2, (List.getElem?_eq_some_iff.1 hj).2] at this
    exact .inr (.inl this)
  · subst hij; rw [hi] at hj; exact .inl (Option.some.inj hj)
  · have := List.pairwise_iff_getElem.1 h.2 j i (List.getElem?_eq_some_iff.1 hj).1 (List.getElem?_eq_some_iff.1 hi).1 hij
    rw [(List.getElem?_eq_some_iff.1 hi).2, (List.getElem?_eq_some_iff.1 hj).2] at this
    exact .inr (.inr this)
/-- The spans p, put together: l. -/
structure Un (d : Int) (p l : List Sn) : Prop where
  ap : Sp d l
  inn : ∀ t ∈ p, ∃ x ∈ l, x.s ≤ t.s ∧ t.e ≤ x.e
  st : ∀ x ∈ l, ∃ t ∈ p, t.s = x.s
  mid : ∀ x ∈ l, ∀ y, x.s < y → y < x.e + d → ∃ t ∈ p, t.s < y ∧ y < t.e + d
theorem Un.sub {d : Int} (hd : d = 0 ∨ d = 1) {p q l m : List Sn} (hp : ∀ t ∈ p, t.s < t.e) (hl : Un d p l) (hm : Un d q m) (hpq : ∀ t, t ∈ p ↔ t ∈ q) {x : Sn} (hx : x ∈ l) : x ∈ m := by
  have hq : ∀ t ∈ q, t.s < t.e := fun t ht => hp t ((hpq t).2 ht)
  obtain ⟨t, ht, hts⟩ := hl.st x hx
  obtain ⟨z, hz, hz1, hz2⟩ := hm.inn t ((hpq t).1 ht)
  have htn := hp t ht
  have hxn := hl.ap.1 x hx
  have hzn := hm.ap.1 z hz
  have e1 : z.s = x.s := by
    by_cases hc : z.s < x.s
    · exfalso
      obtain ⟨t', ht', h1, h2⟩ := hm.mid z hz x.s hc (by omega)
      obtain ⟨x', hx', h3, h4⟩ := hl.inn t' ((hpq t').2 ht')
      rcases hl.ap.one hx hx' with rfl | h5 | h5 <;> omega
    · omega
  have e2 : z.e = x.e := by
    rcases int_lt_or_ge z.e x.e with hc | hc
    · exfalso
      obtain ⟨t', ht', h1, h2⟩ := hl.mid x hx (z.e + d) (by omega) (by omega)
      obtain ⟨z', hz', h3, h4⟩ := hm.inn t' ((hpq t').1 ht')
      rcases hm.ap.one hz hz' with rfl | h5 | h5 <;> omega
    · rcases int_lt_or_ge x.e z.e with hc2 | hc2
      · exfalso
        obtain ⟨t', ht', h1, h2⟩ := hm.mid z hz (x.e + d) (by omega) (by omega)
        obtain ⟨x', hx', h3, h4⟩ := hl.inn t' ((hpq t').2 ht')
        rcases hl.ap.one hx hx' with rfl | h5 | h5 <;> omega
      · omega
  have : x = z := by cases x; cases z; simp_all
  rw [this]; exact hz
theorem Sp.apn {d : Int} (hd : 0 ≤ d) {l : List Sn} (h : Sp d l) : Apn l := ⟨h.1, h.2.imp fun h => by omega⟩
theorem Un.uniq {d : Int} (hd : d = 0 ∨ d = 1) {p q l m : List Sn} (hp : ∀ t ∈ p, t.s < t.e) (hl : Un d p l) (hm : Un d q m) (hpq : ∀ t, t ∈ p ↔ t ∈ q) : l = m :=
  apn_ext (hl.ap.apn (by omega)) (hm.ap.apn (by omega)) fun _ => ⟨hl.sub hd hp hm hpq, hm.sub hd (fun t ht => hp t ((hpq t).2 ht)) hl fun t => (hpq t).symm⟩
theorem Sess.un {g : Int} {p : List Int} {l : List Sn} (h : Sess g p l) : Un 0 (p.map fun t => ⟨t, t + g⟩) l :=
  ⟨⟨h.ap.1, h.ap.2.imp fun h => by omega⟩, fun t ht => by obtain ⟨s, hs, rfl⟩ := List.mem_map.1 ht; exact h.inn s hs,
    fun x hx => ⟨_, List.mem_map_of_mem (h.st x hx), rfl⟩, fun x hx y h1 h2 => by
      obtain ⟨t, ht, h3, h4⟩ := h.mid x hx y h1 (by omega)
      exact ⟨_, List.mem_map_of_mem ht, h3, by show y < t + g + 0; omega⟩⟩

/-- Do they touch? -/
def tch (d : Int) (t y : Sn) : Bool := decide (y.s < t.e + d) && decide (t.s < y.e + d)
theorem tch_iff {d : Int} {t y : Sn} : tch d t y = true ↔ y.s < t.e + d ∧ t.s < y.e + d := by simp [tch]
def hul (a b : Sn) : Sn := ⟨min a.s b.s, max a.e b.e⟩
/-- Put together with those that touch what has come together so far; the others. -/
def ustep (d : Int) (a : Sn × List Sn) (y : Sn) : Sn × List Sn := if tch d a.1 y = true then (hul a.1 y, a.2) else (a.1, a.2 ++ [y])
/-- .. with those that touch t. -/
def vstep (d : Int) (t : Sn) (a : Sn × List Sn) (y : Sn) : Sn × List Sn := if tch d t y = true then (hul a.1 y, a.2) else (a.1, a.2 ++ [y])
structure Hull (t : Sn) (ys : List Sn) (s : Sn) : Prop where
  s1 : s.s ≤ t.s
  e1 : t.e ≤ s.e
  a : ∀ y ∈ ys, s.s ≤ y.s ∧ y.e ≤ s.e
  s2 : s.s = t.s ∨ ∃ y ∈ ys, s.s = y.s
  e2 : s.e = t.e ∨ ∃ y ∈ ys, s.e = y.e
theorem Hull.nil (t : Sn) : Hull t [] t := ⟨Int.le_refl _, Int.le_refl _, by simp, .inl rfl, .inl rfl⟩
theorem Hull.snoc {t : Sn} {ys : List Sn} {s : Sn} (h : Hull t ys s) (y : Sn) : Hull t (ys ++ [y]) (hul s y) := by
  have h1 := h.s1
  have h2 := h.e1
  refine ⟨by show min s.s y.s ≤ _; omega, by show _ ≤ max s.e y.e; omega, ?_, ?_, ?_⟩
  · intro z hz
    rcases List.mem_append.1 hz with h3 | h3
    · have := h.a z h3; constructor
      · show min s.s y.s ≤ _; omega
      · show _ ≤ max s.e y.e; omega
    · simp only [List.mem_singleton] at h3; subst h3; constructor
      · show min s.s z.s ≤ _; omega
      · show _ ≤ max s.e z.e; omega
  · by_cases hc : s.s ≤ y.s
    · have e : (hul s y).s = s.s := by show min s.s y.s = _; omega
      rw [e]
      rcases h.s2 with h3 | ⟨z, hz, h3⟩
      · exact .inl h3
      · exact .inr ⟨z, List.mem_append_left _ hz, h3⟩
    · exact .inr ⟨y, by simp, by show min s.s y.s = _; omega⟩
  · by_cases hc : y.e ≤ s.e
    · have e : (hul s y).e = s.e := by show max s.e y.e = _; omega
      rw [e]
      rcases h.e2 with h3 | ⟨z, hz, h3⟩
      · exact .inl h3
      · exact .inr ⟨z, List.mem_append_left _ hz, h3⟩
    · exact .inr ⟨y, by simp, by show max s.e y.e = _; omega⟩
theorem vfold {d : Int} (t : Sn) : ∀ (b a : List Sn) (s : Sn) (r : List Sn), Hull t (a.filter (tch d t)) s → r = a.filter (fun y => !tch d t y) →
    Hull t ((a ++ b).filter (tch d t)) (b.foldl (vstep d t) (s, r)).1 ∧ (b.foldl (vstep d t) (s, r)).2 = (a ++ b).filter (fun y => !tch d t y)
  | [], a, s, r, h, hr => by simpa using ⟨h, hr⟩
  | y :: b, a, s, r, h, hr => by
    rw [List.foldl_cons, show a ++ y :: b = a ++ [y] ++ b by simp]
    by_cases hy : tch d t y = true
    · rw [show vstep d t (s, r) y = (hul s y, r) by unfold vstep; rw [if_pos hy]]
      exact vfold t b (a ++ [y]) _ _ (by rw [List.filter_append]; simpa [hy] using h.snoc y) (by rw [List.filter_append, hr]; simp [hy])
    · rw [show vstep d t (s, r) y = (s, r ++ [y]) by unfold vstep; rw [if_neg hy]]
      exact vfold t b (a ++ [y]) _ _ (by rw [List.filter_append]; simpa [hy] using h) (by rw [List.filter_append, hr]; simp [hy])
theorem ufold {d : Int} (hd : 0 ≤ d) (t : Sn) : ∀ (b a : List Sn) (s : Sn) (r : List Sn), Sp d (a ++ b) → Hull t (a.filter (tch d t)) s → b.foldl (ustep d) (s, r) = b.foldl (vstep d t) (s, r)
  | [], a, s, r, _, _ => rfl
  | y :: b, a, s, r, hs, h => by
    rw [List.foldl_cons, List.foldl_cons]
    have hs' : Sp d (a ++ [y] ++ b) := by simpa using hs
    have hya : ∀ z ∈ a, z.e + d ≤ y.s := fun z hz => (List.pairwise_append.1 hs.2).2.2 z hz y (by simp)
    have hyn := hs.1 y (by simp)
    have key : (tch d s y = true) ↔ (tch d t y = true) := by
      rw [tch_iff, tch_iff]
      have h1 := h.s1
      have h2 := h.e1
      constructor
      · rintro ⟨k1, k2⟩
        constructor
        · rcases h.e2 with h3 | ⟨z, hz, h3⟩
          · omega
          · have := hya z (List.mem_filter.1 hz).1; omega
        · rcases h.s2 with h3 | ⟨z, hz, h3⟩
          · omega
          · have h4 := hya z (List.mem_filter.1 hz).1
            have h5 := (tch_iff.1 (List.mem_filter.1 hz).2).2
            omega
      · rintro ⟨k1, k2⟩; omega
    have e : ustep d (s, r) y = vstep d t (s, r) y := by
      unfold ustep vstep
      by_cases hy : tch d t y = true
      · rw [if_pos hy, if_pos (key.2 hy)]
      · rw [if_neg hy, if_neg (fun hc => hy (key.1 hc))]
    rw [e]
    by_cases hy : tch d t y = true
    · rw [show vstep d t (s, r) y = (hul s y, r) by unfold vstep; rw [if_pos hy]]
      exact ufold hd t b (a ++ [y]) _ _ hs' (by rw [List.filter_append]; simpa [hy] using h.snoc y)
    · rw [show vstep d t (s, r) y = (s, r ++ [y]) by unfold vstep; rw [if_neg hy]]
      exact ufold hd t b (a ++ [y]) _ _ hs' (by rw [List.filter_append]; simpa [hy] using h)
/-- A span among rising ones. -/
def uput : List Sn → Sn → List Sn
  | [], s => [s]
  | y :: r, s => if y.s < s.s then y :: uput r s else s :: y :: r
theorem uput_mem {s x : Sn} : ∀ {r : List Sn}, x ∈ uput r s ↔ x = s ∨ x ∈ r
  | [] => by simp [uput]
  | y :: r => by
    unfold uput
    by_cases h : y.s < s.s
    · rw [if_pos h, List.mem_cons, uput_mem (r := r), List.mem_cons]
      constructor
      · rintro (h1 | h1 | h1) <;> simp [h1]
      · rintro (h1 | h1 | h1) <;> simp [h1]
    · rw [if_neg h]; simp
theorem uput_sp {d : Int} (hd : 0 ≤ d) {s : Sn} (hs : s.s < s.e) : ∀ {r : List Sn}, Sp d r → (∀ y ∈ r, y.e + d ≤ s.s ∨ s.e + d ≤ y.s) → Sp d (uput r s)
  | [], _, _ => ⟨by simp [uput, hs], by simp [uput]⟩
  | y :: r, h, hy => by
    have hr : Sp d r := ⟨fun x hx => h.1 x (List.mem_cons_of_mem _ hx), (List.pairwise_cons.1 h.2).2⟩
    have hyr := (List.pairwise_cons.1 h.2).1
    have hyn := h.1 y (List.mem_cons_self ..)
    have h1 := hy y (List.mem_cons_self ..)
    unfold uput
    by_cases hc : y.s < s.s
    · rw [if_pos hc]
      have ih := uput_sp hd hs hr fun z hz => hy z (List.mem_cons_of_mem _ hz)
      refine ⟨fun x hx => ?_, List.pairwise_cons.2 ⟨fun x hx => ?_, ih.2⟩⟩
      · rcases List.mem_cons.1 hx with rfl | h2
        · exact hyn
        · exact ih.1 x h2
      · rcases uput_mem.1 hx with rfl | h2
        · omega
        · exact hyr x h2
    · rw [if_neg hc]
      refine ⟨fun x hx => ?_, List.pairwise_cons.2 ⟨fun x hx => ?_, h.2⟩⟩
      · rcases List.mem_cons.1 hx with rfl | h2
        · exact hs
        · exact h.1 x h2
      · rcases List.mem_cons.1 hx with rfl | h2
        · omega
        · have := hyr x h2; omega
/-- One span more. -/
theorem Un.ins {d : Int} (hd : d = 0 ∨ d = 1) {p l : List Sn} (h : Un d p l) {t : Sn} (ht : t.s < t.e) {J : Sn} (hJ : Hull t (l.filter (tch d t)) J) :
    Un d (p ++ [t]) (uput (l.filter fun y => !tch d t y) J) := by
  have h1 := hJ.s1
  have h2 := hJ.e1
  have tm : ∀ {y}, y ∈ l.filter (tch d t) → y ∈ l ∧ y.s < t.e + d ∧ t.s < y.e + d := fun hy => ⟨(List.mem_filter.1 hy).1, tch_iff.1 (List.mem_filter.1 hy).2⟩
  have fm : ∀ {y}, y ∈ l.filter (fun y => !tch d t y) → y ∈ l ∧ ¬ (y.s < t.e + d ∧ t.s < y.e + d) := fun hy => ⟨(List.mem_filter.1 hy).1, fun hc => by
    have h3 := (List.mem_filter.1 hy).2
    rw [tch_iff.2 hc] at h3; simp at h3⟩
  have far : ∀ y ∈ l.filter (fun y => !tch d t y), y.e + d ≤ J.s ∨ J.e + d ≤ y.s := fun y hy => by
    obtain ⟨hyl, hyt⟩ := fm hy
    have hyn := h.ap.1 y hyl
    by_cases hc : t.s < y.e + d
    · have hc2 : t.e + d ≤ y.s := by omega
      refine .inr ?_
      rcases hJ.e2 with h3 | ⟨z, hz, h3⟩
      · omega
      · obtain ⟨hzl, hz1, hz2⟩ := tm hz
        have := h.ap.1 z hzl
        rcases h.ap.one hyl hzl with rfl | h5 | h5 <;> omega
    · refine .inl ?_
      rcases hJ.s2 with h3 | ⟨z, hz, h3⟩
      · omega
      · obtain ⟨hzl, hz1, hz2⟩ := tm hz
        have := h.ap.1 z hzl
        rcases h.ap.one hyl hzl with rfl | h5 | h5 <;> omega
  refine ⟨uput_sp (by omega) (by omega) ⟨fun x hx => h.ap.1 x (List.mem_filter.1 hx).1, h.ap.2.filter _⟩ far, ?_, ?_, ?_⟩
  · intro s hs
    rcases List.mem_append.1 hs with h3 | h3
    · obtain ⟨x, hx, hx1, hx2⟩ := h.inn s h3
      by_cases hxt : tch d t x = true
      · have := hJ.a x (List.mem_filter.2 ⟨hx, hxt⟩)
        exact ⟨J, uput_mem.2 (.inl rfl), by omega, by omega⟩
      · exact ⟨x, uput_mem.2 (.inr (List.mem_filter.2 ⟨hx, by simp [hxt]⟩)), hx1, hx2⟩
    · simp only [List.mem_singleton] at h3; subst h3
      exact ⟨J, uput_mem.2 (.inl rfl), h1, h2⟩
  · intro x hx
    rcases uput_mem.1 hx with rfl | h3
    · rcases hJ.s2 with h4 | ⟨z, hz, h4⟩
      · exact ⟨t, by simp, h4.symm⟩
      · obtain ⟨s, hs, h5⟩ := h.st z (tm hz).1
        exact ⟨s, List.mem_append_left _ hs, by omega⟩
    · obtain ⟨s, hs, h5⟩ := h.st x (fm h3).1
      exact ⟨s, List.mem_append_left _ hs, h5⟩
  · intro x hx y hy1 hy2
    rcases uput_mem.1 hx with rfl | h3
    · by_cases ha : t.s < y
      · by_cases hb : y < t.e + d
        · exact ⟨t, by simp, ha, hb⟩
        · rcases hJ.e2 with h4 | ⟨z, hz, h4⟩
          · omega
          · obtain ⟨hzl, hz1, hz2⟩ := tm hz
            obtain ⟨s, hs, h5, h6⟩ := h.mid z hzl y (by omega) (by omega)
            exact ⟨s, List.mem_append_left _ hs, h5, h6⟩
      · rcases hJ.s2 with h4 | ⟨z, hz, h4⟩
        · omega
        · obtain ⟨hzl, hz1, hz2⟩ := tm hz
          obtain ⟨s, hs, h5, h6⟩ := h.mid z hzl y (by omega) (by omega)
          exact ⟨s, List.mem_append_left _ hs, h5, h6⟩
    · obtain ⟨s, hs, h5, h6⟩ := h.mid x (fm h3).1 y hy1 hy2
      exact ⟨s, List.mem_append_left _ hs, h5, h6⟩
/-- The document's Union, and its Gaps: span by span. -/
def uin (out : List Sn) (t : Sn) : List Sn := if t.s < t.e then uput (out.foldl (ustep 1) (t, [])).2 (out.foldl (ustep 1) (t, [])).1 else out
def rUnion (p : List Sn) : List Sn := p.foldl uin []
def gin (g : Int) (out : List Sn) (t : Int) : List Sn := uput (out.foldl (vstep 0 ⟨t, t + g⟩) (⟨t, t + g⟩, [])).2 (out.foldl (vstep 0 ⟨t, t + g⟩) (⟨t, t + g⟩, [])).1
def rGaps (g : Int) (p : List Int) : List Sn := p.foldl (gin g) []
theorem Un.nil (d : Int) : Un d [] [] := ⟨⟨by simp, List.Pairwise.nil⟩, by simp, by simp, by simp⟩
theorem rUnion_un (p : List Sn) : Un 1 (p.filter fun t => decide (t.s < t.e)) (rUnion p) := by
  suffices ∀ (q a l : List Sn), Un 1 (a.filter fun t => decide (t.s < t.e)) l → Un 1 ((a ++ q).filter fun t => decide (t.s < t.e)) (q.foldl uin l) by simpa [rUnion] using this p [] [] (by simpa using Un.nil 1)
  intro q
  induction q with
  | nil => intro a l h; simpa using h
  | cons t q ih =>
    intro a l h
    rw [List.foldl_cons, show a ++ t :: q = a ++ [t] ++ q by simp]
    apply ih
    unfold uin
    by_cases ht : t.s < t.e
    · rw [if_pos ht, List.filter_append]
      have e := ufold (d := 1) (by decide) t l [] t [] (by simpa using h.ap) (by simpa using Hull.nil t)
      obtain ⟨v1, v2⟩ := vfold (d := 1) t l [] t [] (by simpa using Hull.nil t) (by simp)
      rw [e, v2]
      simpa [ht] using h.ins (.inr rfl) ht (by simpa using v1)
    · rw [if_neg ht, List.filter_append]; simpa [ht] using h
theorem rGaps_un {g : Int} (hg : 1 ≤ g) (p : List Int) : Un 0 (p.map fun t => ⟨t, t + g⟩) (rGaps g p) := by
  suffices ∀ (q a : List Int) (l : List Sn), Un 0 (a.map fun t => ⟨t, t + g⟩) l → Un 0 ((a ++ q).map fun t => ⟨t, t + g⟩) (q.foldl (gin g) l) by simpa [rGaps] using this p [] [] (by simpa using Un.nil 0)
  intro q
  induction q with
  | nil => intro a l h; simpa using h
  | cons t q ih =>
    intro a l h
    rw [List.foldl_cons, show a ++ t :: q = a ++ [t] ++ q by simp]
    apply ih
    unfold gin
    obtain ⟨v1, v2⟩ := vfold (d := 0) ⟨t, t + g⟩ l [] ⟨t, t + g⟩ [] (by simpa using Hull.nil _) (by simp)
    rw [v2]
    simpa using h.ins (.inl rfl) (t := ⟨t, t + g⟩) (by show t < t + g; omega) (by simpa using v1)
theorem rGaps_eq {g : Int} (hg : 1 ≤ g) {p q : List Int} (hq : q.Pairwise (· ≤ ·)) (hpq : ∀ t, t ∈ p ↔ t ∈ q) : rGaps g p = gaps g q :=
  Un.uniq (.inl rfl) (fun t ht => by obtain ⟨s, -, rfl⟩ := List.mem_map.1 ht; show s < s + g; omega) (rGaps_un hg p) (gaps_ok hg hq).un fun t => by
    simp only [List.mem_map]
    constructor <;> rintro ⟨s, hs, rfl⟩ <;> exact ⟨s, by simpa [hpq] using hs, rfl⟩
/-- The program's Union, of rising spans: put together one behind the other. -/
def pstep (l : List Sn) (t : Sn) : List Sn := match l.getLast? with
  | none => l ++ [t]
  | some x => if t.s ≤ x.e then l.dropLast ++ [⟨x.s, max x.e t.e⟩] else l ++ [t]
def pUnion (p : List Sn) : List Sn := p.foldl pstep []
theorem pstep_un {p l : List Sn} (h : Un 1 p l) {t : Sn} (ht : t.s < t.e) (hs : ∀ s ∈ p, s.s ≤ t.s) : Un 1 (p ++ [t]) (pstep l t) := by
  have lastmax : ∀ {l0 : List Sn} {z : Sn}, l = l0 ++ [z] → ∀ x ∈ l0, x.e + 1 ≤ z.s := fun {l0 z} e x hx => by
    have h1 := h.ap.2
    rw [e] at h1
    exact (List.pairwise_append.1 h1).2.2 x hx z (by simp)
  have new : (∀ x ∈ l, x.e < t.s) → Un 1 (p ++ [t]) (l ++ [t]) := fun hl => by
    refine ⟨⟨fun x hx => ?_, List.pairwise_append.2 ⟨h.ap.2, by simp, fun x hx y hy => ?_⟩⟩, ?_, ?_, ?_⟩
    · rcases List.mem_append.1 hx with h1 | h1
      · exact h.ap.1 x h1
      · simp only [List.mem_singleton] at h1; subst h1; exact ht
    · simp only [List.mem_singleton] at hy; subst hy; have := hl x hx; omega
    · intro s hs'
      rcases List.mem_append.1 hs' with h1 | h1
      · obtain ⟨x, hx, h2⟩ := h.inn s h1; exact ⟨x, List.mem_append_left _ hx, h2⟩
      · simp only [List.mem_singleton] at h1; subst h1; exact ⟨s, by simp, Int.le_refl _, Int.le_refl _⟩
    · intro x hx
      rcases List.mem_append.1 hx with h1 | h1
      · obtain ⟨s, hs', h2⟩ := h.st x h1; exact ⟨s, List.mem_append_left _ hs', h2⟩
      · simp only [List.mem_singleton] at h1; subst h1; exact ⟨x, by simp, rfl⟩
    · intro x hx y h1 h2
      rcases List.mem_append.1 hx with h3 | h3
      · obtain ⟨s, hs', h4⟩ := h.mid x h3 y h1 h2; exact ⟨s, List.mem_append_left _ hs', h4⟩
      · simp only [List.mem_singleton] at h3; subst h3; exact ⟨x, by simp, h1, h2⟩
  unfold pstep
  cases hl : l.getLast? with
  | none =>
    obtain rfl := List.getLast?_eq_none_iff.1 hl
    exact new (by simp)
  | some z =>
    obtain ⟨l0, e⟩ := List.getLast?_eq_some_iff.1 hl
    have hzl : z ∈ l := by rw [e]; simp
    have hzn := h.ap.1 z hzl
    simp only
    by_cases hc : t.s ≤ z.e
    · rw [if_pos hc, e, List.dropLast_concat]
      obtain ⟨tz, htz, htz2⟩ := h.st z hzl
      have hzt := hs tz htz
      have memz : ∀ {x}, x ∈ l0 → x ∈ l := fun hx => by rw [e]; exact List.mem_append_left _ hx
      refine ⟨⟨fun x hx => ?_, List.pairwise_append.2 ⟨?_, by simp, fun x hx y hy => ?_⟩⟩, ?_, ?_, ?_⟩
      · rcases List.mem_append.1 hx with h1 | h1
        · exact h.ap.1 x (memz h1)
        · simp only [List.mem_singleton] at h1; subst h1; show z.s < max z.e t.e; omega
      · have h1 := h.ap.2; rw [e] at h1; exact (List.pairwise_append.1 h1).1
      · simp only [List.mem_singleton] at hy; subst hy; exact lastmax e x hx
      · intro s hs'
        rcases List.mem_append.1 hs' with h1 | h1
        · obtain ⟨x, hx, h2, h3⟩ := h.inn s h1
          rw [e] at hx
          rcases List.mem_append.1 hx with h4 | h4
          · exact ⟨x, List.mem_append_left _ h4, h2, h3⟩
          · simp only [List.mem_singleton] at h4; subst h4; exact ⟨_, List.mem_append_right _ (List.mem_singleton.2 rfl), h2, by show s.e ≤ max x.e t.e; omega⟩
        · simp only [List.mem_singleton] at h1; subst h1; exact ⟨_, List.mem_append_right _ (List.mem_singleton.2 rfl), by show z.s ≤ s.s; omega, by show s.e ≤ max z.e s.e; omega⟩
      · intro x hx
        rcases List.mem_append.1 hx with h1 | h1
        · obtain ⟨s, hs', h2⟩ := h.st x (memz h1); exact ⟨s, List.mem_append_left _ hs', h2⟩
        · simp only [List.mem_singleton] at h1; subst h1; exact ⟨tz, List.mem_append_left _ htz, htz2⟩
      · intro x hx y h1 h2
        rcases List.mem_append.1 hx with h3 | h3
        · obtain ⟨s, hs', h4⟩ := h.mid x (memz h3) y h1 h2; exact ⟨s, List.mem_append_left _ hs', h4⟩
        · simp only [List.mem_singleton] at h3; subst h3
          have h1' : z.s < y := h1
          have h2' : y < max z.e t.e + 1 := h2
          by_cases hy : y < z.e + 1
          · obtain ⟨s, hs', h4⟩ := h.mid z hzl y h1' hy; exact ⟨s, List.mem_append_left _ hs', h4⟩
          · exact ⟨t, by simp, by omega, by omega⟩
    · rw [if_neg hc]
      refine new fun x hx => ?_
      rw [e] at hx
      rcases List.mem_append.1 hx with h1 | h1
      · have h2 := lastmax e x h1; omega
      · simp only [List.mem_singleton] at h1; subst h1; omega
theorem pUnion_un {p : List Sn} (hp : ∀ t ∈ p, t.s < t.e) (hs : p.Pairwise fun a b => a.s ≤ b.s) : Un 1 p (pUnion p) := by
  suffices ∀ (q a l : List Sn), (∀ t ∈ q, t.s < t.e) → (a ++ q).Pairwise (fun a b => a.s ≤ b.s) → Un 1 a l → Un 1 (a ++ q) (q.foldl pstep l) by simpa [pUnion] using this p [] [] hp (by simpa using hs) (Un.nil 1)
  intro q
  induction q with
  | nil => intro a l _ _ h; simpa using h
  | cons t q ih =>
    intro a l hq ha h
    rw [List.foldl_cons, show a ++ t :: q = a ++ [t] ++ q by simp]
    exact ih _ _ (fun s hs => hq s (List.mem_cons_of_mem _ hs)) (by simpa using ha) (pstep_un h (hq t (List.mem_cons_self ..)) fun s hs => (List.pairwise_append.1 ha).2.2 s hs t (List.mem_cons_self ..))
theorem pUnion_eq {p q : List Sn} (hq : q.Pairwise fun a b => a.s ≤ b.s) (hm : ∀ t, t ∈ q ↔ t ∈ p ∧ t.s < t.e) : pUnion q = rUnion p := by
  have hn : ∀ t ∈ q, t.s < t.e := fun t ht => ((hm t).1 ht).2
  exact Un.uniq (.inr rfl) hn (pUnion_un hn hq) (rUnion_un p) fun t => by rw [hm]; simp [List.mem_filter]
end Go.Proofs.Ytjdfjaocidjhlaa
