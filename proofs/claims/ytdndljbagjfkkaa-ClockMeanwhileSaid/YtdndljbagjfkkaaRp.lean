/- The document's holds, plainly: a list that rises by name. -/
import Derived.Test.YtdndljbagjfkkaaCk9
namespace Go.Proofs.Ytdndljbagjfkkaa
open Go.RowKit Go.Lib

structure Hd where
  name : ByteArray
  tm : Int
def Hd.cells (h : Hd) : List Value := [.string h.name, .int .i64 h.tm]
def hdc (l : List Hd) : List Value := l.flatMap Hd.cells
theorem hdc_length (l : List Hd) : (hdc l).length = l.length * 2 := flat_length Hd.cells 2 (fun _ => rfl) l
theorem hdc_at {l : List Hd} {k : Nat} {h : Hd} (hk : l[k]? = some h) : (hdc l)[k * 2]? = some (.string h.name) ∧ (hdc l)[k * 2 + 1]? = some (.int .i64 h.tm) :=
  ⟨flat_at Hd.cells 2 (fun _ => rfl) l k h hk 0 _ rfl, flat_at Hd.cells 2 (fun _ => rfl) l k h hk 1 _ rfl⟩
theorem hdc_append (a b : List Hd) : hdc (a ++ b) = hdc a ++ hdc b := by simp [hdc]
theorem hdc_cut : ∀ (l : List Hd) (z : Nat), hdc (l.take z) = (hdc l).take (z * 2) ∧ hdc (l.drop z) = (hdc l).drop (z * 2)
  | [], z => by simp [hdc]
  | x :: l, 0 => by simp [hdc]
  | x :: l, z + 1 => by
    obtain ⟨h1, h2⟩ := hdc_cut l z
    have e : hdc (x :: l) = [.string x.name, .int .i64 x.tm] ++ hdc l := rfl
    have e2 : hdc (x :: l.take z) = [.string x.name, .int .i64 x.tm] ++ hdc (l.take z) := rfl
    rw [List.take_succ_cons, List.drop_succ_cons, e, e2, h1, h2, show (z + 1) * 2 = z * 2 + 1 + 1 by omega]
    exact ⟨rfl, rfl⟩
theorem hdc_one (l : List Hd) : ∀ u ∈ hdc l, u.oneCell' = true := by
  intro u hu
  simp only [hdc, List.mem_flatMap] at hu
  obtain ⟨x, -, hx⟩ := hu
  simp only [Hd.cells, List.mem_cons, List.not_mem_nil, or_false] at hx
  rcases hx with rfl | rfl <;> rfl

/-- The order of names. -/
def nlt (a b : ByteArray) : Bool := Op.bytesLess a.toList b.toList
theorem nlt_iff {a b : ByteArray} : nlt a b = true ↔ a.toList < b.toList := by unfold nlt; rw [bytes_lt]; simp
theorem nlt_irrefl (a : ByteArray) : nlt a a = false := by
  rcases h : nlt a a with _ | _
  · rfl
  · exact absurd (nlt_iff.1 h) (List.lt_irrefl _)
theorem nlt_trans {a b c : ByteArray} (h : nlt a b = true) (k : nlt b c = true) : nlt a c = true := nlt_iff.2 (List.lt_trans (nlt_iff.1 h) (nlt_iff.1 k))
theorem nlt_asymm {a b : ByteArray} (h : nlt a b = true) : nlt b a = false := by
  rcases k : nlt b a with _ | _
  · rfl
  · exact absurd (nlt_iff.1 k) (List.lt_asymm (nlt_iff.1 h))
theorem toList_inj {a b : ByteArray} (h : a.toList = b.toList) : a = b := by
  rw [ByteArray.toList_eq, ByteArray.toList_eq] at h
  exact ByteArray.ext (Array.ext' h)
theorem nlt_tri {a b : ByteArray} (h : nlt a b = false) (k : nlt b a = false) : a = b := by
  apply toList_inj
  refine List.le_antisymm (List.not_lt.1 fun e => ?_) (List.not_lt.1 fun e => ?_)
  · rw [nlt_iff.2 e] at k; cases k
  · rw [nlt_iff.2 e] at h; cases h

def Asc (H : List Hd) : Prop := H.Pairwise fun a b => nlt a.name b.name = true
/-- The list H is the table T. -/
structure HT (H : List Hd) (T : ByteArray → Option Int) : Prop where
  asc : Asc H
  mem : ∀ s t, T s = some t ↔ (⟨s, t⟩ : Hd) ∈ H
theorem HT.nil : HT [] (fun _ => none) := ⟨List.Pairwise.nil, fun s t => by simp⟩
def plc (H : List Hd) (s : ByteArray) : Nat := (H.takeWhile fun h => nlt h.name s).length
theorem plc_le (H : List Hd) (s : ByteArray) : plc H s ≤ H.length := (List.takeWhile_sublist _).length_le
theorem plc_at (H : List Hd) (s : ByteArray) : ∀ (k : Nat) (h : Hd), H[k]? = some h → (k < plc H s → nlt h.name s = true) ∧ (k = plc H s → nlt h.name s = false) := by
  induction H with
  | nil => intro k h hk; simp at hk
  | cons x H ih =>
    intro k h hk
    unfold plc at ih ⊢
    rw [List.takeWhile_cons]
    by_cases hx : nlt x.name s = true
    · rw [if_pos hx, List.length_cons]
      cases k with
      | zero => obtain rfl : x = h := by simpa using hk
                exact ⟨fun _ => hx, fun h => by omega⟩
      | succ k =>
        obtain ⟨h1, h2⟩ := ih k h (by simpa using hk)
        exact ⟨fun h => h1 (by omega), fun h => h2 (by omega)⟩
    · rw [if_neg hx]
      refine ⟨fun h => by simp at h, fun hk0 => ?_⟩
      subst hk0
      obtain rfl : x = h := by simpa using hk
      simpa using hx
theorem plc_of {H : List Hd} {s : ByteArray} {k : Nat} (hk : k ≤ H.length) (h1 : ∀ j h, j < k → H[j]? = some h → nlt h.name s = true) (h2 : ∀ h, H[k]? = some h → nlt h.name s = false) : plc H s = k := by
  have hle := plc_le H s
  rcases Nat.lt_trichotomy (plc H s) k with h | h | h
  · have hl : plc H s < H.length := by omega
    have e := (plc_at H s _ _ (List.getElem?_eq_getElem hl)).2 rfl
    rw [h1 _ _ h (List.getElem?_eq_getElem hl)] at e
    cases e
  · exact h
  · have hl : k < H.length := by omega
    have e := (plc_at H s _ _ (List.getElem?_eq_getElem hl)).1 h
    rw [h2 _ (List.getElem?_eq_getElem hl)] at e
    cases e
/-- Is the name at its place? -/
def hasN (H : List Hd) (s : ByteArray) : Bool := H[plc H s]?.any fun h => decide (h.name = s)
/-- Before the place all are lesser, behind it all are greater but for the name itself. -/
theorem asc_before {H : List Hd} {s : ByteArray} : ∀ x ∈ H.take (plc H s), nlt x.name s = true := by
  intro x hx
  obtain ⟨k, hk⟩ := List.getElem?_of_mem hx
  have hl := (List.getElem?_eq_some_iff.1 hk).1
  rw [List.length_take] at hl
  rw [List.getElem?_take_of_lt (by omega)] at hk
  exact (plc_at H s k x hk).1 (by omega)
theorem asc_behind {H : List Hd} (ha : Asc H) {s : ByteArray} : ∀ x ∈ H.drop (plc H s), nlt x.name s = false := by
  intro x hx
  obtain ⟨k, hk⟩ := List.getElem?_of_mem hx
  rw [List.getElem?_drop] at hk
  have hl := (List.getElem?_eq_some_iff.1 hk).1
  have h0 := (plc_at H s _ _ (List.getElem?_eq_getElem (show plc H s < H.length by omega))).2 rfl
  by_cases hk0 : k = 0
  · subst hk0
    exact (plc_at H s _ _ hk).2 (by omega)
  · have hp := List.pairwise_iff_getElem.1 ha (plc H s) (plc H s + k) (by omega) hl (by omega)
    rw [(List.getElem?_eq_some_iff.1 hk).2] at hp
    rcases h : nlt x.name s with _ | _
    · rfl
    · rw [nlt_trans hp h] at h0; cases h0
theorem asc_behind1 {H : List Hd} (ha : Asc H) {s : ByteArray} (hh : hasN H s = true) : ∀ x ∈ H.drop (plc H s + 1), nlt s x.name = true := by
  intro x hx
  obtain ⟨k, hk⟩ := List.getElem?_of_mem hx
  rw [List.getElem?_drop] at hk
  have hl := (List.getElem?_eq_some_iff.1 hk).1
  have hp := List.pairwise_iff_getElem.1 ha (plc H s) (plc H s + 1 + k) (by omega) hl (by omega)
  unfold hasN at hh
  rw [List.getElem?_eq_getElem (show plc H s < H.length by omega)] at hh
  rw [(List.getElem?_eq_some_iff.1 hk).2] at hp
  have : H[plc H s].name = s := by simpa using hh
  rw [this] at hp
  exact hp
theorem asc_hasnt {H : List Hd} (ha : Asc H) {s : ByteArray} (hh : hasN H s = false) : ∀ x ∈ H.drop (plc H s), nlt s x.name = true := by
  intro x hx
  have h1 := asc_behind ha x hx
  obtain ⟨k, hk⟩ := List.getElem?_of_mem hx
  rw [List.getElem?_drop] at hk
  have hl := (List.getElem?_eq_some_iff.1 hk).1
  unfold hasN at hh
  rw [List.getElem?_eq_getElem (show plc H s < H.length by omega)] at hh
  have hne : H[plc H s].name ≠ s := by simpa using hh
  have h0 := (plc_at H s _ _ (List.getElem?_eq_getElem (show plc H s < H.length by omega))).2 rfl
  have h3 : nlt s H[plc H s].name = true := by
    rcases h : nlt s H[plc H s].name with _ | _
    · exact absurd (nlt_tri h0 h) hne
    · rfl
  by_cases hk0 : k = 0
  · subst hk0
    have e := (List.getElem?_eq_some_iff.1 hk).2
    simp only [Nat.add_zero] at e
    rw [← e]
    exact h3
  · have hp := List.pairwise_iff_getElem.1 ha (plc H s) (plc H s + k) (by omega) hl (by omega)
    rw [(List.getElem?_eq_some_iff.1 hk).2] at hp
    exact nlt_trans h3 hp
theorem ne_of_nlt {a b : ByteArray} (h : nlt a b = true) : a ≠ b := fun e => by subst e; rw [nlt_irrefl] at h; cases h
/-- The table has the name just if the list has it at its place. -/
theorem HT.has {H : List Hd} {T : ByteArray → Option Int} (h : HT H T) (s : ByteArray) : (T s).isSome = hasN H s := by
  rcases hn : hasN H s with _ | _
  · rcases hT : T s with _ | t
    · rfl
    · have hm := (h.mem s t).1 hT
      rw [← List.take_append_drop (plc H s) H, List.mem_append] at hm
      rcases hm with hm | hm
      · exact absurd rfl (ne_of_nlt (asc_before _ hm))
      · exact absurd rfl (ne_of_nlt (asc_hasnt h.asc hn _ hm))
  · unfold hasN at hn
    rcases hx : H[plc H s]? with _ | x
    · rw [hx] at hn; cases hn
    · rw [hx] at hn
      have hxs : x.name = s := by simpa using hn
      have hm := List.mem_of_getElem? hx
      have := (h.mem s x.tm).2 (by rw [← hxs]; exact hm)
      rw [this]; rfl
/-- What Free leaves. -/
def frH (H : List Hd) (s : ByteArray) : List Hd := if hasN H s then H.take (plc H s) ++ H.drop (plc H s + 1) else H
theorem HT.freed {H : List Hd} {T : ByteArray → Option Int} (h : HT H T) (s : ByteArray) : HT (frH H s) (updT T s none) := by
  unfold frH
  rcases hn : hasN H s with _ | _
  · have hT : T s = none := by have := h.has s; rw [hn] at this; simpa using this
    rw [if_neg (by simp), updT_id hT]
    exact h
  · rw [if_pos rfl]
    have hsub : (H.take (plc H s) ++ H.drop (plc H s + 1)).Sublist H := by
      have e : H.take (plc H s) ++ H.drop (plc H s) = H := List.take_append_drop _ _
      refine List.Sublist.trans (List.Sublist.append_left ?_ _) (by rw [e]; exact List.Sublist.refl _)
      rw [← List.drop_drop]
      exact List.drop_sublist 1 _
    refine ⟨h.asc.sublist hsub, fun u t => ?_⟩
    by_cases hu : u = s
    · subst hu
      rw [updT_same]
      refine ⟨fun e => (by cases e), fun hm => ?_⟩
      rcases List.mem_append.1 hm with hm | hm
      · exact absurd rfl (ne_of_nlt (asc_before _ hm))
      · exact absurd rfl (ne_of_nlt (asc_behind1 h.asc hn _ hm))
    · rw [updT_ne _ _ hu, h.mem]
      refine ⟨fun hm => ?_, fun hm => hsub.subset hm⟩
      rw [← List.take_append_drop (plc H s) H, List.mem_append] at hm
      rw [List.mem_append]
      rcases hm with hm | hm
      · exact .inl hm
      · right
        obtain ⟨x, hx⟩ : ∃ x, H[plc H s]? = some x := by
          unfold hasN at hn
          rcases hx : H[plc H s]? with _ | x
          · rw [hx] at hn; cases hn
          · exact ⟨x, rfl⟩
        have hxs : x.name = s := by unfold hasN at hn; rw [hx] at hn; simpa using hn
        rw [List.drop_eq_getElem_cons (List.getElem?_eq_some_iff.1 hx).1, (List.getElem?_eq_some_iff.1 hx).2] at hm
        rcases List.mem_cons.1 hm with hm | hm
        · exact absurd (by rw [← hxs, ← hm]) hu
        · exact hm
theorem frH_hasnt {H : List Hd} {T : ByteArray → Option Int} (h : HT H T) (s : ByteArray) : hasN (frH H s) s = false := by
  have := (h.freed s).has s
  rw [updT_same] at this
  exact this.symm
theorem frH_length {H : List Hd} (s : ByteArray) : (frH H s).length ≤ H.length := by
  unfold frH; split
  · rw [List.length_append, List.length_take, List.length_drop]; omega
  · exact Nat.le_refl _
/-- What Hold leaves. -/
def hoH (H : List Hd) (s : ByteArray) (t : Int) : List Hd := (frH H s).take (plc (frH H s) s) ++ [⟨s, t⟩] ++ (frH H s).drop (plc (frH H s) s)
theorem hoH_length {H : List Hd} (s : ByteArray) (t : Int) : (hoH H s t).length ≤ H.length + 1 := by
  have := frH_length (H := H) s
  have := plc_le (frH H s) s
  unfold hoH
  rw [List.length_append, List.length_append, List.length_take, List.length_drop]; simp; omega
theorem HT.held {H : List Hd} {T : ByteArray → Option Int} (h : HT H T) (s : ByteArray) (t : Int) : HT (hoH H s t) (updT T s (some t)) := by
  have hf := h.freed s
  have hn := frH_hasnt h s
  unfold hoH
  generalize frH H s = F at *
  refine ⟨?_, fun u x => ?_⟩
  · have hp := hf.asc
    unfold Asc at hp ⊢
    rw [← List.take_append_drop (plc F s) F, List.pairwise_append] at hp
    rw [List.append_assoc, List.pairwise_append]
    refine ⟨hp.1, List.pairwise_cons.2 ⟨fun y hy => asc_hasnt hf.asc hn y hy, hp.2.1⟩, fun a ha b hb => ?_⟩
    rcases List.mem_cons.1 hb with rfl | hb
    · exact asc_before _ ha
    · exact hp.2.2 a ha b hb
  · have hm := hf.mem u x
    have hsp : (⟨u, x⟩ : Hd) ∈ F ↔ (⟨u, x⟩ : Hd) ∈ F.take (plc F s) ∨ (⟨u, x⟩ : Hd) ∈ F.drop (plc F s) := by
      rw [← List.mem_append, List.take_append_drop]
    by_cases hu : u = s
    · subst hu
      rw [updT_same] at hm ⊢
      rw [hsp] at hm
      simp only [List.mem_append, List.mem_singleton, Hd.mk.injEq, Option.some.injEq, true_and]
      constructor
      · rintro rfl; exact .inl (.inr rfl)
      · rintro ((h1 | h1) | h1)
        · exact absurd (hm.2 (.inl h1)) (by simp)
        · exact h1.symm
        · exact absurd (hm.2 (.inr h1)) (by simp)
    · rw [updT_ne _ _ hu] at hm ⊢
      rw [hm, hsp]
      simp only [List.mem_append, List.mem_singleton, Hd.mk.injEq, hu, false_and, or_false]
/-- The first hold, by what it is. -/
def bsF (H : List Hd) (b : Hd) (k : Nat) : Prop := b ∈ H ∧ ∀ j x, j < k → H[j]? = some x → ¬ (x.tm < b.tm ∨ x.tm = b.tm ∧ nlt x.name b.name = true)
theorem IsFirst.uniq {n : Nat} {T : ByteArray → Option Int} {s s' : ByteArray} {t t' : Int} {b b' : Bool} (h : IsFirst n T s t b) (h' : IsFirst n T s' t' b') : s = s' ∧ t = t' ∧ b = b' := by
  rcases h with ⟨h0, rfl, rfl, rfl⟩ | ⟨h0, rfl, h1, h2⟩ <;> rcases h' with ⟨k0, rfl, rfl, rfl⟩ | ⟨k0, rfl, k1, k2⟩
  · exact ⟨rfl, rfl, rfl⟩
  · omega
  · omega
  · have a1 := h2 _ _ k1
    have a2 := k2 _ _ h1
    have et : t = t' := by
      by_cases e1 : t' < t
      · exact absurd (.inl e1) a1
      · by_cases e2 : t < t'
        · exact absurd (.inl e2) a2
        · omega
    subst et
    refine ⟨nlt_tri ?_ ?_, rfl, rfl⟩
    · rcases hb : nlt s s' with _ | _
      · rfl
      · exact absurd (.inr ⟨rfl, hb⟩) a2
    · rcases hb : nlt s' s with _ | _
      · rfl
      · exact absurd (.inr ⟨rfl, hb⟩) a1
theorem HT.first {H : List Hd} {T : ByteArray → Option Int} (h : HT H T) {b : Hd} (hb : bsF H b H.length) : IsFirst H.length T b.name b.tm true := by
  have h0 : 0 < H.length := List.length_pos_of_mem hb.1
  refine .inr ⟨h0, rfl, (h.mem _ _).2 hb.1, fun s' t' hT => ?_⟩
  obtain ⟨k, hk⟩ := List.getElem?_of_mem ((h.mem _ _).1 hT)
  exact hb.2 k _ (List.getElem?_eq_some_iff.1 hk).1 hk
/-- A round of First. -/
theorem bsF_step {H : List Hd} (ha : Asc H) {b x : Hd} {k : Nat} (hb : bsF H b k) (hx : H[k]? = some x) (hbk : ∃ j, j ≤ k ∧ H[j]? = some b) : bsF H (if x.tm < b.tm then x else b) (k + 1) ∧ ∃ j, j ≤ k + 1 ∧ H[j]? = some (if x.tm < b.tm then x else b) := by
  obtain ⟨j0, hj0, hbj⟩ := hbk
  by_cases hlt : x.tm < b.tm
  · rw [if_pos hlt]
    refine ⟨⟨List.mem_of_getElem? hx, fun j y hj hy => ?_⟩, k, by omega, hx⟩
    by_cases hjk : j = k
    · subst hjk
      rw [hx] at hy; cases hy
      rintro (h | ⟨-, h⟩)
      · omega
      · rw [nlt_irrefl] at h; cases h
    · have := hb.2 j y (by omega) hy
      rintro (h | ⟨h, -⟩)
      · exact this (.inl (by omega))
      · exact this (.inl (by omega))
  · rw [if_neg hlt]
    refine ⟨⟨hb.1, fun j y hj hy => ?_⟩, j0, by omega, hbj⟩
    by_cases hjk : j = k
    · subst hjk
      rw [hx] at hy; cases hy
      rintro (h | ⟨h, h'⟩)
      · exact hlt h
      · by_cases e : j0 = j
        · subst e
          rw [hx] at hbj; cases hbj
          rw [nlt_irrefl] at h'; cases h'
        · have hl := (List.getElem?_eq_some_iff.1 hx)
          have hl0 := (List.getElem?_eq_some_iff.1 hbj)
          have := List.pairwise_iff_getElem.1 ha j0 j hl0.1 hl.1 (by omega)
          rw [hl0.2, hl.2] at this
          rw [nlt_asymm this] at h'; cases h'
    · exact hb.2 j y (by omega) hy
end Go.Proofs.Ytdndljbagjfkkaa
