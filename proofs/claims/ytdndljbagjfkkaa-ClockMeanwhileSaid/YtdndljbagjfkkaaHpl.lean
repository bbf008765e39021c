/- Heaps, plainly: a row of places, one of them out of order. -/
import Derived.Test.YtdndljbagjfkkaaRows
namespace Go.Proofs.Ytdndljbagjfkkaa
namespace Hp

/-- A strict order on what stands in the row. -/
structure Ord (lt : Nat → Nat → Prop) : Prop where
  asymm : ∀ a b, lt a b → ¬ lt b a
  trans : ∀ a b c, lt a b → lt b c → lt a c
  neg : ∀ a b c, ¬ lt b a → ¬ lt c b → ¬ lt c a
def sw (f : Nat → Nat) (i j k : Nat) : Nat := if k = i then f j else if k = j then f i else f k
/-- The place k is in order with the one above it. -/
def ok (lt : Nat → Nat → Prop) (f : Nat → Nat) (k : Nat) : Prop := ¬ lt (f k) (f ((k - 1) / 2))
def Heap (lt : Nat → Nat → Prop) (n : Nat) (f : Nat → Nat) : Prop := ∀ k, 0 < k → k < n → ok lt f k
/-- All is in order but at i. -/
structure Fl (lt : Nat → Nat → Prop) (n : Nat) (f : Nat → Nat) (i : Nat) : Prop where
  far : ∀ k, 0 < k → k < n → k ≠ i → (k - 1) / 2 ≠ i → ok lt f k
  kin : ∀ k, 0 < k → k < n → (k - 1) / 2 = i → 0 < i → ¬ lt (f k) (f ((i - 1) / 2))
/-- What stands below i is in order with it. -/
def Kids (lt : Nat → Nat → Prop) (n : Nat) (f : Nat → Nat) (i : Nat) : Prop := ∀ k, 0 < k → k < n → (k - 1) / 2 = i → ok lt f k

variable {lt : Nat → Nat → Prop} {n : Nat} {f : Nat → Nat} {i j : Nat}
theorem Heap.fl (h : Heap lt n f) (O : Ord lt) (i : Nat) : Fl lt n f i :=
  ⟨fun k h0 h1 _ _ => h k h0 h1, fun k h0 h1 h2 h3 => by
    have a := h k h0 h1
    have b := h i h3 (by omega)
    unfold ok at a b
    rw [h2] at a
    exact O.neg _ _ _ b a⟩
theorem sw_i (f : Nat → Nat) (i j : Nat) : sw f i j i = f j := by simp [sw]
theorem sw_j (f : Nat → Nat) (i j : Nat) : sw f i j j = f i := by unfold sw; split <;> simp_all
theorem sw_k (f : Nat → Nat) {i j k : Nat} (h1 : k ≠ i) (h2 : k ≠ j) : sw f i j k = f k := by simp [sw, h1, h2]
/-- Another thing at i: all else is in order. -/
theorem Fl.congr {f' : Nat → Nat} (h : Fl lt n f i) (hf : ∀ k, k ≠ i → k < n → f' k = f k) (hi : i < n) : Fl lt n f' i :=
  ⟨fun k h0 h1 h2 h3 => by unfold ok; rw [hf k h2 h1, hf _ h3 (by omega)]; exact h.far k h0 h1 h2 h3,
   fun k h0 h1 h2 h3 => by rw [hf k (by omega) h1, hf _ (by omega) (by omega)]; exact h.kin k h0 h1 h2 h3⟩
/-- A step up. -/
theorem up_step (O : Ord lt) (h : Fl lt n f j) (hj : 0 < j) (hjn : j < n) (hl : lt (f j) (f ((j - 1) / 2))) :
    Fl lt n (sw f ((j - 1) / 2) j) ((j - 1) / 2) ∧ Kids lt n (sw f ((j - 1) / 2) j) ((j - 1) / 2) := by
  obtain ⟨i, hi⟩ : ∃ i, (j - 1) / 2 = i := ⟨_, rfl⟩
  rw [hi] at hl ⊢
  have hij : i ≠ j := by omega
  have sib : ∀ s, 0 < s → s < n → (s - 1) / 2 = i → s ≠ j → ¬ lt (f s) (f i) := fun s h0 h1 h2 h3 => by
    have := h.far s h0 h1 h3 (by omega)
    unfold ok at this
    rwa [h2] at this
  have top : 0 < i → ¬ lt (f i) (f ((i - 1) / 2)) := fun h0 => h.far i h0 (by omega) hij (by omega)
  refine ⟨⟨fun k h0 h1 h2 h3 => ?_, fun k h0 h1 h2 h3 => ?_⟩, fun k h0 h1 h2 => ?_⟩
  · unfold ok
    have hkj : k ≠ j := fun e => h3 (by rw [e]; exact hi)
    rw [sw_k f h2 hkj]
    by_cases hp : (k - 1) / 2 = j
    · rw [hp, sw_j]
      have := h.kin k h0 h1 hp hj
      rwa [hi] at this
    · rw [sw_k f h3 hp]
      exact h.far k h0 h1 hkj hp
  · rw [sw_k f (i := i) (j := j) (k := (i - 1) / 2) (by omega) (by omega)]
    by_cases hkj : k = j
    · rw [hkj, sw_j]; exact top h3
    · rw [sw_k f (by omega) hkj]
      exact O.neg _ _ _ (top h3) (sib k h0 h1 h2 hkj)
  · unfold ok
    rw [h2, sw_i]
    by_cases hkj : k = j
    · rw [hkj, sw_j]; exact O.asymm _ _ hl
    · rw [sw_k f (by omega) hkj]
      exact fun hlt => sib k h0 h1 h2 hkj (O.trans _ _ _ hlt hl)
theorem up_end (h : Fl lt n f j) (hk : Kids lt n f j) (hl : j = 0 ∨ ¬ lt (f j) (f ((j - 1) / 2))) : Heap lt n f := fun k h0 h1 => by
  by_cases h2 : k = j
  · subst h2
    rcases hl with h | h
    · omega
    · exact h
  · by_cases h3 : (k - 1) / 2 = j
    · exact hk k h0 h1 h3
    · exact h.far k h0 h1 h2 h3
/-- A step down, to the lesser of those below. -/
theorem down_step (O : Ord lt) (h : Fl lt n f i) (hj : 0 < j) (hjn : j < n) (hji : (j - 1) / 2 = i) (hl : lt (f j) (f i)) (hb : ∀ s, 0 < s → s < n → (s - 1) / 2 = i → s ≠ j → ¬ lt (f s) (f j)) :
    Fl lt n (sw f i j) j ∧ ok lt (sw f i j) j := by
  have hij : i ≠ j := by omega
  refine ⟨⟨fun k h0 h1 h2 h3 => ?_, fun k h0 h1 h2 _ => ?_⟩, ?_⟩
  · unfold ok
    by_cases hki : k = i
    · subst hki
      rw [sw_i, sw_k f (i := k) (j := j) (k := (k - 1) / 2) (by omega) (by omega)]
      exact h.kin j hj hjn hji h0
    · rw [sw_k f hki h2]
      by_cases hp : (k - 1) / 2 = i
      · rw [hp, sw_i]; exact hb k h0 h1 hp h2
      · rw [sw_k f hp h3]; exact h.far k h0 h1 hki hp
  · rw [hji, sw_i, sw_k f (k := k) (by omega) (by omega)]
    have := h.far k h0 h1 (by omega) (by omega)
    unfold ok at this
    rwa [h2] at this
  · unfold ok
    rw [sw_j, hji, sw_i]
    exact O.asymm _ _ hl
theorem down_kids (hb : ∀ s, 0 < s → s < n → (s - 1) / 2 = i → ¬ lt (f s) (f i)) : Kids lt n f i := fun k h0 h1 h2 => by
  unfold ok
  rw [h2]
  exact hb k h0 h1 h2
theorem Heap.of_ok (h : Fl lt n f i) (hk : Kids lt n f i) (ho : 0 < i → ok lt f i) : Heap lt n f :=
  up_end h hk (by rcases Nat.eq_zero_or_pos i with h0 | h0; exact .inl h0; exact .inr (ho h0))
/-- The first is the least. -/
theorem Heap.least (h : Heap lt n f) (O : Ord lt) : ∀ k, k < n → ¬ lt (f k) (f 0) := fun k => by
  induction k using Nat.strongRecOn with
  | _ k ih =>
    intro hk
    rcases Nat.eq_zero_or_pos k with h0 | h0
    · subst h0; exact fun h => O.asymm _ _ h h
    · exact O.neg _ _ _ (ih ((k - 1) / 2) (by omega) (by omega)) (h k h0 hk)
/-- One more, at the end. -/
theorem Heap.more (h : Heap lt n f) : Fl lt (n + 1) f n ∧ Kids lt (n + 1) f n :=
  ⟨⟨fun k h0 h1 h2 _ => h k h0 (by omega), fun k h0 h1 h2 _ => by omega⟩, fun k h0 h1 h2 => by omega⟩
theorem Heap.less (h : Heap lt n f) {m : Nat} (hm : m ≤ n) : Heap lt m f := fun k h0 h1 => h k h0 (by omega)
theorem Heap.congr {f' : Nat → Nat} (h : Heap lt n f) (hf : ∀ k, k < n → f' k = f k) : Heap lt n f' := fun k h0 h1 => by
  unfold ok
  rw [hf k h1, hf _ (by omega)]
  exact h k h0 h1
/-- The same things stand in both rows, none twice. -/
structure Same (n : Nat) (f f' : Nat → Nat) : Prop where
  fwd : ∀ k, k < n → ∃ l, l < n ∧ f' l = f k
  bwd : ∀ k, k < n → ∃ l, l < n ∧ f l = f' k
  inj : (∀ k l, k < n → l < n → f k = f l → k = l) → ∀ k l, k < n → l < n → f' k = f' l → k = l
theorem Same.refl (n : Nat) (f : Nat → Nat) : Same n f f := ⟨fun k h => ⟨k, h, rfl⟩, fun k h => ⟨k, h, rfl⟩, fun h => h⟩
theorem Same.trans {f' f'' : Nat → Nat} (h : Same n f f') (k : Same n f' f'') : Same n f f'' :=
  ⟨fun a ha => by
    obtain ⟨b, hb, e⟩ := h.fwd a ha
    obtain ⟨c, hc, e'⟩ := k.fwd b hb
    exact ⟨c, hc, e'.trans e⟩, fun a ha => by
    obtain ⟨b, hb, e⟩ := k.bwd a ha
    obtain ⟨c, hc, e'⟩ := h.bwd b hb
    exact ⟨c, hc, e'.trans e⟩, fun hi => k.inj (h.inj hi)⟩
theorem Same.swap (f : Nat → Nat) (hi : i < n) (hj : j < n) : Same n f (sw f i j) := by
  have key : ∀ k, k < n → ∃ l, l < n ∧ sw f i j l = f k := fun k hk => by
    by_cases h1 : k = i
    · exact ⟨j, hj, by rw [sw_j, h1]⟩
    · by_cases h2 : k = j
      · exact ⟨i, hi, by rw [sw_i, h2]⟩
      · exact ⟨k, hk, sw_k f h1 h2⟩
  refine ⟨key, fun k hk => ?_, fun h k l hk hl e => ?_⟩
  · by_cases h1 : k = i
    · exact ⟨j, hj, by rw [h1, sw_i]⟩
    · by_cases h2 : k = j
      · exact ⟨i, hi, by rw [h2, sw_j]⟩
      · exact ⟨k, hk, (sw_k f h1 h2).symm⟩
  · unfold Hp.sw at e
    by_cases k1 : k = i <;> by_cases l1 : l = i
    · omega
    · simp only [k1, l1, ↓reduceIte] at e
      by_cases l2 : l = j
      · simp only [l2, ↓reduceIte] at e; have := h _ _ hj hi e; omega
      · simp only [l2, ↓reduceIte] at e; have := h _ _ hj hl e; omega
    · simp only [k1, l1, ↓reduceIte] at e
      by_cases k2 : k = j
      · simp only [k2, ↓reduceIte] at e; have := h _ _ hi hj e; omega
      · simp only [k2, ↓reduceIte] at e; have := h _ _ hk hj e; omega
    · simp only [k1, l1, ↓reduceIte] at e
      by_cases k2 : k = j <;> by_cases l2 : l = j
      · omega
      · simp only [k2, l2, ↓reduceIte] at e; have := h _ _ hi hl e; omega
      · simp only [k2, l2, ↓reduceIte] at e; have := h _ _ hk hi e; omega
      · simp only [k2, l2, ↓reduceIte] at e; exact h _ _ hk hl e
end Hp
end Go.Proofs.Ytdndljbagjfkkaa
