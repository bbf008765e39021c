/- Plain laws: what was read, written again, has just the bytes that were read. -/
import Derived.Test.YtaechgnjdjijkaaRis1
namespace Go.Proofs.Ytaechgnjdjijkaa
open Go.RowKit Go.Lib

/-- The bytes of a number that was read, from its i-th on. -/
theorem rdN_again : ∀ (l : List UInt8) (i x : Nat), i ≤ 9 → x < 128 ^ i → (rdN i x l).2.2 = 0 → ∃ y, (rdN i x l).1 = x + y * 128 ^ i ∧ num7 y = l.take ((rdN i x l).2.1 - i) ∧ i < (rdN i x l).2.1 ∧ (0 < i → 0 < y)
  | [], i, x, hi, hx, h => by unfold rdN at h; cases h
  | b :: r, i, x, hi, hx, h => by
    unfold rdN at h ⊢
    split at h
    · cases h
    · rename_i h9
      split at h
      · rename_i hb
        have hi9 : i < 9 := by
          rcases Nat.lt_or_ge i 9 with h' | h'
          · exact h'
          · exact absurd ⟨by omega, by omega⟩ h9
        obtain ⟨y, k1, k2, k3, k4⟩ := rdN_again r (i + 1) (x + b.toNat % 128 * 128 ^ i) (by omega) (or_grow hx) h
        rw [if_neg h9, if_pos hb]
        have hy := k4 (by omega)
        have hbl : b.toNat < 256 := b.toNat_lt
        refine ⟨b.toNat % 128 + 128 * y, ?_, ?_, by omega, fun _ => by omega⟩
        · rw [k1, Nat.pow_succ]
          simp only [Nat.add_mul]
          rw [show 128 * y * 128 ^ i = y * (128 ^ i * 128) by rw [Nat.mul_comm (128 ^ i) 128, ← Nat.mul_assoc, Nat.mul_comm y 128]]
          omega
        · rw [num7_big (by omega), show (b.toNat % 128 + 128 * y) / 128 = y by omega, k2]
          have e : (rdN (i + 1) (x + b.toNat % 128 * 128 ^ i) r).2.1 - i = ((rdN (i + 1) (x + b.toNat % 128 * 128 ^ i) r).2.1 - (i + 1)) + 1 := by omega
          rw [e, List.take_succ_cons]
          congr 1
          rw [show (b.toNat % 128 + 128 * y) % 128 + 128 = b.toNat by omega]
          exact UInt8.ofNat_toNat
      · rename_i hb
        split at h
        · cases h
        · rename_i h0
          rw [if_neg h9, if_neg hb, if_neg h0]
          have hbl : b.toNat < 128 := by omega
          refine ⟨b.toNat, by rw [Nat.mod_eq_of_lt hbl], ?_, by show i < i + 1; omega, fun hp => ?_⟩
          · rw [num7_small hbl, show i + 1 - i = 1 by omega]
            simp only [List.take_succ_cons, List.take_zero]
            congr 1
            exact UInt8.ofNat_toNat
          · rcases Nat.eq_zero_or_pos b.toNat with h' | h'
            · exact absurd ⟨hp, h'⟩ h0
            · exact h'
theorem rdAt_again (bs : List UInt8) (at_ : Nat) (h : (rdAt bs at_).2.2 = 0) : num7 (rdAt bs at_).1 = cut bs at_ (rdAt bs at_).2.1 := by
  obtain ⟨y, h1, h2, _, _⟩ := rdN_again (bs.drop at_) 0 0 (by decide) (by decide) h
  unfold cut
  have e : (rdAt bs at_).1 = y := by unfold rdAt; rw [h1]; simp
  rw [e, h2, Nat.sub_zero, List.drop_take]
  simp [rdAt]
theorem zig_unz (x : Nat) : zig (unz x) = x := by
  unfold unz zig
  split <;> split <;> omega
theorem getD_snoc_lt {l : List Int} {u : Int} {i : Nat} (h : i < l.length) : (l ++ [u]).getD i 0 = l.getD i 0 := by
  rw [List.getD, List.getD, List.getElem?_append_left h]
theorem getD_snoc_eq (l : List Int) (u : Int) : (l ++ [u]).getD l.length 0 = u := by
  rw [List.getD, List.getElem?_append_right (Nat.le_refl _), Nat.sub_self]; rfl
theorem rk_snoc (l : List Int) (u : Int) (k : Nat) (hk : k ≤ l.length) : rk (l ++ [u]) k = rk l k := by
  unfold rk
  rw [List.flatMap_def, List.flatMap_def]
  congr 1
  refine List.map_congr_left fun i hi => ?_
  have hi' : i < k := by simpa using hi
  unfold relt
  by_cases h0 : i = 0
  · subst h0; rw [if_pos rfl, if_pos rfl, getD_snoc_lt (by omega)]
  · rw [if_neg h0, if_neg h0, getD_snoc_lt (by omega), getD_snoc_lt (by omega)]
theorem rises_snoc {l : List Int} {u : Int} (h : Rises l) (hu : 0 < l.length → l.getD (l.length - 1) 0 < u) : Rises (l ++ [u]) := by
  intro i x y h1 h2
  have hl : i + 1 < l.length + 1 := by have := (List.getElem?_eq_some_iff.1 h2).1; simpa using this
  rw [List.getElem?_append_left (by omega)] at h1
  by_cases hi : i + 1 < l.length
  · rw [List.getElem?_append_left hi] at h2
    exact h i x y h1 h2
  · have e : i + 1 = l.length := by omega
    rw [e, List.getElem?_append_right (Nat.le_refl _), Nat.sub_self] at h2
    have hy : y = u := by simpa using h2.symm
    have hx : l.getD (l.length - 1) 0 = x := by rw [List.getD, show l.length - 1 = i by omega, h1]; rfl
    rw [hy, ← hx]
    exact hu (by omega)
theorem cut_add (bs : List UInt8) (a n k : Nat) (h1 : a + n ≤ k) : cut bs a n ++ (bs.take k).drop (a + n) = (bs.take k).drop a := by
  unfold cut
  have e : (bs.take (a + n)).drop a = ((bs.take k).drop a).take n := by
    rw [List.take_drop, List.take_take, Nat.min_eq_left h1]
  have e2 : (bs.take k).drop (a + n) = ((bs.take k).drop a).drop n := by rw [List.drop_drop]
  rw [e, e2, List.take_append_drop]
theorem rgL_again (bs : List UInt8) : ∀ (n at_ : Nat) (out : List Int), (rgL bs n at_ out).2.2 = 0 → at_ ≤ bs.length → (∀ a ∈ out, I64 a) → Rises out →
    (rgL bs n at_ out).1.length = out.length + n ∧ at_ ≤ (rgL bs n at_ out).2.1 ∧ (rgL bs n at_ out).2.1 ≤ bs.length ∧ Rises (rgL bs n at_ out).1 ∧ (∀ a ∈ (rgL bs n at_ out).1, I64 a) ∧
    rk (rgL bs n at_ out).1 (out.length + n) = rk out out.length ++ (bs.take (rgL bs n at_ out).2.1).drop at_
  | 0, at_, out, h, hat, hI, hR => by
    unfold rgL
    refine ⟨rfl, Nat.le_refl _, hat, hR, hI, ?_⟩
    show rk out out.length = rk out out.length ++ (bs.take at_).drop at_
    rw [List.drop_eq_nil_of_le (by simp; omega), List.append_nil]
  | n + 1, at_, out, h, hat, hI, hR => by
    unfold rgL at h ⊢
    obtain ⟨hlt, hle, -, -⟩ := rdAt_facts bs at_ hat
    split at h
    · rename_i hz; exact absurd h hz
    · rename_i hz
      have hz' : (rdAt bs at_).2.2 = 0 := Classical.not_not.1 hz
      have hag := rdAt_again bs at_ hz'
      rw [if_neg hz]
      have go : ∀ u : Int, I64 u → (0 < out.length → out.getD (out.length - 1) 0 < u) → relt (out ++ [u]) out.length = num7 (rdAt bs at_).1 → (rgL bs n (at_ + (rdAt bs at_).2.1) (out ++ [u])).2.2 = 0 →
          (rgL bs n (at_ + (rdAt bs at_).2.1) (out ++ [u])).1.length = out.length + (n + 1) ∧ at_ ≤ (rgL bs n (at_ + (rdAt bs at_).2.1) (out ++ [u])).2.1 ∧ (rgL bs n (at_ + (rdAt bs at_).2.1) (out ++ [u])).2.1 ≤ bs.length ∧ Rises (rgL bs n (at_ + (rdAt bs at_).2.1) (out ++ [u])).1 ∧ (∀ a ∈ (rgL bs n (at_ + (rdAt bs at_).2.1) (out ++ [u])).1, I64 a) ∧
          rk (rgL bs n (at_ + (rdAt bs at_).2.1) (out ++ [u])).1 (out.length + (n + 1)) = rk out out.length ++ (bs.take (rgL bs n (at_ + (rdAt bs at_).2.1) (out ++ [u])).2.1).drop at_ := by
        intro u hu hup hrel h'
        obtain ⟨k1, k2, k3, k4, k5, k6⟩ := rgL_again bs n (at_ + (rdAt bs at_).2.1) (out ++ [u]) h' hle (fun a ha => by
          rcases List.mem_append.1 ha with h1 | h1
          · exact hI a h1
          · simp only [List.mem_singleton] at h1; subst h1; exact hu) (rises_snoc hR hup)
        have hl : (out ++ [u]).length = out.length + 1 := by simp
        rw [hl] at k1 k6
        refine ⟨by omega, by omega, k3, k4, k5, ?_⟩
        rw [show out.length + (n + 1) = out.length + 1 + n by omega, k6, rk_succ, rk_snoc out u _ (Nat.le_refl _), hrel, hag, List.append_assoc, cut_add bs at_ _ _ k2]
      split at h
      · rename_i h0
        rw [if_pos h0]
        refine go _ (unz_I64 hlt) (fun hp => by omega) ?_ h
        unfold relt
        rw [if_pos h0, show ((out ++ [unz (rdAt bs at_).1]).getD 0 0) = unz (rdAt bs at_).1 by have := getD_snoc_eq out (unz (rdAt bs at_).1); rwa [h0] at this, zig_unz]
      · rename_i h0
        split at h
        · cases h
        · rename_i hbig
          rw [if_neg h0, if_neg hbig]
          obtain ⟨last, hlast⟩ : ∃ last, out[out.length - 1]? = some last := ⟨_, List.getElem?_eq_getElem (by omega)⟩
          have hgd : out.getD (out.length - 1) 0 = last := by rw [List.getD, hlast]; rfl
          have hlr := hI last (List.mem_of_getElem? hlast)
          rw [hgd] at hbig h ⊢
          have h1 := hlr.1
          refine go _ ⟨by omega, by omega⟩ (fun _ => by rw [hgd]; omega) ?_ h
          unfold relt
          rw [if_neg h0, getD_snoc_eq, getD_snoc_lt (by omega), hgd]
          congr 1
          omega
/-- A text that was read, written again. -/
theorem text_again (bs : List UInt8) (m at_ : Nat) (hat : at_ ≤ bs.length) (h : txE m bs at_ = 0) :
    at_ + (rdAt bs at_).2.1 + (rdAt bs at_).1 ≤ bs.length ∧ num7 (rdAt bs at_).1 ++ cut bs (at_ + (rdAt bs at_).2.1) (rdAt bs at_).1 = (bs.take (at_ + (rdAt bs at_).2.1 + (rdAt bs at_).1)).drop at_ ∧ (rdAt bs at_).1 ≤ m := by
  obtain ⟨hlt, hle, -, -⟩ := rdAt_facts bs at_ hat
  unfold txE at h
  by_cases h0 : hdE m (rdAt bs at_) = 0
  · rw [if_pos h0] at h
    obtain ⟨hz, hm⟩ : (rdAt bs at_).2.2 = 0 ∧ (rdAt bs at_).1 ≤ m := by
      unfold hdE at h0
      rcases Nat.decEq (rdAt bs at_).2.2 0 with h | h
      · rw [if_neg h] at h0; exact absurd h0 h
      · rw [if_pos h] at h0
        rcases Nat.lt_or_ge m (rdAt bs at_).1 with k | k
        · rw [if_pos k] at h0; cases h0
        · exact ⟨h, k⟩
    have hx : at_ + (rdAt bs at_).2.1 + (rdAt bs at_).1 ≤ bs.length := by
      rcases Nat.lt_or_ge (bs.length - (at_ + (rdAt bs at_).2.1)) (rdAt bs at_).1 with h' | h'
      · rw [if_pos h'] at h; cases h
      · omega
    refine ⟨hx, ?_, hm⟩
    rw [rdAt_again bs at_ hz]
    exact cut_add bs at_ _ _ (by omega)
  · rw [if_neg h0] at h; exact absurd h h0
end Go.Proofs.Ytaechgnjdjijkaa
