/- Plain laws: what was written is read. -/
import Derived.Test.YtaechgnjdjijkaaPlain
namespace Go.Proofs.Ytaechgnjdjijkaa
open Go.RowKit Go.Lib

theorem rdN_num7 : ∀ (n y : Nat), y < n → ∀ (i x : Nat) (post : List UInt8), i ≤ 9 → y * 128 ^ i < 18446744073709551616 → (0 < i → 0 < y) → rdN i x (num7 y ++ post) = (x + y * 128 ^ i, i + (num7 y).length, 0)
  | 0, y, h, _, _, _, _, _, _ => by omega
  | n + 1, y, h, i, x, post, hi, hy, hp => by
    by_cases hs : y < 128
    · rw [num7_small hs]
      show rdN i x (UInt8.ofNat y :: post) = _
      have hb : (UInt8.ofNat y).toNat = y := by rw [UInt8.toNat_ofNat']; exact Nat.mod_eq_of_lt (by omega)
      unfold rdN
      rw [hb]
      have h9 : ¬ (i = 9 ∧ y ≠ 1) := by
        rintro ⟨rfl, h1⟩
        have := hp (by decide)
        have e : (128 : Nat) ^ 9 = 9223372036854775808 := by decide
        rw [e] at hy
        omega
      rw [if_neg h9, if_neg (by omega), if_neg (by rintro ⟨a, b⟩; have := hp a; omega), Nat.mod_eq_of_lt hs]
      simp
    · rw [num7_big hs]
      show rdN i x (UInt8.ofNat (y % 128 + 128) :: (num7 (y / 128) ++ post)) = _
      have hb : (UInt8.ofNat (y % 128 + 128)).toNat = y % 128 + 128 := by rw [UInt8.toNat_ofNat']; exact Nat.mod_eq_of_lt (by omega)
      have hi9 : i < 9 := by
        rcases Nat.lt_or_ge i 9 with h' | h'
        · exact h'
        · have e9 : i = 9 := by omega
          subst e9
          have e : (128 : Nat) ^ 9 = 9223372036854775808 := by decide
          rw [e] at hy
          omega
      have hle : y / 128 * 128 ^ (i + 1) ≤ y * 128 ^ i := by
        rw [Nat.pow_succ, Nat.mul_comm (128 ^ i) 128, ← Nat.mul_assoc]
        exact Nat.mul_le_mul_right _ (Nat.div_mul_le_self y 128)
      unfold rdN
      rw [hb, if_neg (by omega), if_pos (by omega), rdN_num7 n (y / 128) (by omega) (i + 1) _ post (by omega) (by omega) (fun _ => by omega)]
      simp only [List.length_cons]
      refine Prod.ext ?_ (Prod.ext ?_ rfl)
      · show x + (y % 128 + 128) % 128 * 128 ^ i + y / 128 * 128 ^ (i + 1) = x + y * 128 ^ i
        rw [show (y % 128 + 128) % 128 = y % 128 by omega, Nat.pow_succ, Nat.mul_comm (128 ^ i) 128, ← Nat.mul_assoc, Nat.add_assoc, ← Nat.add_mul]
        congr 2
        omega
      · show i + 1 + (num7 (y / 128)).length = i + ((num7 (y / 128)).length + 1)
        omega
theorem rdAt_num7 (pre post : List UInt8) (x : Nat) (hx : x < 18446744073709551616) : rdAt (pre ++ (num7 x ++ post)) pre.length = (x, (num7 x).length, 0) := by
  unfold rdAt
  rw [List.drop_left, rdN_num7 (x + 1) x (by omega) 0 0 post (by decide) (by simpa using hx) (fun h => by omega)]
  simp
theorem cut_mid (pre b post : List UInt8) : cut (pre ++ (b ++ post)) pre.length b.length = b := by
  unfold cut
  rw [List.drop_take, List.drop_left, Nat.add_sub_cancel_left, List.take_left]
theorem unz_zig (x : Int) : unz (zig x) = x := by
  unfold unz zig
  split <;> split <;> omega
theorem hdE_le (m x n : Nat) (h : x ≤ m) : hdE m (x, n, 0) = 0 := by
  show (if (0 : Nat) = 0 then (if m < x then 3 else 0) else 0) = 0
  rw [if_pos rfl, if_neg (by omega)]
theorem text_back (pre post : List UInt8) (s : ByteArray) (m : Nat) (hm : s.size ≤ m) (hs : s.size < 18446744073709551616) :
    txE m (pre ++ ((num7 s.size ++ s.data.toList) ++ post)) pre.length = 0 ∧ (rdAt (pre ++ ((num7 s.size ++ s.data.toList) ++ post)) pre.length) = (s.size, (num7 s.size).length, 0) ∧
    (⟨(cut (pre ++ ((num7 s.size ++ s.data.toList) ++ post)) (pre.length + (num7 s.size).length) s.size).toArray⟩ : ByteArray) = s := by
  have hr : rdAt (pre ++ ((num7 s.size ++ s.data.toList) ++ post)) pre.length = (s.size, (num7 s.size).length, 0) := by
    rw [List.append_assoc]; exact rdAt_num7 pre _ s.size hs
  have hl : s.data.toList.length = s.size := by simp
  refine ⟨?_, hr, ?_⟩
  · unfold txE
    rw [hr, hdE_le _ _ _ hm, if_pos rfl, if_neg]
    simp only [List.length_append, hl]
    omega
  · have e : pre ++ ((num7 s.size ++ s.data.toList) ++ post) = (pre ++ num7 s.size) ++ (s.data.toList ++ post) := by simp
    have hc := cut_mid (pre ++ num7 s.size) s.data.toList post
    rw [List.length_append, hl, ← e] at hc
    rw [hc]
def rkF (l : List Int) : Nat → Nat → List UInt8
  | 0, _ => []
  | j + 1, k => relt l k ++ rkF l j (k + 1)
theorem rk_rkF (l : List Int) : ∀ (j k : Nat), rk l (k + j) = rk l k ++ rkF l j k
  | 0, k => by simp [rkF]
  | j + 1, k => by
    rw [show k + (j + 1) = (k + 1) + j by omega, rk_rkF l j (k + 1), rk_succ, rkF, List.append_assoc]
theorem rgL_back (l : List Int) (hI : ∀ a ∈ l, I64 a) (hR : Rises l) : ∀ (j k : Nat) (pre post : List UInt8), k + j = l.length → rgL (pre ++ (rkF l j k ++ post)) j pre.length (l.take k) = (l, pre.length + (rkF l j k).length, 0)
  | 0, k, pre, post, h => by
    have e : l.take k = l := by rw [List.take_of_length_le (by omega)]
    rw [rgL, e]
    rfl
  | j + 1, k, pre, post, h => by
    obtain ⟨x, hx⟩ : ∃ x, l[k]? = some x := ⟨_, List.getElem?_eq_getElem (by omega)⟩
    have hxr := hI x (List.mem_of_getElem? hx)
    have htl : (l.take k).length = k := by rw [List.length_take]; omega
    have hsn : l.take k ++ [x] = l.take (k + 1) := by
      rw [List.take_add_one, hx]; rfl
    have key : ∀ y : Nat, y < 18446744073709551616 → relt l k = num7 y → rdAt (pre ++ (rkF l (j + 1) k ++ post)) pre.length = (y, (num7 y).length, 0) ∧
        rgL (pre ++ (rkF l (j + 1) k ++ post)) j (pre.length + (num7 y).length) (l.take k ++ [x]) = (l, pre.length + (rkF l (j + 1) k).length, 0) := by
      intro y hy hrel
      have e1 : pre ++ (rkF l (j + 1) k ++ post) = pre ++ (num7 y ++ (rkF l j (k + 1) ++ post)) := by rw [rkF, hrel, List.append_assoc]
      have e2 : pre ++ (rkF l (j + 1) k ++ post) = (pre ++ num7 y) ++ (rkF l j (k + 1) ++ post) := by rw [e1]; simp
      refine ⟨by rw [e1]; exact rdAt_num7 pre _ y hy, ?_⟩
      rw [e2, hsn, ← List.length_append, rgL_back l hI hR j (k + 1) (pre ++ num7 y) post (by omega)]
      rw [rkF, hrel, List.length_append, List.length_append, Nat.add_assoc]
    by_cases h0 : k = 0
    · subst h0
      have hrel : relt l 0 = num7 (zig x) := by unfold relt; rw [if_pos rfl, List.getD, hx]; rfl
      obtain ⟨k1, k2⟩ := key (zig x) (zig_lt hxr.1 hxr.2) hrel
      rw [rgL, k1]
      simp only [ne_eq, not_true_eq_false, ↓reduceIte]
      rw [if_pos htl, unz_zig]
      exact k2
    · obtain ⟨i, rfl⟩ : ∃ i, k = i + 1 := ⟨k - 1, by omega⟩
      obtain ⟨y, hy⟩ : ∃ y, l[i]? = some y := ⟨_, List.getElem?_eq_getElem (by omega)⟩
      have hyr := hI y (List.mem_of_getElem? hy)
      have hlt := hR i y x hy hx
      have hb1 := hxr.2
      have hb2 := hyr.1
      have hrel : relt l (i + 1) = num7 (x - y - 1).toNat := by unfold relt; rw [if_neg (by omega), List.getD, hx, List.getD, Nat.add_sub_cancel, hy]; rfl
      obtain ⟨k1, k2⟩ := key (x - y - 1).toNat (by omega) hrel
      have hlast : (l.take (i + 1)).getD ((l.take (i + 1)).length - 1) 0 = y := by
        rw [htl, Nat.add_sub_cancel, List.getD, List.getElem?_take_of_lt (by omega), hy]; rfl
      rw [rgL, k1]
      simp only [ne_eq, not_true_eq_false, ↓reduceIte]
      rw [if_neg (by omega), hlast, if_neg (by omega), show y + (((x - y - 1).toNat : Nat) : Int) + 1 = x by omega]
      exact k2
end Go.Proofs.Ytaechgnjdjijkaa
