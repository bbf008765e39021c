/- All keys' states as bytes, and read again: plainly. -/
import Derived.Test.YtaechgnjdjijkaaReadAll
import Derived.Test.YtaechgnjdjijkaaPutAll
namespace Go.Proofs.Ytaechgnjdjijkaa
open Go.RowKit Go.Lib

theorem geS_notUp (l : List Kn) (k : Kn) : notUp l k = (match l.getLast? with | none => false | some y => geS y.key k.key) := rfl
theorem upB_cons {ses : Bool} {o : Option Kn} {k : Kn} {r : List Kn} : upB ses o (k :: r) = true ↔ keyB ses k = true ∧ (match o with | none => false | some y => geS y.key k.key) = false ∧ upB ses (some k) r = true := by
  cases o <;> simp only [upB, Bool.and_eq_true, Bool.not_eq_true', and_assoc]
theorem rdAll_back (c : Cf) (hj : job c = true) : ∀ (r l : List Kn) (n : Nat), (∀ k ∈ r, k.Fit ∧ k.ws.length < 18446744073709551616) → upB (c.k == 3) l.getLast? r = true → (allB r).length ≤ n → rdAll c n (allB r) l = some (l ++ r)
  | [], l, n, _, _, _ => by
    show rdAll c n [] l = _
    rw [rdAll_nil, List.append_nil]
  | k :: r, l, n, hf, hu, hn => by
    obtain ⟨h1, h2, h3⟩ := upB_cons.1 hu
    have hb : allB (k :: r) = keyBytes k ++ allB r := rfl
    have hpos := keyBytes_pos k
    rw [hb, List.length_append] at hn
    obtain ⟨n, rfl⟩ : ∃ n', n = n' + 1 := ⟨n - 1, by omega⟩
    obtain ⟨hk1, hk2⟩ := hf k (List.mem_cons_self ..)
    have hback := rdKey_back c k hk1 (by unfold putE; rw [if_pos hj, if_pos h1]) hk2 (allB r)
    have ih := rdAll_back c hj r (l ++ [k]) n (fun k' h => hf k' (List.mem_cons_of_mem _ h)) (by simpa using h3) (by omega)
    rw [hb, rdAll, if_neg (by rw [List.length_append]; omega), hback]
    simp only
    rw [geS_notUp, h2, if_neg (by simp), List.drop_append_of_le_length (Nat.le_refl _), List.drop_length, List.nil_append, ih, List.append_assoc]
    rfl
theorem rdAll_again (c : Cf) : ∀ (n : Nat) (bs : List UInt8) (l l' : List Kn), bs.length ≤ n → rdAll c n bs l = some l' → ∃ r, l' = l ++ r ∧ allB r = bs ∧ upB (c.k == 3) l.getLast? r = true ∧ (∀ k ∈ r, k.Fit ∧ 72 * (k.ws.length + 2) ≤ 8 * bs.length + 144) ∧ kroom r ≤ 24 * bs.length
  | 0, bs, l, l', hn, h => by
    cases h
    have hb : bs = [] := List.eq_nil_of_length_eq_zero (by omega)
    subst hb
    exact ⟨[], by simp, rfl, rfl, by simp, by simp [kroom]⟩
  | n + 1, bs, l, l', hn, h => by
    rw [rdAll] at h
    by_cases h0 : bs.length = 0
    · rw [if_pos h0] at h
      cases h
      have hb : bs = [] := List.eq_nil_of_length_eq_zero h0
      subst hb
      exact ⟨[], by simp, rfl, rfl, by simp, by simp [kroom]⟩
    · rw [if_neg h0] at h
      cases hk : rdKey c bs 0 with
      | none => rw [hk] at h; cases h
      | some q =>
        obtain ⟨k, a⟩ := q
        rw [hk] at h
        simp only at h
        by_cases hu : notUp l k = true
        · rw [if_pos hu] at h; cases h
        · rw [if_neg hu] at h
          obtain ⟨p1, p2⟩ := rdKey_pos hk
          obtain ⟨p3, p4⟩ := rdKey_le hk
          have p5 := rdKey_again hk
          have hdl : (bs.drop a).length = bs.length - a := List.length_drop ..
          obtain ⟨r, hr1, hr2, hr3, hr4, hr5⟩ := rdAll_again c n (bs.drop a) (l ++ [k]) l' (by omega) h
          refine ⟨k :: r, by rw [hr1, List.append_assoc]; rfl, ?_, ?_, ?_, ?_⟩
          · show keyBytes k ++ allB r = bs
            rw [p5, hr2, List.take_append_drop]
          · refine upB_cons.2 ⟨keyB_yes p2, ?_, by simpa using hr3⟩
            rw [← geS_notUp]
            simpa using hu
          · intro k' hk'
            rcases List.mem_cons.1 hk' with h1 | h1
            · subst h1; exact ⟨p4, by omega⟩
            · obtain ⟨q1, q2⟩ := hr4 k' h1
              exact ⟨q1, by omega⟩
          · show k.key.size + 90 * k.ws.length + 40 + kroom r ≤ _
            omega
end Go.Proofs.Ytaechgnjdjijkaa
