/- The reader's Rising. -/
import Derived.Test.YtmcgagjjgomkeaaRis2
namespace Go.Proofs.Ytmcgagjjgomkeaa
open Go.RowKit Go.Lib

theorem bk_three (w : World) (g : Nat) : ∀ w2, w2 = ((w.alloc (.cells #[.pointer (some ⟨g, 0, none⟩)] 44)).alloc (.cells #[] 2)).alloc (.cells #[.slice (some ⟨w.heap.size + 1, 0, none⟩) 0 0] 37) →
    Bk w2 w.heap.size 44 #[.pointer (some ⟨g, 0, none⟩)] ∧ Bk w2 (w.heap.size + 1 + 1) 37 #[.slice (some ⟨w.heap.size + 1, 0, none⟩) 0 0] ∧ Below w.heap.size w w2 ∧ w2.ownsRow w.heap.size 2 1 (.slice (some ⟨w.heap.size + 1, 0, none⟩) 0 0) 0 [] := by
  rintro w2 rfl
  have hs : (w.alloc (.cells #[.pointer (some ⟨g, 0, none⟩)] 44)).heap.size = w.heap.size + 1 := by simp
  have hs2 : ((w.alloc (.cells #[.pointer (some ⟨g, 0, none⟩)] 44)).alloc (.cells #[] 2)).heap.size = w.heap.size + 1 + 1 := by simp
  exact ⟨((Bk.new w _ _).alloc _).alloc _, Bk.new' _ _ _ _ hs2, ((below_alloc w _).trans ((below_alloc _ _).mono (by rw [hs]; omega))).trans ((below_alloc _ _).mono (by rw [hs2]; omega)),
    (own_lit _ #[] 0 _ hs (by omega) (by decide) rfl).alloc _⟩
/-- With which error a list is refused, 0 if it is not. -/
def rsE (m : Nat) (bs : List UInt8) (at_ : Nat) : Nat := if hdE m (rdAt bs at_) = 0 then (rgL bs (rdAt bs at_).1 (at_ + (rdAt bs at_).2.1) []).2.2 else hdE m (rdAt bs at_)
set_option maxRecDepth 100000 in
theorem RRising_neg (g : Nat) (n : Int) (hn : n < 0) (w : World) : Calls Try.prog 24 #[.pointer (some ⟨g, 0, none⟩), .int .i64 n] w fun e w' => e = .returned (.tuple #[.slice none 0 0, .int .i64 2]) ∧ Below w.heap.size w w' := by
  have HT := Lib.hid (fun o F w => try_neg o n hn F w)
  have HB := Lib.hid (bk_three w g)
  clear hn
  go_enter Try.func24, Try.ntmps24
  go_wp2_with (first
    | (go_at_call 48; (with_reducible refine (HT.out _ _ _).mono ?_); rintro e w1 ⟨rfl, rfl⟩))
  go_ret2
  exact ⟨rfl, (HB.out _ rfl).2.2.1⟩
/-- What try leaves of a list's reading. -/
theorem RRising_try (B g at_ m : Nat) (v : Value) (bs : List UInt8) (w : World) (h : Rr w B g v bs at_) (hm : m ≤ 9223372036854775807) (hroom : m ≤ 1099511627776 ∨ bs.length ≤ 1099511627776) :
    ∀ w2, w2 = ((w.alloc (.cells #[.pointer (some ⟨g, 0, none⟩)] 44)).alloc (.cells #[] 2)).alloc (.cells #[.slice (some ⟨w.heap.size + 1, 0, none⟩) 0 0] 37) →
    Calls Try.prog 48 #[.pointer (some ⟨g, 0, none⟩), .int .i64 (m : Int), .func (.func 52) #[] #[.pointer (some ⟨w.heap.size, 0, none⟩), .pointer (some ⟨w.heap.size + 1 + 1, 0, none⟩)]] w2 fun e w' => e = .returned (.int .i64 (rsE m bs at_ : Int)) ∧ w.grownBy w' (some g) ∧
      (rsE m bs at_ ≠ 0 → Rr w' B g v bs at_) ∧ (rsE m bs at_ = 0 → hdE m (rdAt bs at_) = 0 ∧ RisK w B g (w.heap.size + 1 + 1) v bs (rgL bs (rdAt bs at_).1 (at_ + (rdAt bs at_).2.1) []) w') := by
  intro w2 hw2
  obtain ⟨b1, b2, b3, b4⟩ := bk_three w g w2 hw2
  have h2 := h.below b3
  unfold rsE
  by_cases h0 : hdE m (rdAt bs at_) = 0
  · rw [if_pos h0]
    have hx := (rdAt_facts bs at_ h.le).1
    have hxm : (rdAt bs at_).1 ≤ m := by
      unfold hdE at h0
      rcases Nat.decEq (rdAt bs at_).2.2 0 with h | h
      · rw [if_neg h] at h0; exact absurd h0 h
      · rw [if_pos h] at h0
        rcases Nat.lt_or_ge m (rdAt bs at_).1 with k | k
        · rw [if_pos k] at h0; cases h0
        · exact k
    refine (try_Rising B g at_ m v _ _ bs w2 h2 hm h0 ((rgL bs (rdAt bs at_).1 (at_ + (rdAt bs at_).2.1) []).2.2 : Int) (fun w' => RisK w B g (w.heap.size + 1 + 1) v bs (rgL bs (rdAt bs at_).1 (at_ + (rdAt bs at_).2.1) []) w') (fun w' hk => by obtain ⟨k, hr, _⟩ := hk; exact ⟨k, hr⟩) (fun w1 hr1 hg1 => ?_)).mono ?_
    · have hg := only_step (only_of_below b3 (some g)) hg1 (fun b e => by cases e; exact .inl rfl)
      exact RRising1_any w B g _ _ w.heap.size (w.heap.size + 1 + 1) v _ bs w1 hr1 (b1.grown hg1 (fun e => by cases e; exact h2.blk.ne b1 (by decide) rfl)) (b2.grown hg1 (fun e => by cases e; exact h2.blk.ne b2 (by decide) rfl)) (b4.kept hg1 (.inr (own_bk_ne b4 h2.blk (by decide)))) hx (by rcases hroom with h | h; exact .inl (by omega); exact .inr h) hg (by omega)
    · rintro e w' ⟨rfl, w3, hk, hw⟩
      have hk' := hk
      obtain ⟨k, hr3, hg3, _⟩ := hk
      rcases hw with ⟨hz, rfl⟩ | ⟨hz, rfl⟩
      · exact ⟨rfl, hg3, fun hne => absurd (by omega) hne, fun _ => ⟨h0, hk'⟩⟩
      · exact ⟨rfl, only_set hg3 ⟨g, 1, none⟩ _ (.inl rfl), fun _ => hr3.step at_ h.le, fun he => absurd (by omega) hz⟩
  · rw [if_neg h0]
    exact (try_head B g at_ m v bs _ w2 h2 hm h0).mono (by rintro e w' ⟨rfl, hr, hg⟩; exact ⟨rfl, only_step (only_of_below b3 (some g)) hg (fun b e => by cases e; exact .inl rfl), fun _ => hr, fun h => absurd h h0⟩)
set_option maxRecDepth 100000 in
theorem RRising_bad (B g at_ m : Nat) (v : Value) (bs : List UInt8) (w : World) (h : Rr w B g v bs at_) (hm : m ≤ 9223372036854775807) (hroom : m ≤ 1099511627776 ∨ bs.length ≤ 1099511627776) (he : rsE m bs at_ ≠ 0) :
    Calls Try.prog 24 #[.pointer (some ⟨g, 0, none⟩), .int .i64 (m : Int)] w fun e w' => e = .returned (.tuple #[.slice none 0 0, .int .i64 (rsE m bs at_ : Int)]) ∧ Rr w' B g v bs at_ ∧ w.grownBy w' (some g) := by
  have HT := Lib.hid (RRising_try B g at_ m v bs w h hm hroom)
  have h1 : ((rsE m bs at_ : Int) == 0) = false := by simp; omega
  have h2 : ((rsE m bs at_ : Int) != 0) = true := by simp; omega
  have HE := Lib.hid he
  clear h he hm hroom
  generalize rsE m bs at_ = E at *
  go_enter Try.func24, Try.ntmps24
  go_wp2_with (first
    | (go_at_call 48; (with_reducible refine (HT.out _ rfl).mono ?_); rintro e w1 ⟨rfl, hg, hr, _⟩; have HR := Lib.hid (hr HE.out); have HG := Lib.hid hg; clear hr hg))
  go_ret2
  exact ⟨rfl, HR.out, HG.out⟩
set_option maxRecDepth 100000 in
theorem RRising_ok (B g at_ m : Nat) (v : Value) (bs : List UInt8) (w : World) (h : Rr w B g v bs at_) (hm : m ≤ 9223372036854775807) (hroom : m ≤ 1099511627776 ∨ bs.length ≤ 1099511627776) (he : rsE m bs at_ = 0) :
    Calls Try.prog 24 #[.pointer (some ⟨g, 0, none⟩), .int .i64 (m : Int)] w fun e w' => ∃ q, e = .returned (.tuple #[q, .int .i64 0]) ∧ w'.ownsRow w.heap.size 2 1 q (rgL bs (rdAt bs at_).1 (at_ + (rdAt bs at_).2.1) []).1.length (ic (rgL bs (rdAt bs at_).1 (at_ + (rdAt bs at_).2.1) []).1) ∧ Rr w' B g v bs (rgL bs (rdAt bs at_).1 (at_ + (rdAt bs at_).2.1) []).2.1 ∧ w.grownBy w' (some g) := by
  have hT := RRising_try B g at_ m v bs w h hm hroom
  rw [he] at hT
  have hz : (rgL bs (rdAt bs at_).1 (at_ + (rdAt bs at_).2.1) []).2.2 = 0 := by
    unfold rsE at he
    rcases Nat.decEq (hdE m (rdAt bs at_)) 0 with h | h
    · rw [if_neg h] at he; exact absurd he h
    · rw [if_pos h] at he; exact he
  have HT := Lib.hid hT
  have HZ := Lib.hid hz
  clear h he hm hroom hT hz
  generalize rgL bs (rdAt bs at_).1 (at_ + (rdAt bs at_).2.1) [] = RES at *
  go_enter Try.func24, Try.ntmps24
  go_wp2_with (first
    | (go_at_call 48; (with_reducible refine (HT.out _ rfl).mono ?_); rintro e w1 ⟨rfl, hg, _, hk⟩
       obtain ⟨k, hr, _, hk⟩ := (hk rfl).2
       obtain ⟨rfl, q, hq, ho⟩ := hk HZ.out
       obtain ⟨qa, qc, rfl, _, _⟩ := ownsRow_shape ho
       have x2 : w1.cell? ⟨w.heap.size + 1 + 1, 0, none⟩ = some (.slice qa RES.1.length qc) := hq.cell 0
       have HR := Lib.hid hr; have HG := Lib.hid hg; have HO := Lib.hid ho; clear hr hg hk hq ho))
  go_ret2
  exact ⟨_, rfl, HO.out, HR.out, HG.out⟩
end Go.Proofs.Ytmcgagjjgomkeaa
