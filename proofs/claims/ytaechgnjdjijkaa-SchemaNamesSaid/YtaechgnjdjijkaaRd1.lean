/- The reader's Number and Signed, as what they leave. -/
import Derived.Test.YtaechgnjdjijkaaSame
namespace Go.Proofs.Ytaechgnjdjijkaa
open Go.RowKit Go.Lib

theorem rdN_facts : ∀ (l : List UInt8) (i x : Nat), i ≤ 9 → x < 128 ^ i → (rdN i x l).1 < 18446744073709551616 ∧ ((rdN i x l).2.2 = 0 → i < (rdN i x l).2.1 ∧ (rdN i x l).2.1 ≤ i + l.length) ∧ ((rdN i x l).2.2 ≠ 0 → (rdN i x l).1 = 0 ∧ (rdN i x l).2.1 = 0)
  | [], i, x, hi, hx => by
    unfold rdN
    exact ⟨by decide, fun h => (by cases h), fun _ => ⟨rfl, rfl⟩⟩
  | b :: r, i, x, hi, hx => by
    unfold rdN
    split
    · exact ⟨by decide, fun h => (by cases h), fun _ => ⟨rfl, rfl⟩⟩
    · rename_i h9
      split
      · rename_i hb
        have hi9 : i < 9 := by
          rcases Nat.lt_or_ge i 9 with h | h
          · exact h
          · exact absurd ⟨by omega, by omega⟩ h9
        obtain ⟨k1, k2, k3⟩ := rdN_facts r (i + 1) (x + b.toNat % 128 * 128 ^ i) (by omega) (or_grow hx)
        refine ⟨k1, fun h => ?_, k3⟩
        have := k2 h
        simp only [List.length_cons]
        omega
      · split
        · exact ⟨by decide, fun h => (by cases h), fun _ => ⟨rfl, rfl⟩⟩
        · refine ⟨?_, fun _ => ⟨by show i < i + 1; omega, by show i + 1 ≤ _; simp⟩, fun h => absurd rfl h⟩
          show x + b.toNat % 128 * 128 ^ i < _
          rcases Nat.lt_or_ge i 9 with h | h
          · have h1 := or_grow (y := b.toNat) hx
            have h2 := pow128_le (i := i + 1) (by omega)
            omega
          · have e9 : i = 9 := by omega
            subst e9
            have e1 : b.toNat = 1 := by
              rcases Nat.decEq b.toNat 1 with h | h
              · exact absurd ⟨rfl, h⟩ h9
              · exact h
            rw [e1]
            have : (128 : Nat) ^ 9 = 9223372036854775808 := by decide
            omega
/-- The number with which what is left begins. -/
def rdAt (bs : List UInt8) (at_ : Nat) : Nat × Nat × Nat := rdN 0 0 (bs.drop at_)
theorem rdAt_facts (bs : List UInt8) (at_ : Nat) (h : at_ ≤ bs.length) : (rdAt bs at_).1 < 18446744073709551616 ∧ at_ + (rdAt bs at_).2.1 ≤ bs.length ∧ ((rdAt bs at_).2.2 = 0 → 0 < (rdAt bs at_).2.1) ∧ ((rdAt bs at_).2.2 ≠ 0 → (rdAt bs at_).1 = 0 ∧ (rdAt bs at_).2.1 = 0) := by
  obtain ⟨k1, k2, k3⟩ := rdN_facts (bs.drop at_) 0 0 (by decide) (by decide)
  refine ⟨k1, ?_, fun h => (k2 h).1, k3⟩
  by_cases hz : (rdAt bs at_).2.2 = 0
  · have := (k2 hz).2
    rw [List.length_drop] at this
    unfold rdAt
    omega
  · have := (k3 hz).2
    unfold rdAt
    omega

theorem Rr.step {w : World} {B g at_ : Nat} {v : Value} {bs : List UInt8} (h : Rr w B g v bs at_) (n : Nat) (hn : n ≤ bs.length) : Rr (w.setCell ⟨g, 1, none⟩ (.int .i64 (n : Int))) B g v bs n :=
  ⟨h.blk.set 1 _, own_set h.own h.blk (by decide) 1 _, hn⟩
theorem RNumber_g (B g at_ : Nat) (v : Value) (bs : List UInt8) (w : World) (h : Rr w B g v bs at_) :
    Calls Try.prog 40 #[.pointer (some ⟨g, 0, none⟩)] w fun e w' => e = .returned (.tuple #[.int .u64 ((rdAt bs at_).1 : Int), .int .i64 ((rdAt bs at_).2.2 : Int)]) ∧ Rr w' B g v bs (at_ + (rdAt bs at_).2.1) ∧ w.grownBy w' (some g) := by
  refine (RNumber_any B g at_ v bs w h).mono ?_
  rintro e w' ⟨k1, k2⟩
  obtain ⟨_, h2, _, h4⟩ := rdAt_facts bs at_ h.le
  by_cases hz : (rdAt bs at_).2.2 = 0
  · obtain ⟨rfl, rfl⟩ := k1 hz
    rw [hz]
    exact ⟨rfl, h.step _ h2, grownBy_set w ⟨g, 1, none⟩ _⟩
  · obtain ⟨rfl, rfl⟩ := k2 hz
    rw [(h4 hz).1, (h4 hz).2]
    exact ⟨rfl, h, only_refl w _⟩
/-- The number with its sign with which what is left begins. -/
def sgAt (bs : List UInt8) (at_ : Nat) : Int := if (rdAt bs at_).2.2 = 0 then unz (rdAt bs at_).1 else 0
set_option maxRecDepth 100000 in
theorem RSigned_g (B g at_ : Nat) (v : Value) (bs : List UInt8) (w : World) (h : Rr w B g v bs at_) :
    Calls Try.prog 101 #[.pointer (some ⟨g, 0, none⟩)] w fun e w' => e = .returned (.tuple #[.int .i64 (sgAt bs at_), .int .i64 ((rdAt bs at_).2.2 : Int)]) ∧ Rr w' B g v bs (at_ + (rdAt bs at_).2.1) ∧ w.grownBy w' (some g) := by
  have HN := Lib.hid (RNumber_g B g at_ v bs w h)
  have hlt := (rdAt_facts bs at_ h.le).1
  have HU := Lib.hid (fun w => unfold_any (rdAt bs at_).1 w hlt)
  have HSG : Hid (sgAt bs at_ = if (rdAt bs at_).2.2 = 0 then unz (rdAt bs at_).1 else 0) := rfl
  clear h hlt
  generalize rdAt bs at_ = R at *
  obtain ⟨x, n, z⟩ := R
  generalize sgAt bs at_ = s at *
  by_cases hz : z = 0
  · have hz1 : ((z : Int) == 0) = true := by simp [hz]
    have hz2 : ((z : Int) != 0) = false := by simp [hz]
    have hs : s = unz x := by rw [HSG.out, if_pos hz]
    subst hs
    go_enter Try.func101, Try.ntmps101
    go_wp2_with (first
      | (go_at_call 40; (with_reducible refine HN.out.mono ?_); rintro e w1 ⟨rfl, h1, h2⟩; have H1 := Lib.hid h1; have H2 := Lib.hid h2; clear h1 h2)
      | (go_at_call 105; (with_reducible refine (HU.out _).mono ?_); rintro e w2 ⟨rfl, rfl⟩))
    go_ret2
    exact ⟨by subst hz; rfl, H1.out, H2.out⟩
  · have hz1 : ((z : Int) == 0) = false := by simp; omega
    have hz2 : ((z : Int) != 0) = true := by simp; omega
    have hs : s = 0 := by rw [HSG.out, if_neg hz]
    subst hs
    go_enter Try.func101, Try.ntmps101
    go_wp2_with (first
      | (go_at_call 40; (with_reducible refine HN.out.mono ?_); rintro e w1 ⟨rfl, h1, h2⟩; have H1 := Lib.hid h1; have H2 := Lib.hid h2; clear h1 h2))
    go_ret2
    exact ⟨rfl, H1.out, H2.out⟩
end Go.Proofs.Ytaechgnjdjijkaa
