/- The walk of the reader's try. -/
import Derived.Test.YtaechgnjdjijkaaRd4
namespace Go.Proofs.Ytaechgnjdjijkaa
open Go.RowKit Go.Lib

/-- With which error a text's or a list's length is refused, 0 if it is not. -/
def hdE (m : Nat) (R : Nat × Nat × Nat) : Nat := if R.2.2 = 0 then (if m < R.1 then 3 else 0) else R.2.2
/-- What try leaves of what its reader leaves. -/
def Tried (K : World → Prop) (y : Int) (g at_ : Nat) (w' : World) : Prop := ∃ w2, K w2 ∧ ((y = 0 ∧ w' = w2) ∨ (y ≠ 0 ∧ w' = w2.setCell ⟨g, 1, none⟩ (.int .i64 (at_ : Int))))
theorem Tried.ok {K : World → Prop} {y : Int} {g at_ : Nat} {w : World} (h : K w) (hy : y = 0) : Tried K y g at_ w := ⟨w, h, .inl ⟨hy, rfl⟩⟩
theorem Tried.bad {K : World → Prop} {y : Int} {g at_ : Nat} {w : World} (h : K w) (hy : y ≠ 0) : Tried K y g at_ (w.setCell ⟨g, 1, none⟩ (.int .i64 (at_ : Int))) := ⟨w, h, .inr ⟨hy, rfl⟩⟩
theorem try_neg (o : Addr) (n : Int) (hn : n < 0) (F : Value) (w : World) : Calls Try.prog 61 #[.pointer (some o), .int .i64 n, F] w fun e w' => e = .returned (.int .i64 2) ∧ w = w' := by
  have h1 : decide (n < 0) = true := by simp; omega
  go_enter Try.func61, Try.ntmps61
  go_wp2
  go_ret
  exact ⟨rfl, rfl⟩
set_option maxRecDepth 100000 in
theorem try_head (B g at_ m : Nat) (v : Value) (bs : List UInt8) (F : Value) (w : World) (h : Rr w B g v bs at_) (hm : m ≤ 9223372036854775807) (hh : hdE m (rdAt bs at_) ≠ 0) :
    Calls Try.prog 61 #[.pointer (some ⟨g, 0, none⟩), .int .i64 (m : Int), F] w fun e w' => e = .returned (.int .i64 (hdE m (rdAt bs at_) : Int)) ∧ Rr w' B g v bs at_ ∧ w.grownBy w' (some g) := by
  have HN := Lib.hid (RNumber_g B g at_ v bs w h)
  have HL : Hid (at_ ≤ bs.length) := h.le
  have x1 : w.cell? ⟨g, 1, none⟩ = some (.int .i64 (at_ : Int)) := h.blk.cell 1
  have hwr : IntKind.u64.wrap (m : Int) = (m : Int) := IntWalk.u64_in _ (by omega)
  have h0 : decide ((m : Int) < 0) = false := by simp
  have HE : Hid (∀ e, e = hdE m (rdAt bs at_) → e ≠ 0 → (e : Int) ≠ 0) := fun e _ h => by omega
  clear h
  have HD : Hid (hdE m (rdAt bs at_) = (if (rdAt bs at_).2.2 = 0 then (if m < (rdAt bs at_).1 then 3 else 0) else (rdAt bs at_).2.2)) := rfl
  generalize hdE m (rdAt bs at_) = E at *
  generalize rdAt bs at_ = R at *
  obtain ⟨x, n, z⟩ := R
  have hgo : ∀ w1, Rr w1 B g v bs (at_ + n) → w.grownBy w1 (some g) → Rr (w1.setCell ⟨g, 1, none⟩ (.int .i64 (at_ : Int))) B g v bs at_ ∧ w.grownBy (w1.setCell ⟨g, 1, none⟩ (.int .i64 (at_ : Int))) (some g) := fun w1 h1 h2 => ⟨h1.step at_ HL.out, only_set h2 ⟨g, 1, none⟩ _ (.inl rfl)⟩
  have HGO := Lib.hid hgo
  clear hgo
  by_cases hz : z = 0
  · subst hz
    have hx : m < x := by
      rcases Nat.lt_or_ge m x with h | h
      · exact h
      · exact absurd (by rw [HD.out]; simp; omega) hh
    have hE : E = 3 := by rw [HD.out]; simp [hx]
    subst hE
    have h2 : decide (m < x) = true := by simp [hx]
    clear HD hh hx HE
    go_enter Try.func61, Try.ntmps61
    go_wp2_with (first
      | (go_at_call 40; (with_reducible refine HN.out.mono ?_); rintro e w1 ⟨rfl, hr1, hg1⟩; have y1 : w1.cell? ⟨g, 1, none⟩ = some (.int .i64 ((at_ + n : Nat) : Int)) := hr1.blk.cell 1; have f1 := hr1.blk.frozen 1; have HR1 := Lib.hid hr1; have HG1 := Lib.hid hg1; clear hr1 hg1))
    go_ret
    exact ⟨rfl, HGO.out _ HR1.out HG1.out⟩
  · have hE : E = z := by rw [HD.out]; simp [hz]
    subst hE
    have h3 : ((E : Int) == 0) = false := by simp; omega
    have h4 : ((E : Int) != 0) = true := by simp; omega
    clear HD hh hz HE
    go_enter Try.func61, Try.ntmps61
    go_wp2_with (first
      | (go_at_call 40; (with_reducible refine HN.out.mono ?_); rintro e w1 ⟨rfl, hr1, hg1⟩; have y1 : w1.cell? ⟨g, 1, none⟩ = some (.int .i64 ((at_ + n : Nat) : Int)) := hr1.blk.cell 1; have f1 := hr1.blk.frozen 1; have HR1 := Lib.hid hr1; have HG1 := Lib.hid hg1; clear hr1 hg1))
    go_ret
    exact ⟨rfl, HGO.out _ HR1.out HG1.out⟩
set_option maxRecDepth 100000 in
theorem try_Text (B g at_ m : Nat) (v p q : Value) (bs : List UInt8) (w : World) (h : Rr w B g v bs at_) (hm : m ≤ 9223372036854775807) (hh : hdE m (rdAt bs at_) = 0) (y : Int) (K : World → Prop)
    (hK : ∀ w2, K w2 → ∃ k, Rr w2 B g v bs k)
    (hF : ∀ w1, Rr w1 B g v bs (at_ + (rdAt bs at_).2.1) → w.grownBy w1 (some g) → Calls Try.prog 62 #[.int .u64 ((rdAt bs at_).1 : Int), p, q] w1 fun e w2 => e = .returned (.int .i64 y) ∧ K w2) :
    Calls Try.prog 61 #[.pointer (some ⟨g, 0, none⟩), .int .i64 (m : Int), .func (.func 62) #[] #[p, q]] w fun e w' => e = .returned (.int .i64 y) ∧ Tried K y g at_ w' := by
  have HN := Lib.hid (RNumber_g B g at_ v bs w h)
  have x1 : w.cell? ⟨g, 1, none⟩ = some (.int .i64 (at_ : Int)) := h.blk.cell 1
  have hwr : IntKind.u64.wrap (m : Int) = (m : Int) := IntWalk.u64_in _ (by omega)
  have h0 : decide ((m : Int) < 0) = false := by simp
  have HF := Lib.hid hF
  have HK := Lib.hid hK
  clear h hF hK
  unfold hdE at hh
  generalize rdAt bs at_ = R at *
  obtain ⟨x, n, z⟩ := R
  obtain ⟨hz, hx⟩ : z = 0 ∧ ¬ m < x := by
    rcases Nat.decEq z 0 with h | h
    · simp only [h, ↓reduceIte] at hh
    · subst h
      refine ⟨rfl, fun hx => ?_⟩
      simp [hx] at hh
  subst hz
  have h2 : decide (m < x) = false := by simp; omega
  clear hh hx
  by_cases hy : y = 0
  · subst hy
    go_enter Try.func61, Try.ntmps61
    go_wp2_with (first
      | (go_at_call 40; (with_reducible refine HN.out.mono ?_); rintro e w1 ⟨rfl, hr1, hg1⟩; have HR1 := Lib.hid hr1; have HG1 := Lib.hid hg1; clear hr1 hg1)
      | (go_at_call 62; (with_reducible refine (HF.out w1 HR1.out HG1.out).mono ?_); rintro e w2 ⟨rfl, hk⟩; have HKK := Lib.hid hk; clear hk))
    go_ret
    exact ⟨rfl, Tried.ok HKK.out rfl⟩
  · have h3 : (y == 0) = false := by simpa using hy
    have h4 : (y != 0) = true := by simpa using hy
    have HY := Lib.hid hy
    clear hy
    go_enter Try.func61, Try.ntmps61
    go_wp2_with (first
      | (go_at_call 40; (with_reducible refine HN.out.mono ?_); rintro e w1 ⟨rfl, hr1, hg1⟩; have HR1 := Lib.hid hr1; have HG1 := Lib.hid hg1; clear hr1 hg1)
      | (go_at_call 62; (with_reducible refine (HF.out w1 HR1.out HG1.out).mono ?_); rintro e w2 ⟨rfl, hk⟩
         obtain ⟨k, hr2⟩ := HK.out w2 hk
         have y1 : w2.cell? ⟨g, 1, none⟩ = some (.int .i64 (k : Int)) := hr2.blk.cell 1
         have f1 := hr2.blk.frozen 1
         have HKK := Lib.hid hk
         clear hk hr2))
    go_ret
    exact ⟨rfl, Tried.bad HKK.out HY.out⟩
end Go.Proofs.Ytaechgnjdjijkaa
