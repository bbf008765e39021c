/- Cuts of bytes: their front, their back. -/
import Derived.Test.YtaechgnjdjijkaaRd2
namespace Go.Proofs.Ytaechgnjdjijkaa
open Go.RowKit Go.Lib

theorem run_rd_front {w : World} {a : Option Addr} {m cap : Nat} {l : List UInt8} (h : Rd w (.slice a m cap) m (bc l)) (z : Nat) (hz : z ≤ m) :
    ∃ A c, (∀ W : World, (Instr.sliceAt 25 (.slice a m cap) none (some (.int .i64 (z : Int))) none).run Try.prog W = .ok (.slice A z c) W) ∧ Rd w (.slice A z c) z (bc (l.take z)) := by
  have hp := rd_part h 0 z (Nat.zero_le _) hz
  rw [List.drop_zero, Nat.sub_zero] at hp
  obtain ⟨_, _, hv, h1, h2, _⟩ := h
  cases hv
  refine ⟨_, _, fun W => ?_, hp⟩
  rw [run_sliceAt_slice _ _ _ _ _ _ u8Sl, run_slice_h _ _ _ _ _ u8Sl _ _ (by omega) (by omega)]
  simp only [Int.toNat_natCast, u8Sz, Result.andThen_ok]
  rfl
theorem run_rd_back {w : World} {a : Option Addr} {m cap : Nat} {l : List UInt8} (h : Rd w (.slice a m cap) m (bc l)) (hl : l.length = m) (f : Nat) (hf : f ≤ m) :
    ∃ A c, (∀ W : World, (Instr.sliceAt 25 (.slice a m cap) (some (.int .i64 (f : Int))) none none).run Try.prog W = .ok (.slice A (m - f) c) W) ∧ Rd w (.slice A (m - f) c) (m - f) (bc (l.drop f)) := by
  have hp := rd_part h f m hf (Nat.le_refl _)
  rw [← hl, List.take_length, hl] at hp
  obtain ⟨_, _, hv, h1, h2, _⟩ := h
  cases hv
  refine ⟨_, _, fun W => ?_, hp⟩
  rw [run_sliceAt_slice _ _ _ _ _ _ u8Sl, run_slice_l _ _ _ _ _ u8Sl _ _ (by omega) (by omega)]
  simp only [Int.toNat_natCast, u8Sz, Result.andThen_ok]
  rfl
end Go.Proofs.Ytaechgnjdjijkaa
