/- The law's own lent: bytes in new memory, with marked room behind them; a cut from the front. -/
import Derived.Test.YtaechgnjdjijkaaPlain
namespace Go.Proofs.Ytaechgnjdjijkaa
open Go.RowKit Go.Lib

theorem run_rd_front {w : World} {a : Option Addr} {m cap : Nat} {l : List UInt8} (h : Rd w (.slice a m cap) m (bc l)) (z : Nat) (hz : z ≤ m) :
    ∃ A c, (∀ W : World, (Instr.sliceAt 25 (.slice a m cap) none (some (.int .i64 (z : Int))) none).run Try.prog W = .ok (.slice A z c) W) ∧ Rd w (.slice A z c) z (bc (l.take z)) := by
  have hp := rd_part h 0 z (Nat.zero_le _) hz
  obtain ⟨_, _, hv, h1, h2, _⟩ := h
  cases hv
  refine ⟨_, _, fun W => ?_, hp⟩
  rw [run_sliceAt_slice _ _ _ _ _ _ u8Sl, run_slice_h _ _ _ _ _ u8Sl _ _ (by omega) (by omega)]
  simp only [Int.toNat_natCast, u8Sz, Result.andThen_ok]
  rfl
theorem run_own_front (q m n cap : Nat) (hn : n ≤ m) (hm : m ≤ cap) (hc : 0 < cap) : ∀ W : World, (Instr.sliceAt 25 (.slice (some ⟨q, 0, none⟩) m cap) none (some (.int .i64 (n : Int))) none).run Try.prog W = .ok (.slice (some ⟨q, 0, none⟩) n cap) W := by
  intro W
  rw [run_sliceAt_slice _ _ _ _ _ _ u8Sl, run_slice_h _ _ _ _ _ u8Sl _ _ (by omega) (by omega)]
  simp only [Int.toNat_natCast, u8Sz, Result.andThen_ok]
  unfold sliced
  rw [if_neg (by omega)]
  rfl
end Go.Proofs.Ytaechgnjdjijkaa
