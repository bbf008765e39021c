/- Cuts of bytes. -/
import Derived.Test.YtaechgnjdjijkaaRd1
namespace Go.Proofs.Ytaechgnjdjijkaa
open Go.RowKit Go.Lib

theorem u8Sl : Try.prog.underlying 25 = some (.slice (Try.prog.elem 25)) := by kernel_rfl
theorem u8Sz (W : World) : (sizeOf (Try.prog.elem 25)).run Try.prog W = .ok 1 W := by kernel_rfl
theorem bc_drop_take (l : List UInt8) (f z : Nat) : bc ((l.take z).drop f) = ((bc l).take z).drop f := by simp [bc, List.map_drop, List.map_take]
theorem rd_part {w : World} {a : Option Addr} {m cap : Nat} {l : List UInt8} (h : Rd w (.slice a m cap) m (bc l)) (f z : Nat) (hfz : f ≤ z) (hz : z ≤ m) :
    Rd w (sliced a f z cap 1) (z - f) (bc ((l.take z).drop f)) := by
  obtain ⟨a', cap', hv, h1, h2, h3⟩ := h
  cases hv
  unfold sliced
  refine ⟨_, _, rfl, by omega, by omega, fun hn => ?_⟩
  obtain ⟨g, off, rfl, hg, hx⟩ := h3 (by omega)
  rw [if_neg (by omega)]
  refine ⟨g, off + f * 1, by simp [addr_add], hg, fun k x hk => ?_⟩
  rw [bc_drop_take, List.getElem?_drop] at hk
  have hlt : f + k < z := by
    rcases Nat.lt_or_ge (f + k) z with h | h
    · exact h
    · rw [List.getElem?_take_eq_none h] at hk; cases hk
  rw [List.getElem?_take_of_lt hlt] at hk
  have := hx (f + k) x hk
  rw [show off + (f + k) = off + f * 1 + k by omega] at this
  exact this
/-- A cut of bytes, run. -/
theorem run_rd_part {w : World} {a : Option Addr} {m cap : Nat} {l : List UInt8} (h : Rd w (.slice a m cap) m (bc l)) (f z : Nat) (hfz : f ≤ z) (hz : z ≤ m) :
    ∃ A c, (∀ W : World, (Instr.sliceAt 25 (.slice a m cap) (some (.int .i64 (f : Int))) (some (.int .i64 (z : Int))) none).run Try.prog W = .ok (.slice A (z - f) c) W) ∧ Rd w (.slice A (z - f) c) (z - f) (bc ((l.take z).drop f)) := by
  have hp := rd_part h f z hfz hz
  obtain ⟨_, _, hv, h1, h2, _⟩ := h
  cases hv
  refine ⟨_, _, fun W => ?_, hp⟩
  rw [run_sliceAt_slice _ _ _ _ _ _ u8Sl, run_slice_lh _ _ _ _ _ u8Sl _ _ _ _ (by omega) (by omega) (by omega)]
  simp only [Int.toNat_natCast, u8Sz, Result.andThen_ok]
  rfl
end Go.Proofs.Ytaechgnjdjijkaa
