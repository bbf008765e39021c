/- The law's own lent: bytes in new memory, with marked room behind them; a cut from the front. -/
import Derived.Test.YtmcgagjjgomkeaaPlain
namespace Go.Proofs.Ytmcgagjjgomkeaa
open Go.RowKit Go.Lib

theorem run_rd_front {w : World} {a : Option Addr} {m cap : Nat} {l : List UInt8} (h : Rd w (.slice a m cap) m (bc l)) (z : Nat) (hz : z ≤ m) :
    ∃ A c, (∀ W : World, (Instr.sliceAt 29 (.slice a m cap) none (some (.int .i64 (z : Int))) none).run Try.prog W = .ok (.slice A z c) W) ∧ Rd w (.slice A z c) z (bc (l.take z)) := by
  have hp := rd_part h 0 z (Nat.zero_le _) hz
  obtain ⟨_, _, hv, h1, h2, _⟩ := h
  cases hv
  refine ⟨_, _, fun W => ?_, hp⟩
  rw [run_sliceAt_slice _ _ _ _ _ _ u8Sl, run_slice_h _ _ _ _ _ u8Sl _ _ (by omega) (by omega)]
  simp only [Int.toNat_natCast, u8Sz, Result.andThen_ok]
  rfl
theorem run_own_front (q m n cap : Nat) (hn : n ≤ m) (hm : m ≤ cap) (hc : 0 < cap) : ∀ W : World, (Instr.sliceAt 29 (.slice (some ⟨q, 0, none⟩) m cap) none (some (.int .i64 (n : Int))) none).run Try.prog W = .ok (.slice (some ⟨q, 0, none⟩) n cap) W := by
  intro W
  rw [run_sliceAt_slice _ _ _ _ _ _ u8Sl, run_slice_h _ _ _ _ _ u8Sl _ _ (by omega) (by omega)]
  simp only [Int.toNat_natCast, u8Sz, Result.andThen_ok]
  unfold sliced
  rw [if_neg (by omega)]
  rfl
set_option maxRecDepth 100000 in
theorem lent_any (A : Option Addr) (m cap : Nat) (bs : List UInt8) (W : World) (hr : Rd W (.slice A m cap) m (bc bs)) (hm : bs.length = m) (hn : m + 2 ≤ 140737488355328) :
    Calls Try.prog 18 #[.slice A m cap] W fun e w' => ∃ q c, e = .returned (.slice (some ⟨q, 0, none⟩) m c) ∧ m + 2 ≤ c ∧ Below W.heap.size W w' ∧ w'.ownsRow W.heap.size 5 1 (.slice (some ⟨q, 0, none⟩) (m + 2) c) (m + 2) (bc (bs ++ [165, 166])) := by
  obtain ⟨i0, hi0, hz0, hz1, hz2⟩ := info_parts u8Info
  have HR := Lib.hid hr
  have HO : Hid (W.ownsRow W.heap.size 5 1 (.slice none 0 0) 0 []) := World.ownsRow_nil _ _ _ _
  have HM := Lib.hid hm
  have HBL : Hid ((bc bs).length = m * 1) := by show _ = _; rw [bc_length, hm, Nat.mul_one]
  clear hr hm
  go_enter Try.func18, Try.ntmps18
  go_wp2_with (first
    | (at_builtin; refine wpList_append_rd _ rfl _ (.tmp 4) 29 rfl W.heap.size 5 i0 _ 1 1 Try.underlying29 hi0 hz0 hz1 hz2 rfl (by decide) _ 0 _ rfl HO.out A m cap (bc bs) rfl HBL.out HR.out (bc_one bs) (by simp only [maxLen]; omega) (by omega) (by omega) ?_; intro v1 w1 ho1 hg1 hat1
       have hb1 : Below W.heap.size W w1 := only_below hg1 (Nat.le_refl _) (fun b e => by cases e)
       rw [Nat.zero_add, List.nil_append] at ho1
       have HB1 := Lib.hid hb1
       have HRD := Lib.hid (rd_lit8 w1 #[.int .u8 165, .int .u8 166] 2 [165, 166] (by decide) rfl rfl)
       have HO1 := Lib.hid (ho1.alloc (.cells #[.int .u8 165, .int .u8 166] 5))
       have hsz : W.heap.size ≤ (w1.alloc (.cells #[.int .u8 165, .int .u8 166] 5)).heap.size := by have := hb1.size; simp; omega
       have HSZ := Lib.hid hsz
       clear ho1 hg1 hat1 hb1 hsz)
    | (at_builtin; refine wpList_append_rd _ rfl (.tmp 5) (.tmp 6) 29 rfl W.heap.size 5 i0 _ 1 1 Try.underlying29 hi0 hz0 hz1 hz2 rfl (by decide) _ m _ rfl HO1.out (some ⟨w1.heap.size, 0, none⟩) 2 2 (bc [165, 166]) rfl rfl HRD.out (bc_one _) (by simp only [maxLen]; omega) (by omega) HSZ.out ?_; intro v2 w2 ho2 hg2 hat2
       have hb2 : Below W.heap.size W w2 := (HB1.out.trans ((below_alloc w1 _).mono HB1.out.size)).grown hg2 HSZ.out (fun r e => (own_lt HO1.out e).1)
       rw [← bc_append] at ho2
       obtain ⟨a2, c2, rfl, hc2, hm2⟩ := ownsRow_shape ho2
       obtain ⟨q, rfl, hq, _, _, _, _, _⟩ := ownsRow_at ho2 (by omega)
       have hcut := run_own_front q (m + 2) m c2 (by omega) hc2 (by omega)
       have HB2 := Lib.hid hb2
       have HO2 := Lib.hid ho2
       have HC2 := Lib.hid hc2
       clear ho2 hg2 hat2 hb2 hc2))
  go_ret
  exact ⟨q, c2, rfl, HC2.out, HB2.out, HO2.out⟩
end Go.Proofs.Ytmcgagjjgomkeaa
