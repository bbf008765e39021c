/- The document's Rising; lentList, left, leftList. -/
import Derived.Test.YtmcgagjjgomkeaaRef
import Derived.Test.YtmcgagjjgomkeaaApp
import Derived.Test.YtmcgagjjgomkeaaAgain
import Derived.Deep.RegionHeld3
namespace Go.Proofs.Ytmcgagjjgomkeaa
open Go.RowKit Go.Lib

set_option maxRecDepth 100000 in
theorem left_any (A : Option Addr) (m cap q c B : Nat) (bs : List UInt8) (W : World) (hr : Rd W (.slice A m cap) m (bc bs)) (hm : bs.length = m) (hc : m + 2 ≤ c) (ho : W.ownsRow B 5 1 (.slice (some ⟨q, 0, none⟩) (m + 2) c) (m + 2) (bc (bs ++ [165, 166]))) (hn : m + 2 ≤ 140737488355328) :
    Calls Try.prog 29 #[.slice (some ⟨q, 0, none⟩) m c, .slice A m cap] W fun e w' => e = .returned (.bool true) ∧ W = w' := by
  have hs := Same_any W (some ⟨q, 0, none⟩) A m m c cap bs bs (lent_rd hm hc ho) hm hr hm
  rw [show (bs == bs) = true from beq_self_eq_true _] at hs
  have HS := Lib.hid hs
  obtain ⟨g0, hg0, _, _, _, hcm, hcells, _⟩ := ownsRow_at ho (by omega)
  cases hg0
  have z0 : W.cell? ⟨q, m, none⟩ = some (.int .u8 165) := hcells m _ (by rw [bc_append, List.getElem?_append_right (by rw [bc_length]; omega), bc_length, hm, Nat.sub_self]; rfl)
  have z1 : W.cell? ⟨q, m + 1, none⟩ = some (.int .u8 166) := hcells (m + 1) _ (by rw [bc_append, List.getElem?_append_right (by rw [bc_length]; omega), bc_length, hm, Nat.add_sub_cancel_left]; rfl)
  have hcut := run_own_front q m (m + 2) c
  clear hr ho hcells hs hcut
  go_enter Try.func29, Try.ntmps29
  go_wp2_with (first
    | (go_at_call 16; (with_reducible refine HS.out.mono ?_); rintro e w ⟨rfl, rfl⟩))
  go_ret
  exact ⟨rfl, rfl⟩
theorem i64Sl : Try.prog.underlying 37 = some (.slice (Try.prog.elem 37)) := by kernel_rfl
theorem i64Sz (W : World) : (sizeOf (Try.prog.elem 37)).run Try.prog W = .ok 1 W := by kernel_rfl
theorem run_own_front64 (q m n cap : Nat) (hn : n ≤ cap) (hc : 0 < cap) : ∀ W : World, (Instr.sliceAt 37 (.slice (some ⟨q, 0, none⟩) m cap) none (some (.int .i64 (n : Int))) none).run Try.prog W = .ok (.slice (some ⟨q, 0, none⟩) n cap) W := by
  intro W
  rw [run_sliceAt_slice _ _ _ _ _ _ i64Sl, run_slice_h _ _ _ _ _ i64Sl _ _ (by omega) (by omega)]
  simp only [Int.toNat_natCast, i64Sz, Result.andThen_ok]
  unfold sliced
  rw [if_neg (by omega)]
  rfl
theorem ic_append (a b : List Int) : ic (a ++ b) = ic a ++ ic b := by simp [ic]
theorem ic_one (l : List Int) : ∀ u ∈ ic l, u.oneCell' = true := by
  intro u hu
  obtain ⟨x, -, rfl⟩ := List.mem_map.1 hu
  rfl
set_option maxRecDepth 100000 in
theorem lentList_any (A : Option Addr) (m cap : Nat) (l : List Int) (W : World) (hr : Rd W (.slice A m cap) m (ic l)) (hm : l.length = m) (hn : m ≤ 1099511627776) :
    Calls Try.prog 41 #[.slice A m cap] W fun e w' => ∃ q c, e = .returned (.slice (some ⟨q, 0, none⟩) m c) ∧ m + 1 ≤ c ∧ Below W.heap.size W w' ∧ w'.ownsRow W.heap.size 2 1 (.slice (some ⟨q, 0, none⟩) (m + 1) c) (m + 1) (ic (l ++ [771])) := by
  obtain ⟨i0, hi0, hz0, hz1, hz2⟩ := info_parts i64Info
  have HR := Lib.hid hr
  have HO : Hid (W.ownsRow W.heap.size 2 1 (.slice none 0 0) 0 []) := World.ownsRow_nil _ _ _ _
  have HM := Lib.hid hm
  have HBL : Hid ((ic l).length = m * 1) := by show _ = _; rw [ic_length, hm, Nat.mul_one]
  clear hr hm
  go_enter Try.func41, Try.ntmps41
  go_wp2_with (first
    | (at_builtin; refine wpList_append_rd _ rfl _ (.tmp 4) 37 rfl W.heap.size 2 i0 _ 1 8 Try.underlying37 hi0 hz0 hz1 hz2 rfl (by decide) _ 0 _ rfl HO.out A m cap (ic l) rfl HBL.out HR.out (ic_one l) (by simp only [maxLen]; omega) (by omega) (by omega) ?_; intro v1 w1 ho1 hg1 hat1
       have hb1 : Below W.heap.size W w1 := only_below hg1 (Nat.le_refl _) (fun b e => by cases e)
       rw [Nat.zero_add, List.nil_append] at ho1
       have HB1 := Lib.hid hb1
       have HRD := Lib.hid (rd_lit64 w1 #[.int .i64 771] 1 [771] (by decide) rfl rfl)
       have HO1 := Lib.hid (ho1.alloc (.cells #[.int .i64 771] 2))
       have hsz : W.heap.size ≤ (w1.alloc (.cells #[.int .i64 771] 2)).heap.size := by have := hb1.size; simp; omega
       have HSZ := Lib.hid hsz
       clear ho1 hg1 hat1 hb1 hsz)
    | (at_builtin; refine wpList_append_rd _ rfl (.tmp 5) (.tmp 6) 37 rfl W.heap.size 2 i0 _ 1 8 Try.underlying37 hi0 hz0 hz1 hz2 rfl (by decide) _ m _ rfl HO1.out (some ⟨w1.heap.size, 0, none⟩) 1 1 (ic [771]) rfl rfl HRD.out (ic_one _) (by simp only [maxLen]; omega) (by omega) HSZ.out ?_; intro v2 w2 ho2 hg2 hat2
       have hb2 : Below W.heap.size W w2 := (HB1.out.trans ((below_alloc w1 _).mono HB1.out.size)).grown hg2 HSZ.out (fun r e => (own_lt HO1.out e).1)
       rw [← ic_append] at ho2
       obtain ⟨a2, c2, rfl, hc2, hm2⟩ := ownsRow_shape ho2
       obtain ⟨q, rfl, hq, _, _, _, _, _⟩ := ownsRow_at ho2 (by omega)
       have hcut := run_own_front64 q (m + 1) m c2 (by omega) (by omega)
       have HB2 := Lib.hid hb2
       have HO2 := Lib.hid ho2
       have HC2 := Lib.hid hc2
       clear ho2 hg2 hat2 hb2 hc2))
  go_ret
  exact ⟨q, c2, rfl, HC2.out, HB2.out, HO2.out⟩
theorem lentList_rd {w : World} {B q m c : Nat} {l : List Int} (hm : l.length = m) (hc : m + 1 ≤ c) (h : w.ownsRow B 2 1 (.slice (some ⟨q, 0, none⟩) (m + 1) c) (m + 1) (ic (l ++ [771]))) : Rd w (.slice (some ⟨q, 0, none⟩) m c) m (ic l) := by
  obtain ⟨_, _, hv, h1, h2, hx⟩ := Rd.of_owns h
  cases hv
  refine ⟨_, _, rfl, by omega, h2, fun hp => ?_⟩
  obtain ⟨g, o, e, hg, hx⟩ := hx (by omega)
  refine ⟨g, o, e, hg, fun j u hj => hx j u ?_⟩
  rw [ic_append, List.getElem?_append_left (List.getElem?_eq_some_iff.1 hj).1]
  exact hj
set_option maxRecDepth 100000 in
theorem leftList_any (A : Option Addr) (m cap q c B : Nat) (l : List Int) (W : World) (hr : Rd W (.slice A m cap) m (ic l)) (hm : l.length = m) (hc : m + 1 ≤ c) (ho : W.ownsRow B 2 1 (.slice (some ⟨q, 0, none⟩) (m + 1) c) (m + 1) (ic (l ++ [771]))) (hn : m ≤ 1099511627776) :
    Calls Try.prog 43 #[.slice (some ⟨q, 0, none⟩) m c, .slice A m cap] W fun e w' => e = .returned (.bool true) ∧ Below W.heap.size W w' := by
  have HS := Lib.hid (SameList_any (some ⟨q, 0, none⟩) A m c cap l W (lentList_rd hm hc ho) hr hm)
  obtain ⟨g0, hg0, _, hgl, _, hcm, hcells, _⟩ := ownsRow_at ho (by omega)
  cases hg0
  have HZ : Hid (∀ w', Below W.heap.size W w' → w'.cell? ⟨q, m, none⟩ = some (.int .i64 771)) := fun w' hb => (hb.cell (p := ⟨q, m, none⟩) hgl).trans (hcells m _ (by rw [ic_append, List.getElem?_append_right (by simp [ic, hm]), ic_length, hm, Nat.sub_self]; rfl))
  clear hr ho hcells
  go_enter Try.func43, Try.ntmps43
  go_wp2_with (first
    | (go_at_call 58; (with_reducible refine HS.out.mono ?_); rintro e w1 ⟨rfl, hb⟩; have z0 := HZ.out w1 hb; have HB := Lib.hid hb; clear hb))
  go_ret
  exact ⟨rfl, HB.out⟩
end Go.Proofs.Ytmcgagjjgomkeaa
