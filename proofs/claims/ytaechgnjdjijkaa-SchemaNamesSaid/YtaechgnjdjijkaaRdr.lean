/- The reader: what it is in memory; Clone, NewReader, Place, Left. -/
import Derived.Test.YtaechgnjdjijkaaWr3
namespace Go.Proofs.Ytaechgnjdjijkaa
open Go.RowKit Go.Lib

set_option maxRecDepth 100000 in
theorem Clone_any (A : Option Addr) (m cap : Nat) (ns : List UInt8) (W : World) (hr : Rd W (.slice A m cap) m (bc ns)) (hm : ns.length = m) (hn : m ≤ 140737488355328) :
    Calls Try.prog 58 #[.slice A m cap] W fun e w' => ∃ v', e = .returned v' ∧ Below W.heap.size W w' ∧ w'.ownsRow W.heap.size 5 1 v' m (bc ns) := by
  obtain ⟨i0, hi0, hz0, hz1, hz2⟩ := info_parts u8Info
  cases A with
  | none =>
    have h0 : m = 0 := by
      obtain ⟨_, _, hv, _, _, h⟩ := hr
      cases hv
      rcases Nat.eq_zero_or_pos m with h1 | h1
      · exact h1
      · obtain ⟨g, o, e, _⟩ := h h1; cases e
    subst h0
    have hns : ns = [] := List.eq_nil_of_length_eq_zero hm
    subst hns
    have heq := fun W : World => Lib.run_eql_slice_nil (P := Try.prog) W 25 5 none 0 cap 0 0 Try.underlying25
    clear hr hm
    go_enter Try.func58, Try.ntmps58
    go_wp2
    go_ret
    exact ⟨_, rfl, Below.refl _ _, World.ownsRow_nil _ _ _ _⟩
  | some ad =>
    have hal := below_alloc W (.cells #[] 5)
    have HR := Lib.hid (hr.below hal)
    have HM := Lib.hid hm
    have HA := Lib.hid hal
    have HO := Lib.hid (World.ownsRow_lit (base := W.heap.size) (e := 5) (size := 1) W #[] 0 (Nat.le_refl _) (by decide) rfl)
    have heq := fun W : World => Lib.run_eql_slice_nil (P := Try.prog) W 25 5 (some ad) m cap 0 0 Try.underlying25
    clear hr hm hal
    go_enter Try.func58, Try.ntmps58
    go_wp2_with (first
      | (at_builtin; refine wpList_append_rd _ rfl (.tmp 5) (.tmp 6) 25 rfl W.heap.size 5 i0 _ 1 1 Try.underlying25 hi0 hz0 hz1 hz2 rfl (by decide) _ 0 [] rfl HO.out (some ad) m cap (bc ns) rfl (by rw [bc_length, HM.out, Nat.mul_one]) HR.out (bc_one _) (by simp only [maxLen]; omega) (by omega) (by simp) ?_; intro v1 w1 ho1 hg1 hat1
         have HB := Lib.hid (HA.out.grown hg1 (by simp) (fun r e => (HO.out.lt r e).1))
         have HO1 := Lib.hid ho1
         clear ho1 hg1 hat1))
    go_ret
    exact ⟨v1, rfl, HB.out, by have h := HO1.out; rw [Nat.zero_add] at h; exact h⟩

/-- A reader of these bytes, so many of them read. -/
structure Rr (W : World) (B g : Nat) (v : Value) (bs : List UInt8) (at_ : Nat) : Prop where
  blk : Bk W g 110 #[v, .int .i64 (at_ : Int)]
  own : W.ownsRow B 5 1 v bs.length (bc bs)
  le : at_ ≤ bs.length
theorem Rr.below {W W' : World} {B g at_ : Nat} {v : Value} {bs : List UInt8} (h : Rr W B g v bs at_) (hb : Below W.heap.size W W') : Rr W' B g v bs at_ := ⟨h.blk.below hb, own_below h.own hb, h.le⟩

set_option maxRecDepth 100000 in
theorem NewReader_any (A : Option Addr) (m cap : Nat) (ns : List UInt8) (W : World) (hr : Rd W (.slice A m cap) m (bc ns)) (hm : ns.length = m) (hn : m ≤ 140737488355328) :
    Calls Try.prog 36 #[.slice A m cap] W fun e w' => ∃ g v, e = .returned (.pointer (some ⟨g, 0, none⟩)) ∧ Below W.heap.size W w' ∧ W.heap.size ≤ g ∧ Rr w' W.heap.size g v ns 0 := by
  have HC := Lib.hid (Clone_any A m cap ns W hr hm hn)
  have HM := Lib.hid hm
  clear hr hm
  go_enter Try.func36, Try.ntmps36
  go_wp2_with (first
    | (go_at_call 58; (with_reducible refine HC.out.mono ?_); rintro e w1 ⟨v1, rfl, hb1, ho1⟩
       obtain ⟨a1, c1, rfl, _, _⟩ := ownsRow_shape ho1
       have HB := Lib.hid hb1
       have HO := Lib.hid ho1
       clear hb1 ho1))
  go_ret
  exact ⟨w1.heap.size, _, rfl, HB.out.alloc HB.out.size _, HB.out.size, ⟨Bk.new _ _ _, by have h := HO.out.alloc (.cells #[.slice a1 m c1, .int .i64 0] 110); rw [HM.out]; exact h, Nat.zero_le _⟩⟩

theorem Place_any (B g at_ : Nat) (v : Value) (bs : List UInt8) (W : World) (h : Rr W B g v bs at_) : Calls Try.prog 38 #[.pointer (some ⟨g, 0, none⟩)] W fun e w' => e = .returned (.int .i64 (at_ : Int)) ∧ W = w' := by
  have x1 : W.cell? ⟨g, 1, none⟩ = some (.int .i64 (at_ : Int)) := h.blk.cell 1
  clear h
  go_enter Try.func38, Try.ntmps38
  go_wp2
  go_ret
  exact ⟨rfl, rfl⟩
theorem Left_any (B g at_ : Nat) (v : Value) (bs : List UInt8) (W : World) (h : Rr W B g v bs at_) : Calls Try.prog 63 #[.pointer (some ⟨g, 0, none⟩)] W fun e w' => e = .returned (.int .i64 ((bs.length - at_ : Nat) : Int)) ∧ Below W.heap.size W w' := by
  have x0 : W.cell? ⟨g, 0, none⟩ = some v := h.blk.cell 0
  have x1 : W.cell? ⟨g, 1, none⟩ = some (.int .i64 (at_ : Int)) := h.blk.cell 1
  obtain ⟨a, c, rfl, hc, hm⟩ := ownsRow_shape h.own
  have hle := h.le
  unfold maxLen at hm
  have hs : Hid ((bs.length : Int) - (at_ : Int) = ((bs.length - at_ : Nat) : Int)) := by show _ = _; omega
  clear h
  go_enter Try.func63, Try.ntmps63
  go_wp2
  go_region
  all_goals go_wp2
  all_goals go_ret
  all_goals exact ⟨ret_int hs.out, below_drew _⟩
end Go.Proofs.Ytaechgnjdjijkaa
