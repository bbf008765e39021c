/- The bytes of a writer, handed out; two lists of bytes compared as strings. -/
import Derived.Test.YtaechgnjdjijkaaRNum
import Derived.Laws.BytesArg
namespace Go.Proofs.Ytaechgnjdjijkaa
open Go.RowKit Go.Lib

set_option maxRecDepth 100000 in
theorem Bytes_any (B g : Nat) (v : Value) (bs : List UInt8) (W : World) (hw : Wr W B g v bs) (hn : bs.length ≤ 140737488355328) :
    Calls Try.prog 53 #[.pointer (some ⟨g, 0, none⟩)] W fun e w' => ∃ v', e = .returned v' ∧ Below W.heap.size W w' ∧ w'.ownsRow W.heap.size 5 1 v' bs.length (bc bs) := by
  have x0 : W.cell? ⟨g, 0, none⟩ = some v := hw.blk.cell 0
  have hr := Rd.of_owns hw.own
  obtain ⟨a, c, rfl, hc, hm⟩ := ownsRow_shape hw.own
  have HC := Lib.hid (Clone_any a bs.length c bs W hr rfl hn)
  clear hr hw
  go_enter Try.func53, Try.ntmps53
  go_wp2_with (first
    | (go_at_call 58; (with_reducible refine HC.out.mono ?_); rintro e w1 ⟨v1, rfl, hb1, ho1⟩
       have HB := Lib.hid hb1
       have HO := Lib.hid ho1
       clear hb1 ho1))
  go_ret
  exact ⟨v1, rfl, HB.out, HO.out⟩

theorem conv_rd (W : World) (A : Option Addr) (m cap : Nat) (ns : List UInt8) (hr : Rd W (.slice A m cap) m (bc ns)) (hm : ns.length = m) :
    (convert 25 9 (.slice A m cap)).run Try.prog W = .ok (.string ⟨ns.toArray⟩) W := by
  have hsx : strOfNums (ns.map fun b => (b.toNat : Int)) = ⟨ns.toArray⟩ := by
    unfold strOfNums
    rw [List.map_map]
    congr 2
    conv => rhs; rw [← List.map_id ns]
    apply List.map_congr_left
    intro b _
    simp
  obtain ⟨a, cap', hv, hc, hcm, h⟩ := hr
  cases hv
  cases A with
  | none =>
    have h0 : m = 0 := by
      rcases Nat.eq_zero_or_pos m with h1 | h1
      · exact h1
      · obtain ⟨g, o, e, _⟩ := h h1; cases e
    subst h0
    have hns : ns = [] := List.eq_nil_of_length_eq_zero hm
    subst hns
    rw [run_convert_bytes_nil W 25 5 Try.underlying25 Try.underlying5 0 cap 9 Try.underlying9]
    rfl
  | some ad =>
    rcases Nat.eq_zero_or_pos m with h1 | h1
    · subst h1
      have hns : ns = [] := List.eq_nil_of_length_eq_zero hm
      subst hns
      rw [run_convert_bytes_string W 25 9 5 _ 0 cap Try.underlying25 Try.underlying5 Try.underlying9, run_bytesToString W ad 0 cap [] (by simp [loadCells, loadCellsFrom, Sem.run_pure])]
      rfl
    · obtain ⟨g, o, e, hg, hcell⟩ := h h1
      cases e
      rw [run_convert_bytes_arg W 25 5 Try.underlying25 Try.underlying5 g o m cap (ns.map fun b => (b.toNat : Int)) (by simp [hm]) ?_ 9 Try.underlying9, hsx]
      intro i hi
      rw [hcell i _ (bc_at (List.getElem?_eq_getElem (by omega)))]
      simp [List.getD, List.getElem?_eq_getElem (show i < ns.length by omega)]

set_option maxRecDepth 100000 in
theorem Same_any (W : World) (A1 A2 : Option Addr) (m1 m2 c1 c2 : Nat) (ps bs : List UInt8) (h1 : Rd W (.slice A1 m1 c1) m1 (bc ps)) (hm1 : ps.length = m1) (h2 : Rd W (.slice A2 m2 c2) m2 (bc bs)) (hm2 : bs.length = m2) :
    Calls Try.prog 47 #[.slice A1 m1 c1, .slice A2 m2 c2] W fun e w' => e = .returned (.bool (ps == bs)) ∧ W = w' := by
  have hc1 := conv_rd W A1 m1 c1 ps h1 hm1
  have hc2 := conv_rd W A2 m2 c2 bs h2 hm2
  clear h1 hm1 h2 hm2
  go_enter Try.func47, Try.ntmps47
  go_wp2
  go_ret
  exact ⟨rfl, rfl⟩
end Go.Proofs.Ytaechgnjdjijkaa
