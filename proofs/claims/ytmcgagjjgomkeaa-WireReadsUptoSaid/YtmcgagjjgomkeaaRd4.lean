/- The reader's Byte and Fixed. -/
import Derived.Test.YtmcgagjjgomkeaaRd3
namespace Go.Proofs.Ytmcgagjjgomkeaa
open Go.RowKit Go.Lib

theorem Raw_okz (B g at_ n : Nat) (v : Value) (bs : List UInt8) (w : World) (h : Rr w B g v bs at_) (z : Int) (hz : z = (n : Int)) (hn : at_ + n ≤ bs.length) (hmax : bs.length ≤ 140737488355328) : Calls Try.prog 50 #[.pointer (some ⟨g, 0, none⟩), .int .i64 z] w fun e w' =>
    ∃ v', e = .returned (.tuple #[v', .int .i64 0]) ∧ Rr w' B g v bs (at_ + n) ∧ w.grownBy w' (some g) ∧ w'.ownsRow w.heap.size 5 1 v' n (bc ((bs.take (at_ + n)).drop at_)) := by
  subst hz
  exact Raw_ok B g at_ n v bs w h hn hmax
set_option maxRecDepth 100000 in
theorem RByte_ok (B g at_ : Nat) (b : UInt8) (v : Value) (bs : List UInt8) (w : World) (h : Rr w B g v bs at_) (hb : bs[at_]? = some b) (hmax : bs.length ≤ 140737488355328) : Calls Try.prog 59 #[.pointer (some ⟨g, 0, none⟩)] w fun e w' =>
    e = .returned (.tuple #[.int .u8 (b.toNat : Int), .int .i64 0]) ∧ Rr w' B g v bs (at_ + 1) ∧ w.grownBy w' (some g) := by
  have hlt : at_ < bs.length := (List.getElem?_eq_some_iff.1 hb).1
  have HR := Lib.hid (Raw_okz B g at_ 1 v bs w h 1 rfl (by omega) hmax)
  have hcell : (bc ((bs.take (at_ + 1)).drop at_))[0]? = some (.int .u8 (b.toNat : Int)) := by
    apply bc_at
    rw [List.getElem?_drop, List.getElem?_take_of_lt (by omega)]
    exact hb
  have HCL := Lib.hid hcell
  clear h hcell hb hlt
  go_enter Try.func59, Try.ntmps59
  go_wp2_with (first
    | (go_at_call 50; (with_reducible refine HR.out.mono ?_); rintro e w1 ⟨v1, rfl, hr1, hg1, ho1⟩
       obtain ⟨A, c, rfl, hc, hm⟩ := ownsRow_shape ho1
       obtain ⟨q, rfl, _, _, _, _, hcells, _⟩ := ownsRow_at ho1 (by decide)
       have z0 := hcells 0 _ HCL.out
       have HR1 := Lib.hid hr1
       have HG1 := Lib.hid hg1
       clear hr1 hg1 ho1 hcells))
  all_goals go_outline
  all_goals go_ret2
  all_goals exact ⟨rfl, HR1.out, HG1.out⟩
set_option maxRecDepth 100000 in
theorem RByte_end (B g at_ : Nat) (v : Value) (bs : List UInt8) (w : World) (h : Rr w B g v bs at_) (hb : bs.length ≤ at_) : Calls Try.prog 59 #[.pointer (some ⟨g, 0, none⟩)] w fun e w' =>
    e = .returned (.tuple #[.int .u8 0, .int .i64 110]) ∧ Below w.heap.size w w' := by
  have HR := Lib.hid (Raw_more B g at_ 1 v bs w h (by omega))
  clear h
  go_enter Try.func59, Try.ntmps59
  go_wp2_with (first
    | (go_at_call 50; (with_reducible refine HR.out.mono ?_); rintro e w1 ⟨rfl, hb1⟩; have HB1 := Lib.hid hb1; clear hb1))
  go_ret2
  exact ⟨rfl, HB1.out⟩
end Go.Proofs.Ytmcgagjjgomkeaa
