/- The reader's Byte and Fixed. -/
import Derived.Test.YtaechgnjdjijkaaRd3
namespace Go.Proofs.Ytaechgnjdjijkaa
open Go.RowKit Go.Lib

theorem Raw_okz (B g at_ n : Nat) (v : Value) (bs : List UInt8) (w : World) (h : Rr w B g v bs at_) (z : Int) (hz : z = (n : Int)) (hn : at_ + n ≤ bs.length) (hmax : bs.length ≤ 140737488355328) : Calls Try.prog 64 #[.pointer (some ⟨g, 0, none⟩), .int .i64 z] w fun e w' =>
    ∃ v', e = .returned (.tuple #[v', .int .i64 0]) ∧ Rr w' B g v bs (at_ + n) ∧ w.grownBy w' (some g) ∧ w'.ownsRow w.heap.size 5 1 v' n (bc ((bs.take (at_ + n)).drop at_)) := by
  subst hz
  exact Raw_ok B g at_ n v bs w h hn hmax
end Go.Proofs.Ytaechgnjdjijkaa
