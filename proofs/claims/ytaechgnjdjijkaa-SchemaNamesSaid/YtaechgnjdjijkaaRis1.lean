/- The reader's Rising: what its closure reads. -/
import Derived.Test.YtaechgnjdjijkaaText
namespace Go.Proofs.Ytaechgnjdjijkaa
open Go.RowKit Go.Lib

theorem i64Info : (Try.prog.info? 2).map (fun i => (i.zero, i.size, i.bytes)) = some (some (.int .i64 0), 1, 8) := by kernel_rfl
/-- The list that is read: so many numbers to come, from here, behind these: the list, the place behind it, the error. -/
def rgL (bs : List UInt8) : Nat → Nat → List Int → List Int × Nat × Nat
  | 0, at_, out => (out, at_, 0)
  | n + 1, at_, out =>
    if (rdAt bs at_).2.2 ≠ 0 then (out, at_, (rdAt bs at_).2.2)
    else if out.length = 0 then rgL bs n (at_ + (rdAt bs at_).2.1) (out ++ [unz (rdAt bs at_).1])
    else if 9223372036854775807 ≤ out.getD (out.length - 1) 0 + (rdAt bs at_).1 then (out, at_, 112)
    else rgL bs n (at_ + (rdAt bs at_).2.1) (out ++ [out.getD (out.length - 1) 0 + (rdAt bs at_).1 + 1])
theorem unz_I64 {x : Nat} (h : x < 18446744073709551616) : I64 (unz x) := by
  unfold unz I64
  split <;> omega
theorem Rr.grew {w w' : World} {B B' g at_ n : Nat} {v q q' : Value} {bs : List UInt8} {e : TypeId} {size : Nat} {xs : List Value} (h : Rr w B g v bs at_) (ho : w.ownsRow B' e size q n xs) (hg : Grew w w' q q') (h1 : e ≠ 110) (h2 : 5 ≠ e) : Rr w' B g v bs at_ :=
  ⟨h.blk.grew hg (own_bk_ne ho h.blk h1), h.own.kept hg.only (own_own_ne h.own ho h2), h.le⟩
theorem Rr.put {w : World} {B g at_ c : Nat} {v : Value} {bs : List UInt8} {t : TypeId} {cs : Array Value} (h : Rr w B g v bs at_) (hc : Bk w c t cs) (u : Value) (h1 : 110 ≠ t) (h2 : 5 ≠ t) : Rr (w.setCell ⟨c, 0, none⟩ u) B g v bs at_ :=
  ⟨h.blk.far (p := ⟨c, 0, none⟩) (h.blk.ne hc h1) u, own_set h.own hc h2 0 u, h.le⟩
end Go.Proofs.Ytaechgnjdjijkaa
