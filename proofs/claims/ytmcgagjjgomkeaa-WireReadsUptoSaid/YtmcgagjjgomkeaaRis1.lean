/- The reader's Rising: what its closure reads. -/
import Derived.Test.YtmcgagjjgomkeaaText
namespace Go.Proofs.Ytmcgagjjgomkeaa
open Go.RowKit Go.Lib

theorem i64Info : (Try.prog.info? 2).map (fun i => (i.zero, i.size, i.bytes)) = some (some (.int .i64 0), 1, 8) := by kernel_rfl
/-- The list that is read: so many numbers to come, from here, behind these: the list, the place behind it, the error. -/
def rgL (bs : List UInt8) : Nat → Nat → List Int → List Int × Nat × Nat
  | 0, at_, out => (out, at_, 0)
  | n + 1, at_, out =>
    if (rdAt bs at_).2.2 ≠ 0 then (out, at_, (rdAt bs at_).2.2)
    else if out.length = 0 then rgL bs n (at_ + (rdAt bs at_).2.1) (out ++ [unz (rdAt bs at_).1])
    else if 9223372036854775807 ≤ out.getD (out.length - 1) 0 + (rdAt bs at_).1 then (out, at_, 112)
    else rgL bs n (at_ + (rdAt bs at_).2.1) (out ++ [out.getD (out.length - 1) 0 + (rdAt bs at_).1 + 1])
theorem unz_I64 {x : Nat} (h : x < 18446744073709551616) : I64 (unz x) := by
  unfold unz I64
  split <;> omega
theorem Rr.grew {w w' : World} {B B' g at_ n : Nat} {v q q' : Value} {bs : List UInt8} {e : TypeId} {size : Nat} {xs : List Value} (h : Rr w B g v bs at_) (ho : w.ownsRow B' e size q n xs) (hg : Grew w w' q q') (h1 : e ≠ 75) (h2 : 5 ≠ e) : Rr w' B g v bs at_ :=
  ⟨h.blk.grew hg (own_bk_ne ho h.blk h1), h.own.kept hg.only (own_own_ne h.own ho h2), h.le⟩
theorem Rr.put {w : World} {B g at_ c : Nat} {v : Value} {bs : List UInt8} {t : TypeId} {cs : Array Value} (h : Rr w B g v bs at_) (hc : Bk w c t cs) (u : Value) (h1 : 75 ≠ t) (h2 : 5 ≠ t) : Rr (w.setCell ⟨c, 0, none⟩ u) B g v bs at_ :=
  ⟨h.blk.far (p := ⟨c, 0, none⟩) (h.blk.ne hc h1) u, own_set h.own hc h2 0 u, h.le⟩
/-- What holds between the rounds: so many to come. -/
structure Rn (W0 : World) (B g c1 c2 : Nat) (v : Value) (bs : List UInt8) (RES : List Int × Nat × Nat) (x m at_ : Nat) (out : List Int) (q : Value) (w : World) : Prop where
  res : rgL bs m at_ out = RES
  rd : Rr w B g v bs at_
  gr : W0.grownBy w (some g)
  b1 : Bk w c1 44 #[.pointer (some ⟨g, 0, none⟩)]
  b2 : Bk w c2 37 #[q]
  own : w.ownsRow W0.heap.size 2 1 q out.length (ic out)
  rg : ∀ a ∈ out, I64 a
  nx : out.length + m ≤ x
  na : out.length ≤ at_
/-- A round that read a number and put one behind the list. -/
theorem Rn.more {W0 w w1 w2 : World} {B g c1 c2 x m at_ : Nat} {v q q2 : Value} {bs : List UInt8} {RES : List Int × Nat × Nat} {out : List Int} {n : Nat} {u : Int}
    (h : Rn W0 B g c1 c2 v bs RES x (m + 1) at_ out q w) (hc2 : W0.heap.size ≤ c2)
    (hr1 : Rr w1 B g v bs (at_ + n)) (hg1 : w.grownBy w1 (some g)) (hn : 0 < n)
    (hg2 : Grew w1 w2 q q2) (ho2 : w2.ownsRow W0.heap.size 2 1 q2 (out.length + 1) (ic out ++ [.int .i64 u]))
    (hres : rgL bs m (at_ + n) (out ++ [u]) = RES) (hu : I64 u) : Rn W0 B g c1 c2 v bs RES x m (at_ + n) (out ++ [u]) q2 (w2.setCell ⟨c2, 0, none⟩ q2) := by
  have k1 : Bk w1 c1 44 #[.pointer (some ⟨g, 0, none⟩)] := h.b1.grown hg1 (fun e => by cases e; exact h.rd.blk.ne h.b1 (by decide) rfl)
  have k2 : Bk w1 c2 37 #[q] := h.b2.grown hg1 (fun e => by cases e; exact h.rd.blk.ne h.b2 (by decide) rfl)
  have ko : w1.ownsRow W0.heap.size 2 1 q out.length (ic out) := h.own.kept hg1 (.inr (own_bk_ne h.own h.rd.blk (by decide)))
  have j1 := k1.grew hg2 (own_bk_ne ko k1 (by decide))
  have j2 := k2.grew hg2 (own_bk_ne ko k2 (by decide))
  have hr2 := hr1.grew ko hg2 (by decide) (by decide)
  have hgr : W0.grownBy w2 (some g) := only_step (only_step h.gr hg1 (fun b e => by cases e; exact .inl rfl)) hg2.only (fun b e => .inr (own_lt ko e).1)
  have hcc : c1 ≠ c2 := k1.ne k2 (by decide)
  refine ⟨hres, hr2.put j2 _ (by decide) (by decide), only_set hgr ⟨c2, 0, none⟩ _ (.inr hc2), j1.far (p := ⟨c2, 0, none⟩) hcc _, j2.set 0 _, ?_, ?_, ?_, ?_⟩
  · have e1 : (out ++ [u]).length = out.length + 1 := by simp
    have e2 : ic (out ++ [u]) = ic out ++ [.int .i64 u] := by simp [ic]
    rw [e1, e2]
    exact own_set ho2 j2 (by decide) 0 _
  · intro a ha
    rcases List.mem_append.1 ha with h1 | h1
    · exact h.rg a h1
    · simp only [List.mem_singleton] at h1; subst h1; exact hu
  · have := h.nx; simp; omega
  · have := h.na; simp; omega
end Go.Proofs.Ytmcgagjjgomkeaa
