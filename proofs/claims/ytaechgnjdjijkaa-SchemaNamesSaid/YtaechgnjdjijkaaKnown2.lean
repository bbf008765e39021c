/- What the law calls known: plainly. -/
import Derived.Test.YtaechgnjdjijkaaPutTop
import Derived.Test.YtaechgnjdjijkaaRead3
import Derived.Test.YtaechgnjdjijkaaKit2
import Derived.Test.YtaechgnjdjijkaaKnown
namespace Go.Proofs.Ytaechgnjdjijkaa
open Go.RowKit Go.Lib

/-- The document's job T. -/
def jobT : Cf := ⟨1, 1, 1, 10, 0, 0, 0, 0, 0, false⟩
theorem jobT_job : job jobT = true := by decide
theorem jobT_fit : jobT.Fit := by
  refine ⟨?_, ?_, ?_, ?_, ?_, ?_, ?_, ?_, ?_⟩ <;> (unfold jobT In64; simp)
/-- The window that the document names. -/
def wnT : Wn := ⟨0, 10, 3, 2, 9, 4, 5, 2, 1⟩
def knT : Kn := ⟨⟨#[]⟩, 0, [wnT]⟩
theorem wnT_fit : wnT.Fit := by
  refine ⟨?_, ?_, ?_, ?_, ?_, ?_, ?_, ?_, ?_⟩ <;> (unfold wnT In64; simp)
theorem knT_fit : knT.Fit := ⟨by unfold In64 knT; simp, fun x hx => by
  unfold knT at hx
  simp only [List.mem_singleton] at hx
  subst hx
  exact wnT_fit⟩
theorem rowTo_one {ses : Bool} {x : Wn} (h : okW x = true) : RowTo ses [x] 1 := fun i z hi hz => by
  obtain rfl : i = 0 := by omega
  simp only [List.getElem?_cons_zero, Option.some.injEq] at hz
  subst hz
  exact ⟨h, fun _ h => absurd h (Nat.lt_irrefl _)⟩
theorem knT_ok : putE jobT knT = 0 := by
  unfold putE
  rw [if_pos jobT_job, if_pos]
  refine keyB_yes ⟨by decide, by decide, ?_⟩
  exact rowTo_one (by decide)
theorem knT_bytes : keyBytes knT = [0, 0, 1, 0, 9, 6, 2, 18, 8, 10, 2, 1] := by
  have h9 : List.range 9 = [0, 1, 2, 3, 4, 5, 6, 7, 8] := by decide
  have h0 : (⟨#[]⟩ : ByteArray).size = 0 := rfl
  simp [keyBytes, knT, wnT, winsTo, winAt, winTo, fnum, lastOf, zig, num7_small, h9, h0]
theorem rdKey_known1 : rdKey jobT [1, 97, 3, 0, 9, 9] 0 = some (⟨⟨#[97]⟩, 3, []⟩, 4) := by
  have h1 : txE 256 [1, 97, 3, 0, 9, 9] 0 = 0 := by decide
  have h2 : rdAt [1, 97, 3, 0, 9, 9] 0 = (1, 1, 0) := by decide
  have h3 : rdAt [1, 97, 3, 0, 9, 9] 2 = (3, 1, 0) := by decide
  have h4 : rdAt [1, 97, 3, 0, 9, 9] 3 = (0, 1, 0) := by decide
  unfold rdKey
  rw [if_neg (by rw [h1]; simp)]
  simp only [h2]
  simp only [Nat.zero_add, Nat.reduceAdd, h3, h4, ne_eq, not_true_eq_false, if_false, rdWs]
  have hk : keyB (jobT.k == 3) ⟨⟨(cut [1, 97, 3, 0, 9, 9] 1 1).toArray⟩, wrap64 ((3 : Nat) : Int), []⟩ = true :=
    keyB_yes ⟨by decide, by rw [wi_iff]; simp [wrap64], rowTo_zero _ _⟩
  rw [if_pos hk]
  have hw : wrap64 ((3 : Nat) : Int) = 3 := by simp [wrap64]
  have hc : cut [1, 97, 3, 0, 9, 9] 1 1 = [97] := by decide
  rw [hw, hc]
theorem rdKey_known2 : rdKey jobT [1, 97, 3, 128, 0] 0 = none := by
  have h1 : txE 256 [1, 97, 3, 128, 0] 0 = 0 := by decide
  have h2 : rdAt [1, 97, 3, 128, 0] 0 = (1, 1, 0) := by decide
  have h3 : rdAt [1, 97, 3, 128, 0] 2 = (3, 1, 0) := by decide
  have h4 : (rdAt [1, 97, 3, 128, 0] 3).2.2 ≠ 0 := by decide
  unfold rdKey
  rw [if_neg (by rw [h1]; simp)]
  simp only [h2]
  simp only [Nat.zero_add, Nat.reduceAdd, h3]
  rw [if_neg (by simp), if_pos h4]
set_option maxRecDepth 100000 in
theorem job_any (w : World) : Calls Try.prog 33 #[] w fun e w' => e = .returned jobT.val ∧ Below w.heap.size w w' := by
  unfold Cf.val jobT
  go_enter Try.func33, Try.ntmps33
  go_wp2
  refine bodyPost_ret (results_cell_row Try.results33 _ _ w.heap.size 24 _ (0, 0) _ rfl (Bk.new w _ _) Try.underlying24 rfl (by kernel_rfl)) rfl ?_
  exact ⟨rfl, below_alloc w _⟩
end Go.Proofs.Ytaechgnjdjijkaa
