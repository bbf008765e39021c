/- That MergeOrder's great region may be walked in the order of its text: shown in parts, for the kernel's sake. -/
import Derived.Test.YtjdfjaocidjhlaaOdr
namespace Go.Proofs.Ytjdfjaocidjhlaa
open Go.RowKit Go.Shelf

def nthRegion (k : Nat) : Code → Option Code
  | .region i ops d => if i = k then some (.region i ops d) else none
  | .seq a b => match nthRegion k a with
    | some c => some c
    | none => nthRegion k b
  | .block _ c => nthRegion k c
  | .loop c => nthRegion k c
  | .cond _ a b => match nthRegion k a with
    | some c => some c
    | none => nthRegion k b
  | _ => none
def opsOf : Option Code → List Oper
  | some (.region _ ops _) => ops.toList
  | _ => []
noncomputable def ordOps : List Oper := opsOf (Try.f5.body.bind (nthRegion 27))
/-- The part of the lexical order's test from k on, m operations long. -/
def lexPart (md : Region.Mode) (ops : Array Oper) : Nat → Nat → Array Bool → Bool
  | 0, _, _ => true
  | m + 1, k, listed => (Region.ready md ops listed).contains k && Region.free md ops listed k && lexPart md ops m (k + 1) (listed.setIfInBounds k true)
def setN : Nat → Nat → Array Bool → Array Bool
  | 0, _, l => l
  | m + 1, k, l => setN m (k + 1) (l.setIfInBounds k true)
theorem lexFrom_part (md : Region.Mode) (ops : Array Oper) : ∀ (m k : Nat) (l : Array Bool) (fuel : Nat), lexPart md ops m k l = true → Region.lexFrom md ops fuel (k + m) (setN m k l) = true → Region.lexFrom md ops (fuel + m) k l = true
  | 0, k, l, fuel, _, h => by simpa [setN] using h
  | m + 1, k, l, fuel, h, hf => by
    simp only [lexPart, Bool.and_eq_true] at h
    obtain ⟨⟨h1, h2⟩, h3⟩ := h
    have e : fuel + (m + 1) = (fuel + m) + 1 := by omega
    rw [e]
    simp only [Region.lexFrom, Bool.and_eq_true]
    refine ⟨⟨h1, h2⟩, lexFrom_part md ops m (k + 1) _ fuel h3 ?_⟩
    rw [show k + 1 + m = k + (m + 1) by omega]
    exact hf
def lst (k : Nat) : Array Bool := (List.replicate k true ++ List.replicate (110 - k) false).toArray
set_option maxRecDepth 100000
theorem ordOps_len : ordOps.length = 110 := by kernel_rfl
theorem ord_p0 : lexPart .any ordOps.toArray 10 0 (lst 0) = true := by kernel_rfl
theorem ord_p10 : lexPart .any ordOps.toArray 10 10 (lst 10) = true := by kernel_rfl
theorem ord_p20 : lexPart .any ordOps.toArray 10 20 (lst 20) = true := by kernel_rfl
theorem ord_p30 : lexPart .any ordOps.toArray 10 30 (lst 30) = true := by kernel_rfl
theorem ord_p40 : lexPart .any ordOps.toArray 10 40 (lst 40) = true := by kernel_rfl
theorem ord_p50 : lexPart .any ordOps.toArray 10 50 (lst 50) = true := by kernel_rfl
theorem ord_p60 : lexPart .any ordOps.toArray 10 60 (lst 60) = true := by kernel_rfl
theorem ord_p70 : lexPart .any ordOps.toArray 10 70 (lst 70) = true := by kernel_rfl
theorem ord_p80 : lexPart .any ordOps.toArray 10 80 (lst 80) = true := by kernel_rfl
theorem ord_p90 : lexPart .any ordOps.toArray 10 90 (lst 90) = true := by kernel_rfl
theorem ord_p100 : lexPart .any ordOps.toArray 10 100 (lst 100) = true := by kernel_rfl
theorem ord_end : Region.lexFrom .any ordOps.toArray 0 110 (lst 110) = true := by kernel_rfl
theorem ord_sel : Region.noSelect ordOps.toArray = true := by kernel_rfl
theorem ord_q100 : Region.lexFrom .any ordOps.toArray 10 100 (lst 100) = true := lexFrom_part .any ordOps.toArray 10 100 (lst 100) 0 ord_p100 ((show setN 10 100 (lst 100) = lst 110 by kernel_rfl) ▸ ord_end)
theorem ord_q90 : Region.lexFrom .any ordOps.toArray 20 90 (lst 90) = true := lexFrom_part .any ordOps.toArray 10 90 (lst 90) 10 ord_p90 ((show setN 10 90 (lst 90) = lst 100 by kernel_rfl) ▸ ord_q100)
theorem ord_q80 : Region.lexFrom .any ordOps.toArray 30 80 (lst 80) = true := lexFrom_part .any ordOps.toArray 10 80 (lst 80) 20 ord_p80 ((show setN 10 80 (lst 80) = lst 90 by kernel_rfl) ▸ ord_q90)
theorem ord_q70 : Region.lexFrom .any ordOps.toArray 40 70 (lst 70) = true := lexFrom_part .any ordOps.toArray 10 70 (lst 70) 30 ord_p70 ((show setN 10 70 (lst 70) = lst 80 by kernel_rfl) ▸ ord_q80)
theorem ord_q60 : Region.lexFrom .any ordOps.toArray 50 60 (lst 60) = true := lexFrom_part .any ordOps.toArray 10 60 (lst 60) 40 ord_p60 ((show setN 10 60 (lst 60) = lst 70 by kernel_rfl) ▸ ord_q70)
theorem ord_q50 : Region.lexFrom .any ordOps.toArray 60 50 (lst 50) = true := lexFrom_part .any ordOps.toArray 10 50 (lst 50) 50 ord_p50 ((show setN 10 50 (lst 50) = lst 60 by kernel_rfl) ▸ ord_q60)
theorem ord_q40 : Region.lexFrom .any ordOps.toArray 70 40 (lst 40) = true := lexFrom_part .any ordOps.toArray 10 40 (lst 40) 60 ord_p40 ((show setN 10 40 (lst 40) = lst 50 by kernel_rfl) ▸ ord_q50)
theorem ord_q30 : Region.lexFrom .any ordOps.toArray 80 30 (lst 30) = true := lexFrom_part .any ordOps.toArray 10 30 (lst 30) 70 ord_p30 ((show setN 10 30 (lst 30) = lst 40 by kernel_rfl) ▸ ord_q40)
theorem ord_q20 : Region.lexFrom .any ordOps.toArray 90 20 (lst 20) = true := lexFrom_part .any ordOps.toArray 10 20 (lst 20) 80 ord_p20 ((show setN 10 20 (lst 20) = lst 30 by kernel_rfl) ▸ ord_q30)
theorem ord_q10 : Region.lexFrom .any ordOps.toArray 100 10 (lst 10) = true := lexFrom_part .any ordOps.toArray 10 10 (lst 10) 90 ord_p10 ((show setN 10 10 (lst 10) = lst 20 by kernel_rfl) ▸ ord_q20)
theorem ord_q0 : Region.lexFrom .any ordOps.toArray 110 0 (lst 0) = true := lexFrom_part .any ordOps.toArray 10 0 (lst 0) 100 ord_p0 ((show setN 10 0 (lst 0) = lst 10 by kernel_rfl) ▸ ord_q10)
theorem ord_lex : Region.lexB .any ordOps.toArray = true := by
  have h : Region.lexFrom .any ordOps.toArray ordOps.toArray.size 0 (Array.replicate ordOps.toArray.size false) = true := by
    rw [List.size_toArray, ordOps_len]
    exact ord_q0
  unfold Region.lexB
  rw [ord_sel, h]; rfl
end Go.Proofs.Ytjdfjaocidjhlaa
