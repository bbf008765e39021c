/- bits.Mul at 1 and a small number; slices.Repeat of one number. -/
import Derived.Test.YtdndljbagjfkkaaCk5
import Derived.Laws.Bits64b
import Derived.Laws.CopyOwn
import Derived.Deep.RegionLaw
namespace Go.Proofs.Ytdndljbagjfkkaa
open Go.RowKit Go.Lib

theorem mask32 (a : Nat) (ha : a < 4294967296) : bits .and .u64 (a : Int) 4294967295 = (a : Int) := by
  have h := bits_and_u64_nat a 4294967295 (by omega) (by omega)
  have e : a &&& 4294967295 = a % 4294967296 := Nat.and_two_pow_sub_one_eq_mod a 32
  rw [e, Nat.mod_eq_of_lt ha] at h
  exact h
set_option maxRecDepth 100000 in
theorem Mul64_one (n : Nat) (hn : n ≤ 64) (w : World) : Calls Try.prog 63 #[.int .u64 1, .int .u64 (n : Int)] w fun e w' => e = .returned (.tuple #[.int .u64 0, .int .u64 (n : Int)]) ∧ w = w' := by
  have h1 := mask32 n (by omega)
  have h2 : bits .and .u64 (1 : Int) 4294967295 = 1 := mask32 1 (by omega)
  have h0 : bits .and .u64 (0 : Int) 4294967295 = 0 := mask32 0 (by omega)
  have h3 : (n : Int) / 4294967296 = 0 := by omega
  have h4 : IntKind.u64.wrap (n : Int) = (n : Int) := by rw [IntKind.wrap_u64]; omega
  go_enter Try.func63, Try.ntmps63
  go_wp2
  go_ret2
  refine ⟨?_, rfl⟩
  clear h1 h2 h3 h4
  rfl
set_option maxRecDepth 100000 in
theorem Mul_one (n : Nat) (hn : n ≤ 64) (w : World) : Calls Try.prog 55 #[.int .u64 1, .int .u64 (n : Int)] w fun e w' => e = .returned (.tuple #[.int .u64 0, .int .u64 (n : Int)]) ∧ w = w' := by
  have HM := Lib.hid (Mul64_one n hn)
  clear hn
  go_enter Try.func55, Try.ntmps55
  go_wp2_with (first
    | (go_at_call 63; (with_reducible refine (HM.out _).mono ?_); rintro e wn ⟨rfl, rfl⟩))
  go_ret2
  exact ⟨rfl, rfl⟩
/-- A row that is filled from the front. -/
def rp (x : Int) (k n : Nat) : List Value := List.replicate k (.int .i64 x) ++ List.replicate (n - k) (.int .i64 0)
theorem rp_length (x : Int) {k n : Nat} (h : k ≤ n) : (rp x k n).length = n := by simp [rp]; omega
theorem rp_splice (x : Int) {k m n : Nat} (h : k + m ≤ n) : splice (rp x k n) k (List.replicate m (.int .i64 x)) = rp x (k + m) n := by
  unfold splice rp
  rw [List.take_left' (by simp), List.length_replicate, List.drop_append, List.drop_eq_nil_of_le (by simp)]
  simp only [List.length_replicate, List.nil_append, List.drop_replicate, ← List.append_assoc, List.replicate_append_replicate]
  congr 2
  omega
theorem rp_full (x : Int) (n : Nat) : rp x n n = ic (List.replicate n x) := by simp [rp, ic]
theorem rp_at (x : Int) {k n j : Nat} (h : j < k) : (rp x k n)[j]? = some (.int .i64 x) := by
  unfold rp
  rw [List.getElem?_append_left (by simpa using h)]
  simp [h]
theorem made_one (z : Value) (P : Nat) : madeCells #[z] P = (List.replicate P z).toArray := by
  unfold madeCells
  apply Array.ext
  · simp
  · intro i h1 h2
    simp [Nat.mod_one]
set_option maxRecDepth 100000 in
theorem cut_back {w : World} {g n k : Nat} (hk : k < n) : (Instr.sliceAt 32 (.slice (some ⟨g, 0, none⟩) n n) (some (.int .i64 (k : Int))) none none).run Try.prog w = .ok (.slice (some ⟨g, k, none⟩) (n - k) (n - k)) w := by
  obtain ⟨i0, hi0, hz0, hz1, hz2⟩ := info_parts i64Info
  rw [run_sliceAt_slice _ _ _ _ _ _ Try.underlying32, run_slice_l _ _ _ _ _ Try.underlying32 _ _ (by omega) (by omega)]
  simp [sizeOf, typeInfo, Program.elem, Try.underlying32, hi0, hz1, sliced, addr_add, Result.andThen_ok]
  omega
set_option maxRecDepth 100000 in
theorem cut_front {w : World} {g n k : Nat} (hk : k < n) : (Instr.sliceAt 32 (.slice (some ⟨g, 0, none⟩) n n) none (some (.int .i64 (k : Int))) none).run Try.prog w = .ok (.slice (some ⟨g, 0, none⟩) k n) w := by
  obtain ⟨i0, hi0, hz0, hz1, hz2⟩ := info_parts i64Info
  rw [run_sliceAt_slice _ _ _ _ _ _ Try.underlying32, run_slice_h _ _ _ _ _ Try.underlying32 _ _ (by omega) (by omega)]
  simp [sizeOf, typeInfo, Program.elem, Try.underlying32, hi0, hz1, sliced, Result.andThen_ok]
  intro _; rw [addr_add]
/-- What Repeat has filled. -/
structure Rf (W w : World) (g1 k n : Nat) (x : Int) : Prop where
  row : w.heap[g1]? = some (.cells (rp x k n).toArray 2 (0, 0))
  below : Below W.heap.size W w
  k0 : 0 < k
  kn : k ≤ n
theorem Rf.cells {W w : World} {g1 k n m : Nat} {x : Int} (h : Rf W w g1 k n x) (hm : m ≤ k) : ∀ j u, (List.replicate m (Value.int .i64 x))[j]? = some u → w.cell? ((⟨g1, 0, none⟩ : Addr).add j) = some u := fun j u hj => by
  have hjm : j < m := by
    rcases Nat.lt_or_ge j m with h1 | h1
    · exact h1
    · rw [List.getElem?_eq_none (by simpa using h1)] at hj; cases hj
  rw [addr_add, Nat.zero_add, cell_of_row w g1 j _ _ _ h.row]
  rw [List.getElem?_toArray, rp_at x (by omega)]
  simp [hjm] at hj
  rw [hj]
theorem Rf.owns {W w : World} {g1 n : Nat} {x : Int} (h : Rf W w g1 n n x) (hg : W.heap.size = g1) (hn : n ≤ 64) : w.ownsRow W.heap.size 2 1 (.slice (some ⟨g1, 0, none⟩) n n) n (ic (List.replicate n x)) := by
  refine ⟨by simp [ic], .inr ⟨g1, n, rp x n n |>.toArray, rfl, by omega, h.row, Nat.le_refl _, by unfold maxLen; omega, by simp [rp], ?_⟩⟩
  rw [rp_full]
  simp [ic]
set_option maxRecDepth 100000 in
set_option maxHeartbeats 1000000 in
theorem Repeat_one (g cap n : Nat) (x : Int) (W : World) (hx : W.cell? ⟨g, 0, none⟩ = some (.int .i64 x)) (hn : n ≤ 64) (h0 : 0 < n) :
    Calls Try.prog 33 #[.slice (some ⟨g, 0, none⟩) 1 cap, .int .i64 (n : Int)] W fun e w' => ∃ v', e = .returned v' ∧ Below W.heap.size W w' ∧ w'.ownsRow W.heap.size 2 1 v' n (ic (List.replicate n x)) := by
  obtain ⟨i0, hi0, hz0, hz1, hz2⟩ := info_parts i64Info
  have HM := Lib.hid (Mul_one n hn)
  have hsz : (Try.prog.info? 2).map (·.size) = some 1 := by rw [hi0]; simp [hz1]
  have hmk : ∀ W : World, (Instr.makeSlice 32 (.int .i64 (n : Int)) (.int .i64 (n : Int))).run Try.prog W = .ok (.slice (some ⟨W.heap.size, 0, none⟩) n n) (W.alloc (.cells (Array.replicate n (Value.int .i64 0)) 2)) := fun W => by
    have h := run_make (P := Try.prog) W 32 2 i0 _ Try.underlying32 hi0 hz0 .i64 .i64 (n : Int) (n : Int) (by omega) (by omega) (by rw [hz2]; omega) (by omega)
    rw [hz1, Nat.mul_one, Int.toNat_natCast] at h
    have hm := made_one (.int .i64 0) n
    rw [List.toArray_replicate] at hm
    rw [← hm]
    exact h
  have wn : IntKind.u64.wrap (n : Int) = (n : Int) := by rw [IntKind.wrap_u64]; omega
  have wi : IntKind.i64.wrap (n : Int) = (n : Int) := IntWalk.i64_in _ (by omega)
  have d1 : decide ((n : Int) < 0) = false := by simp
  have d3 : decide ((9223372036854775807 : Int) < (n : Int)) = false := by simp; omega
  obtain ⟨g1, hg1⟩ : ∃ g1, W.heap.size = g1 := ⟨_, rfl⟩
  obtain ⟨W1, hW1⟩ : ∃ W1, W1 = W.alloc (.cells (Array.replicate n (Value.int .i64 0)) 2) := ⟨_, rfl⟩
  have HG1 := Lib.hid hg1
  have hrow1 : W1.heap[g1]? = some (.cells (List.replicate n (Value.int .i64 0)).toArray 2 (0, 0)) := by rw [hW1, ← hg1, List.toArray_replicate]; exact heap_alloc_new _ _
  have hb1 : Below g1 W W1 := by rw [hW1, ← hg1]; exact below_alloc _ _
  have HMK : Hid (∀ j u, [Value.int .i64 x][j]? = some u → W1.cell? ((⟨g, 0, none⟩ : Addr).add j) = some u) := fun j u hj => by
    rw [addr_add, Nat.zero_add]
    have hlt := World.block_lt_of_cell? _ _ hx
    rcases j with _ | j
    · simp at hj; subst hj
      rw [hb1.cell (p := ⟨g, 0, none⟩) (by rw [← hg1]; exact hlt)]; exact hx
    · simp at hj
  have HROW := Lib.hid hrow1
  have HB1 := Lib.hid hb1
  have HW1 : Hid (W.alloc (.cells (Array.replicate n (Value.int .i64 0)) 2) = W1) := hW1.symm
  have HL1 : Hid ([Value.int .i64 x].length = Nat.min 1 n) := (Nat.min_eq_left (a := 1) (b := n) h0).symm
  have HF1 : Hid (0 + [Value.int .i64 x].length ≤ (List.replicate n (Value.int .i64 0)).length) := by show 0 + 1 ≤ _; rw [List.length_replicate]; exact h0
  have HO1 : Hid (∀ v ∈ [Value.int .i64 x], v.oneCell' = true) := fun v hv => by rcases List.mem_singleton.1 hv with rfl; rfl
  have HSP : Hid (some (Obj.cells (splice (List.replicate n (Value.int .i64 0)) 0 [Value.int .i64 x]).toArray 2) = some (Obj.cells (rp x 1 n).toArray 2)) := by
    have h := rp_splice x (k := 0) (m := 1) (n := n) h0
    simp only [rp, List.replicate_zero, List.nil_append, Nat.sub_zero, List.replicate_one, Nat.zero_add] at h
    show _ = _
    rw [h]; rfl
  clear hrow1 hb1 hW1
  go_enter Try.func33, Try.ntmps33
  go_wp2_with (first
    | (go_at_call 55; (with_reducible refine (HM.out _).mono ?_); rintro e wn ⟨rfl, rfl⟩)
    | (rw [HW1.out]
       with_reducible refine wpList_copy_splice rfl (.tmp 31) (.tmp 32) 32 32 rfl 2 Try.underlying32 hsz _ _ _ _ _ _ rfl rfl g1 0 (List.replicate n (Value.int .i64 0)) 2 HROW.out [Value.int .i64 x] HL1.out (fun _ => ⟨rfl, _, rfl, HMK.out⟩) HF1.out HO1.out g1 W HB1.out (Nat.le_refl _) ?_
       intro w2 hr2 hb2
       have HRF : Hid (Rf W w2 g1 1 n x) := ⟨by rw [hr2.out]; exact HSP.out, by rw [HG1.out]; exact hb2, by omega, by omega⟩
       clear hr2 hb2))
  go_loopw [8] (fun iv wr => ∃ k : Nat, iv = .int .i64 (k : Int) ∧ Rf W wr g1 k n x) (fun iv _ => n - (intOf iv).toNat)
  case atStart => exact ⟨1, rfl, HRF.out⟩
  case round =>
    obtain ⟨k, rfl, hr⟩ := hrel
    have HR := Lib.hid hr
    have hkn := hr.kn
    have hk0 := hr.k0
    clear HRF hr
    by_cases hk : k < n
    · have d5 : decide (k < n) = true := by simpa using hk
      have HRD : Hid (Rf W wr.drew g1 k n x) := ⟨HR.out.row, HR.out.below.drew, HR.out.k0, HR.out.kn⟩
      have cb := fun w : World => cut_back (w := w) (g := g1) hk
      have cf := fun w : World => cut_front (w := w) (g := g1) hk
      obtain ⟨m, hm⟩ : ∃ m, Nat.min k (n - k) = m := ⟨_, rfl⟩
      have hmk : m ≤ k := by rw [← hm]; exact Nat.min_le_left _ _
      have hmn : m ≤ n - k := by rw [← hm]; exact Nat.min_le_right _ _
      have hm0 : 0 < m := by rw [← hm]; exact Nat.lt_min.2 ⟨hk0, by omega⟩
      have HL : Hid ((List.replicate m (Value.int .i64 x)).length = Nat.min k (n - k)) := by show _ = _; rw [hm]; simp
      have HF : Hid (k + (List.replicate m (Value.int .i64 x)).length ≤ (rp x k n).length) := by show _ ≤ _; rw [rp_length x hkn]; simp; omega
      have HO : Hid (∀ v ∈ List.replicate m (Value.int .i64 x), v.oneCell' = true) := fun v hv => by rcases (List.mem_replicate.1 hv).2; rfl
      have HSP := Lib.hid (rp_splice x (k := k) (m := m) (n := n) (by omega))
      have HLM : Hid ((List.replicate m (Value.int .i64 x)).length = m) := by show _ = _; simp
      have wk : IntKind.i64.wrap ((k : Int) + (m : Int)) = ((k + m : Nat) : Int) := by rw [IntWalk.i64_in _ (by omega)]; omega
      have HPOS : Hid (∀ j v, (List.replicate m (Value.int .i64 x))[j]? = some v → wr.drew.cell? ((⟨g1, 0, none⟩ : Addr).add j) = some v) := HRD.out.cells hmk
      have HBB : Hid (Below g1 W wr.drew) := by show Below _ _ _; have h := HRD.out.below; rw [HG1.out] at h; exact h
      generalize hCS : List.replicate m (Value.int .i64 x) = CS at *
      have HCS := Lib.hid hCS
      clear hCS hm
      go_wp2
      go_region_law (first
        | (refine step_copy_splice (by rfl) (.tmp 41) (.tmp 44) 32 32 (by rfl) 2 Try.underlying32 hsz (some ⟨g1, k, none⟩) (some ⟨g1, 0, none⟩) (n - k) (n - k) k n (by go_simp) (by go_simp) g1 k (rp x k n) 2 HRD.out.row CS HL.out (fun _ => ⟨rfl, _, rfl, HPOS.out⟩) HF.out HO.out g1 W HBB.out (Nat.le_refl _) ?_
           intro w4 hr4 hb4
           have HR4 : Hid (Rf W w4 g1 (k + m) n x) := ⟨by rw [hr4.out, HSP.out], by rw [HG1.out]; exact hb4, by omega, by omega⟩
           clear hr4 hb4
           rw [HLM.out]))
      go_simp
      go_wp2
      go_roundw
      case rel => exact ⟨k + m, by go_num, HR4.out⟩
      case measure => simp [intOf]; omega
    · have d5 : decide (k < n) = false := by simpa using hk
      obtain rfl : k = n := by omega
      go_wp2
      go_ret
      exact ⟨_, rfl, HR.out.below, HR.out.owns HG1.out hn⟩
end Go.Proofs.Ytdndljbagjfkkaa
