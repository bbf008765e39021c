/- The walk of the law GroupsNames. -/
import Derived.Test.YtdbbipdkaahplaaKnown
namespace Go.Proofs.Ytdbbipdkaahplaa
open Go.RowKit

theorem byteInfo : (Try.prog.info? 5).map (fun i => (i.zero, i.size, i.bytes)) = some (some (.int .u8 0), 1, 1) := by kernel_rfl

def zeros (n : Nat) : ByteArray := strOfNums (List.replicate n 0)
theorem zeros_size (n : Nat) : (zeros n).size = n := by simp [zeros, strOfNums_size]
def zrow : Array Value := madeCells #[.int .u8 0] 257
theorem zrow_at (i : Nat) (h : i < 257) : zrow[i]? = some (.int .u8 0) := by
  unfold zrow madeCells
  rw [Array.getElem?_map, Array.getElem?_range, if_pos h]
  simp [Nat.mod_one]

set_option maxRecDepth 100000 in
set_option maxHeartbeats 1000000 in
theorem names_any (w : World) : Calls Try.prog 5 #[] w fun e w' => e = .returned (.bool true) ∧ Below w.heap.size w w' := by
  obtain ⟨i0, hi0, hz0, hz1, hz2⟩ := info_parts byteInfo
  have hmk : ∀ W : World, (Instr.makeSlice 41 (.int .i64 257) (.int .i64 257)).run Try.prog W = .ok (.slice (some ⟨W.heap.size, 0, none⟩) 257 257) (W.alloc (.cells zrow 5)) := fun W => by
    have h := run_make (P := Try.prog) W 41 5 i0 _ Try.underlying41 hi0 hz0 .i64 .i64 257 257 (by omega) (by omega) (by rw [hz2]; omega) (by omega)
    rw [h, hz1]; rfl
  have hcv : ∀ (n : Nat), n ≤ 257 → (convert 41 9 (.slice (some ⟨w.heap.size, 0, none⟩) n 257)).run Try.prog (w.alloc (.cells zrow 5)) = .ok (.string (zeros n)) (w.alloc (.cells zrow 5)) := fun n hn =>
    run_convert_bytes_arg (P := Try.prog) _ 41 5 Try.underlying41 Try.underlying5 w.heap.size 0 n 257 (List.replicate n 0) (by simp) (fun i hi => by
      have h := World.alloc_heap_new w (.cells zrow 5)
      simp only [World.cell?, h]
      simp only [Nat.zero_add]
      rw [if_neg (by simp), zrow_at i (by omega)]
      simp [List.getD, hi]) 9 Try.underlying9
  have hc1 := hcv 256 (by omega)
  have hc2 := hcv 257 (by omega)
  have hg1 : ∀ W, Calls Try.prog 16 #[.string (zeros 256), .int .i64 32768] W fun e w' => ∃ n, e = .returned (.tuple #[.int .i64 n, .int .i64 0]) ∧ W = w' := fun W => by
    have h := Group_any (zeros 256) 32768 W (by rw [zeros_size]; decide)
    rw [grpE_0 (by decide) (by simp [zeros_size])] at h
    exact h.mono fun _ _ hh => ⟨_, hh⟩
  have hg2 : ∀ W, Calls Try.prog 16 #[.string (zeros 257), .int .i64 32768] W fun e w' => ∃ n, e = .returned (.tuple #[.int .i64 n, .int .i64 3]) ∧ W = w' := fun W => by
    have h := Group_any (zeros 257) 32768 W (by rw [zeros_size]; decide)
    rw [grpE_3 (by decide) (by simp [zeros_size])] at h
    exact h.mono fun _ _ hh => ⟨_, hh⟩
  have hs1 : ∀ W, Calls Try.prog 17 #[.int .i64 32767, .int .i64 32768, .int .i64 32768] W fun e w' => e = .returned (.tuple #[.int .i64 32767, .int .i64 32768, .int .i64 0]) ∧ Below W.heap.size W w' := fun W =>
    Stretch_yes 32767 32768 32768 W (by decide) (by decide) (by decide)
  have hs2 : ∀ W, Calls Try.prog 17 #[.int .i64 0, .int .i64 32769, .int .i64 32769] W fun e w' => e = .returned (.tuple #[.int .i64 0, .int .i64 0, .int .i64 2]) ∧ Below W.heap.size W w' := fun W =>
    Stretch_no 0 32769 32769 W (by decide)
  have hw1 : ∀ W, Calls Try.prog 18 #[.int .i64 32767, .int .i64 32768, .int .i64 32768] W fun e w' => e = .returned (.tuple #[.int .i64 32767, .int .i64 0]) ∧ Below W.heap.size W w' := fun W =>
    Worker_yes 32767 32768 32768 W (by decide) (by decide) (by decide)
  have G1 := Lib.hid hg1
  have G2 := Lib.hid hg2
  have S1 := Lib.hid hs1
  have S2 := Lib.hid hs2
  have W1 := Lib.hid hw1
  clear hg1 hg2 hs1 hs2 hw1 hcv hi0 hz0 hz1 hz2
  generalize zeros 256 = z1 at *
  generalize zeros 257 = z2 at *
  generalize zrow = zr at *
  go_enter Try.func5, Try.ntmps5
  go_wp2_with fail
  (with_reducible refine (G1.out _).mono ?_); rintro e w1 ⟨n1, rfl, rfl⟩
  go_wp2_with fail
  (with_reducible refine (G2.out _).mono ?_); rintro e w1 ⟨n2, rfl, rfl⟩
  go_wp2_with fail
  (with_reducible refine (S1.out _).mono ?_); rintro e w1 ⟨rfl, hb1⟩
  go_wp2_with fail
  (with_reducible refine (S2.out _).mono ?_); rintro e w2 ⟨rfl, hb2⟩
  go_wp2_with fail
  (with_reducible refine (W1.out _).mono ?_); rintro e w3 ⟨rfl, hb3⟩
  go_wp2_with (first
    | (go_at_call 14; (with_reducible refine (num_any _ _).mono ?_); rintro e w' ⟨rfl, rfl⟩)
    | (go_at_call 11; (with_reducible refine (known_any _).mono ?_); rintro e w4 ⟨rfl, hb4⟩))
  go_ret
  exact ⟨rfl, below_trans (below_trans (below_trans (below_trans (below_alloc w _) hb1) hb2) hb3) hb4⟩
end Go.Proofs.Ytdbbipdkaahplaa
