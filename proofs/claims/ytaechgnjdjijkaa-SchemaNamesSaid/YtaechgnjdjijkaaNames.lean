/- The walk of the law SchemaNames. -/
import Derived.Test.YtaechgnjdjijkaaReadAll
import Derived.Test.YtaechgnjdjijkaaOpen
namespace Go.Proofs.Ytaechgnjdjijkaa
open Go.RowKit Go.Lib

def zrow : Array Value := madeCells #[.int .u8 0] 256
theorem zrow_at (i : Nat) (h : i < 256) : zrow[i]? = some (.int .u8 0) := by
  unfold zrow madeCells
  rw [Array.getElem?_map, Array.getElem?_range, if_pos h]
  simp [Nat.mod_one]
def zlist : List UInt8 := List.replicate 256 0
def zstr : ByteArray := ⟨zlist.toArray⟩
theorem zstr_size : zstr.size = 256 := by
  show zlist.toArray.size = 256
  rw [List.size_toArray]
  exact List.length_replicate
theorem zrd (w : World) : Rd (w.alloc (.cells zrow 5)) (.slice (some ⟨w.heap.size, 0, none⟩) 256 256) 256 (bc zlist) :=
  ⟨_, 256, rfl, Nat.le_refl _, by unfold maxLen; omega, fun _ => ⟨w.heap.size, 0, rfl, by simp, fun j u hj => by
    have hj2 : j < 256 := by have := (List.getElem?_eq_some_iff.1 hj).1; rwa [bc_length, zlist, List.length_replicate] at this
    have h0 : zlist[j]? = some 0 := by unfold zlist; rw [List.getElem?_replicate, if_pos hj2]
    have h := Bk.new w 5 zrow
    rw [Nat.zero_add, h.cell j, zrow_at j hj2]
    rw [bc_at h0] at hj
    cases hj
    rfl⟩⟩
def kn1 : Kn := ⟨zstr, 9007199254740992, []⟩
def kn2 : Kn := ⟨zstr, 9007199254740993, []⟩
theorem kn1_fit : kn1.Fit := ⟨by unfold In64 kn1; simp, fun x hx => by simp [kn1] at hx⟩
theorem kn1_ok : putE jobT kn1 = 0 := by
  unfold putE
  rw [if_pos jobT_job, if_pos]
  exact keyB_yes ⟨by show zstr.size ≤ 256; rw [zstr_size]; omega, by rw [wi_iff]; exact ⟨by decide, by decide⟩, rowTo_zero _ _⟩
theorem kn2_no : putE jobT kn2 = 6 := by
  unfold putE
  rw [if_pos jobT_job, if_neg]
  intro h
  have := wi_iff.1 (keyB_iff.1 h).2.1
  have h2 : kn2.dr = 9007199254740993 := rfl
  omega
theorem kn1_len : (keyBytes kn1).length = 267 := by
  have h1 : (num7 256).length = 2 := by rw [num7_big (by decide), num7_small (by decide)]; rfl
  have h2 : (num7 9007199254740992).length = 8 := by
    rw [num7_big (by decide), num7_big (by decide), num7_big (by decide), num7_big (by decide), num7_big (by decide), num7_big (by decide), num7_big (by decide), num7_small (by decide)]; rfl
  have h3 : (num7 0).length = 1 := by rw [num7_small (by decide)]; rfl
  have h4 : kn1.key.size = 256 := zstr_size
  have h5 : kn1.key.data.toList.length = 256 := zstr_size
  have h6 : kn1.dr.toNat = 9007199254740992 := rfl
  have h7 : kn1.ws = [] := rfl
  unfold keyBytes
  rw [h6, h7, h4]
  simp only [List.length_append, h1, h2, h5, List.length_nil, h3, winsTo, List.range_zero, List.flatMap_nil]
def longN : List UInt8 := [0, 0, 255, 255, 255, 255, 255, 255, 255, 255, 255, 1, 0]
theorem long_0 : rdAt longN 0 = (0, 1, 0) := by decide
theorem long_1 : rdAt longN 1 = (0, 1, 0) := by decide
theorem long_2 : rdAt longN 2 = (18446744073709551615, 10, 0) := by decide
theorem long_12 : rdAt longN 12 = (0, 1, 0) := by decide
theorem long_13 : (rdAt longN 13).2.2 ≠ 0 := by decide
theorem long_rdTo : rdTo longN none 12 9 = none := by
  have h1 : rdTo longN none 12 1 = some (wn0.put 0 (fget longN none wn0 12 0).1, 12 + (rdAt longN 12).2.1) := rdTo_succ rfl (by decide)
  have h2 : (fget longN none (wn0.put 0 (fget longN none wn0 12 0).1) (12 + (rdAt longN 12).2.1) 1).2 ≠ 0 := by decide
  exact rdTo_stop h1 h2 7
theorem long_rdKey : rdKey jobT longN 0 = none := by
  have h1 : txE 256 longN 0 = 0 := by decide
  unfold rdKey
  rw [if_neg (by rw [h1]; simp)]
  simp only [long_0]
  simp only [Nat.zero_add, Nat.add_zero, long_1]
  rw [if_neg (by simp)]
  simp only [Nat.reduceAdd, long_2]
  rw [if_neg (by simp)]
  have e : rdWs longN 18446744073709551615 12 [] = none := by
    show rdWs longN (18446744073709551614 + 1) 12 [] = none
    rw [rdWs]
    have : lastS [] = none := rfl
    rw [this, long_rdTo]
  rw [e]
theorem long_skTo : skTo longN 0 = none := by
  have h1 : txE longN.length longN 0 = 0 := by decide
  unfold skTo
  rw [if_neg (by rw [h1]; simp)]
  simp only [long_0]
  simp only [Nat.zero_add, Nat.add_zero, long_1]
  rw [if_neg (by simp)]
  simp only [Nat.reduceAdd, long_2]
  rw [if_neg (by simp)]
  have e : skN longN (18446744073709551615 * 9) 12 = none := by
    show skN longN (166020696663385964533 + 1 + 1) 12 = none
    rw [skN, if_neg (by rw [long_12]; simp), long_12]
    rw [skN]
    exact if_pos long_13
  rw [e]
set_option maxRecDepth 100000 in
set_option maxHeartbeats 1000000 in
theorem names_any (W : World) : Calls Try.prog 8 #[] W fun e w' => e = .returned (.bool true) ∧ Below W.heap.size W w' := by
  obtain ⟨i0, hi0, hz0, hz1, hz2⟩ := info_parts u8Info
  have hmk : ∀ w : World, (Instr.makeSlice 25 (.int .i64 256) (.int .i64 256)).run Try.prog w = .ok (.slice (some ⟨w.heap.size, 0, none⟩) 256 256) (w.alloc (.cells zrow 5)) := fun w => by
    have h := run_make (P := Try.prog) w 25 5 i0 _ Try.underlying25 hi0 hz0 .i64 .i64 256 256 (by omega) (by omega) (by rw [hz2]; omega) (by omega)
    rw [h, hz1]; rfl
  have HJ := Lib.hid job_any
  have HCV : Hid (∀ w : World, (convert 25 9 (.slice (some ⟨w.heap.size, 0, none⟩) 256 256)).run Try.prog (w.alloc (.cells zrow 5)) = .ok (.string zstr) (w.alloc (.cells zrow 5))) := Lib.hid fun w => conv_rd _ _ 256 256 zlist (zrd w) (by simp [zlist])
  have HP1 : Hid (∀ w, Calls Try.prog 19 #[jobT.val, .agg #[.string zstr, .int .i64 9007199254740992, .slice none 0 0]] w fun e w' => ∃ A cap, e = .returned (.tuple #[.slice A 267 cap, .int .i64 0]) ∧ Below w.heap.size w w') := Lib.hid fun w => by
    refine (Put_ok jobT jobT_fit kn1 kn1_fit _ w ⟨none, 0, rfl, rd_nil w⟩ kn1_ok (by have := zstr_size; show zstr.size + 90 * 0 + 200 ≤ _; omega)).mono fun e w' => ?_
    rintro ⟨v', rfl, hb, ho⟩
    obtain ⟨A, cap, rfl, -, -⟩ := ownsRow_shape ho
    rw [kn1_len]
    exact ⟨A, cap, rfl, hb⟩
  have HP2 : Hid (∀ w, Calls Try.prog 19 #[jobT.val, .agg #[.string zstr, .int .i64 9007199254740993, .slice none 0 0]] w fun e w' => e = .returned (.tuple #[.slice none 0 0, .int .i64 6]) ∧ Below w.heap.size w w') := Lib.hid fun w => by
    have h := Put_bad jobT jobT_fit kn2 _ w ⟨none, 0, rfl, rd_nil w⟩ (by rw [kn2_no]; decide)
    rw [kn2_no] at h
    exact h
  have HR := Lib.hid fun w => Read_any jobT jobT_fit jobT_job (some ⟨w.heap.size, 0, none⟩) 13 13 longN _ (rd_lit8 w #[.int .u8 0, .int .u8 0, .int .u8 255, .int .u8 255, .int .u8 255, .int .u8 255, .int .u8 255, .int .u8 255, .int .u8 255, .int .u8 255, .int .u8 255, .int .u8 1, .int .u8 0] 13 longN (by decide) rfl rfl) rfl (by decide)
  have HS : Hid (∀ (w : World) (g : Nat), w.heap.size = g → Calls Try.prog 11 #[.slice (some ⟨g, 0, none⟩) 13 13] (w.alloc (.cells #[.int .u8 0, .int .u8 0, .int .u8 255, .int .u8 255, .int .u8 255, .int .u8 255, .int .u8 255, .int .u8 255, .int .u8 255, .int .u8 255, .int .u8 255, .int .u8 1, .int .u8 0] 5)) fun e w' => e = .returned (.tuple #[.string ⟨#[]⟩, .int .i64 0, .int .i64 290]) ∧ Below w.heap.size w w') := Lib.hid fun w g hg => by
    subst hg
    have h := Skip_any (some ⟨w.heap.size, 0, none⟩) 13 13 longN _ (rd_lit8 w #[.int .u8 0, .int .u8 0, .int .u8 255, .int .u8 255, .int .u8 255, .int .u8 255, .int .u8 255, .int .u8 255, .int .u8 255, .int .u8 255, .int .u8 255, .int .u8 1, .int .u8 0] 13 longN (by decide) rfl rfl) rfl (by decide)
    rw [long_skTo] at h
    exact h.mono fun e w' ⟨h1, h2⟩ => ⟨h1, below_trans (below_alloc w _) h2⟩
  have HA := Lib.hid fun w => ReadAll_any jobT jobT_fit jobT_job none 0 0 [] w (rd_nil w) rfl (by decide)
  have HN := Lib.hid num_any
  have HKN := Lib.hid known_any
  rw [long_rdKey] at HR
  rw [rdAll_nil] at HA
  unfold Cf.val jobT at *
  simp only at HJ HP1 HP2 HR HA
  clear hi0 hz0 hz1 hz2
  generalize zstr = zs at *
  generalize zrow = zr at *
  go_enter Try.func8, Try.ntmps8
  go_wp2_with fail
  refine (HJ.out _).mono ?_
  rintro e w1 ⟨rfl, hb1⟩
  have HB1 := Lib.hid hb1
  clear hb1
  have hcv := HCV.out (w1.alloc (.cells #[.int .i64 1, .int .i64 1, .int .i64 1, .int .i64 10, .int .i64 0, .int .i64 0, .int .i64 0, .int .i64 0, .int .i64 0, .bool false] 24))
  simp only [World.size_alloc] at hcv
  go_wp2_with fail
  obtain ⟨w2, hw2⟩ : ∃ w2, ((w1.alloc (.cells #[.int .i64 1, .int .i64 1, .int .i64 1, .int .i64 10, .int .i64 0, .int .i64 0, .int .i64 0, .int .i64 0, .int .i64 0, .bool false] 24)).alloc (.cells zr 5)).alloc (.cells #[.string zs, .int .i64 9007199254740992, .slice none 0 0] 29) = w2 := ⟨_, rfl⟩
  have HK2 : Hid (Bk w2 (w1.heap.size + 1 + 1) 29 #[.string zs, .int .i64 9007199254740992, .slice none 0 0]) := Lib.hid (by subst hw2; exact Bk.new' _ _ _ _ (by simp))
  have HC2 : Hid (Bk w2 w1.heap.size 24 #[.int .i64 1, .int .i64 1, .int .i64 1, .int .i64 10, .int .i64 0, .int .i64 0, .int .i64 0, .int .i64 0, .int .i64 0, .bool false]) := Lib.hid (by subst hw2; exact ((Bk.new w1 _ _).alloc _).alloc _)
  have HB2 : Hid (Below W.heap.size W w2) := Lib.hid (by subst hw2; exact ((HB1.out.alloc HB1.out.size _).alloc (by have := HB1.out.size; simp; omega) _).alloc (by have := HB1.out.size; simp; omega) _)
  rw [hw2]
  clear hw2 hcv
  refine (HP1.out _).mono ?_
  rintro e w3 ⟨A3, cap3, rfl, hb3⟩
  have HK3 := Lib.hid (HK2.out.below hb3)
  have HC3 := Lib.hid (HC2.out.below hb3)
  have HB3 := Lib.hid (below_trans HB2.out hb3)
  have hz : W.heap.size ≤ w1.heap.size := HB1.out.size
  have k1 : w3.cell? ⟨w1.heap.size + 1 + 1, 1, none⟩ = some (.int .i64 9007199254740992) := HK3.out.cell 1
  have f1 := HK3.out.frozen 1
  clear hb3
  go_upto_region 5 with (fail)
  obtain ⟨w4, hw4⟩ : ∃ w4, w3.setCell ⟨w1.heap.size + 1 + 1, 1, none⟩ (.int .i64 9007199254740993) = w4 := ⟨_, rfl⟩
  have hk4 : Bk w4 (w1.heap.size + 1 + 1) 29 #[.string zs, .int .i64 9007199254740993, .slice none 0 0] := by subst hw4; exact HK3.out.set 1 _
  have HC4 : Hid (Bk w4 w1.heap.size 24 #[.int .i64 1, .int .i64 1, .int .i64 1, .int .i64 10, .int .i64 0, .int .i64 0, .int .i64 0, .int .i64 0, .int .i64 0, .bool false]) := Lib.hid (by subst hw4; exact HC3.out.far (p := ⟨w1.heap.size + 1 + 1, 1, none⟩) (by show w1.heap.size ≠ w1.heap.size + 1 + 1; omega) _)
  have HB4 : Hid (Below W.heap.size W w4) := Lib.hid (by subst hw4; exact HB3.out.setCell (p := ⟨w1.heap.size + 1 + 1, 1, none⟩) (by show W.heap.size ≤ w1.heap.size + 1 + 1; omega) _)
  have k0 : w4.cell? ⟨w1.heap.size + 1 + 1, 0, none⟩ = some (.string zs) := hk4.cell 0
  have k1' : w4.cell? ⟨w1.heap.size + 1 + 1, 1, none⟩ = some (.int .i64 9007199254740993) := hk4.cell 1
  have k2 : w4.cell? ⟨w1.heap.size + 1 + 1, 2, none⟩ = some (.slice none 0 0) := hk4.cell 2
  have c0 : w4.cell? ⟨w1.heap.size, 0, none⟩ = some (.int .i64 1) := HC4.out.cell 0
  have c1 : w4.cell? ⟨w1.heap.size, 1, none⟩ = some (.int .i64 1) := HC4.out.cell 1
  have c2 : w4.cell? ⟨w1.heap.size, 2, none⟩ = some (.int .i64 1) := HC4.out.cell 2
  have c3 : w4.cell? ⟨w1.heap.size, 3, none⟩ = some (.int .i64 10) := HC4.out.cell 3
  have c4 : w4.cell? ⟨w1.heap.size, 4, none⟩ = some (.int .i64 0) := HC4.out.cell 4
  have c5 : w4.cell? ⟨w1.heap.size, 5, none⟩ = some (.int .i64 0) := HC4.out.cell 5
  have c6 : w4.cell? ⟨w1.heap.size, 6, none⟩ = some (.int .i64 0) := HC4.out.cell 6
  have c7 : w4.cell? ⟨w1.heap.size, 7, none⟩ = some (.int .i64 0) := HC4.out.cell 7
  have c8 : w4.cell? ⟨w1.heap.size, 8, none⟩ = some (.int .i64 0) := HC4.out.cell 8
  have c9 : w4.cell? ⟨w1.heap.size, 9, none⟩ = some (.bool false) := HC4.out.cell 9
  rw [hw4]
  clear hw4 k1 f1 hk4
  go_wp2_with fail
  refine (HP2.out _).mono ?_
  rintro e w5 ⟨rfl, hb5⟩
  have HC5 := Lib.hid (HC4.out.below hb5)
  have HB5 := Lib.hid (below_trans HB4.out hb5)
  clear hb5 k0 k1' k2 c0 c1 c2 c3 c4 c5 c6 c7 c8 c9
  have c0 : w5.cell? ⟨w1.heap.size, 0, none⟩ = some (.int .i64 1) := HC5.out.cell 0
  have c1 : w5.cell? ⟨w1.heap.size, 1, none⟩ = some (.int .i64 1) := HC5.out.cell 1
  have c2 : w5.cell? ⟨w1.heap.size, 2, none⟩ = some (.int .i64 1) := HC5.out.cell 2
  have c3 : w5.cell? ⟨w1.heap.size, 3, none⟩ = some (.int .i64 10) := HC5.out.cell 3
  have c4 : w5.cell? ⟨w1.heap.size, 4, none⟩ = some (.int .i64 0) := HC5.out.cell 4
  have c5 : w5.cell? ⟨w1.heap.size, 5, none⟩ = some (.int .i64 0) := HC5.out.cell 5
  have c6 : w5.cell? ⟨w1.heap.size, 6, none⟩ = some (.int .i64 0) := HC5.out.cell 6
  have c7 : w5.cell? ⟨w1.heap.size, 7, none⟩ = some (.int .i64 0) := HC5.out.cell 7
  have c8 : w5.cell? ⟨w1.heap.size, 8, none⟩ = some (.int .i64 0) := HC5.out.cell 8
  have c9 : w5.cell? ⟨w1.heap.size, 9, none⟩ = some (.bool false) := HC5.out.cell 9
  go_wp2_with fail
  refine (HR.out _).mono ?_
  rintro e w6 ⟨hb6, rfl⟩
  have HC6 := Lib.hid ((HC5.out.alloc _).below hb6)
  have HB6 := Lib.hid (below_trans (below_trans HB5.out (below_alloc w5 _)) hb6)
  clear hb6 c0 c1 c2 c3 c4 c5 c6 c7 c8 c9
  go_wp2_with fail
  refine (HS.out (w6.alloc (.cells #[.string ⟨#[]⟩, .int .i64 0, .slice none 0 0] 29)) _ (by simp)).mono ?_
  rintro e w7 ⟨rfl, hb7⟩
  have HB7 := Lib.hid (below_trans (below_trans HB6.out (below_alloc w6 (.cells #[.string ⟨#[]⟩, .int .i64 0, .slice none 0 0] 29))) hb7)
  have HC7 := Lib.hid ((HC6.out.alloc (.cells #[.string ⟨#[]⟩, .int .i64 0, .slice none 0 0] 29)).below hb7)
  clear hb7
  have c0 : w7.cell? ⟨w1.heap.size, 0, none⟩ = some (.int .i64 1) := HC7.out.cell 0
  have c1 : w7.cell? ⟨w1.heap.size, 1, none⟩ = some (.int .i64 1) := HC7.out.cell 1
  have c2 : w7.cell? ⟨w1.heap.size, 2, none⟩ = some (.int .i64 1) := HC7.out.cell 2
  have c3 : w7.cell? ⟨w1.heap.size, 3, none⟩ = some (.int .i64 10) := HC7.out.cell 3
  have c4 : w7.cell? ⟨w1.heap.size, 4, none⟩ = some (.int .i64 0) := HC7.out.cell 4
  have c5 : w7.cell? ⟨w1.heap.size, 5, none⟩ = some (.int .i64 0) := HC7.out.cell 5
  have c6 : w7.cell? ⟨w1.heap.size, 6, none⟩ = some (.int .i64 0) := HC7.out.cell 6
  have c7 : w7.cell? ⟨w1.heap.size, 7, none⟩ = some (.int .i64 0) := HC7.out.cell 7
  have c8 : w7.cell? ⟨w1.heap.size, 8, none⟩ = some (.int .i64 0) := HC7.out.cell 8
  have c9 : w7.cell? ⟨w1.heap.size, 9, none⟩ = some (.bool false) := HC7.out.cell 9
  go_wp2_with fail
  refine (HA.out _).mono ?_
  rintro e w8 ⟨hb8, A8, cap8, m8, rfl, hm8, -⟩
  have hm0 : m8 = [] := by simpa using hm8
  subst hm0
  have HB8 := Lib.hid (below_trans HB7.out hb8)
  clear hb8 c0 c1 c2 c3 c4 c5 c6 c7 c8 c9 hm8
  go_wp2_with (first
    | (go_at_call 14; (with_reducible refine (HN.out _ _).mono ?_); rintro e w' ⟨rfl, rfl⟩)
    | (go_at_call 18; (with_reducible refine (HKN.out _).mono ?_); rintro e w9 ⟨rfl, hb9⟩; have HB9 := Lib.hid hb9; clear hb9))
  go_ret
  exact ⟨rfl, below_trans HB8.out HB9.out⟩
end Go.Proofs.Ytaechgnjdjijkaa
