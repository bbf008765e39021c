/- Kno: Known2, Known3. -/
import Derived.Test.YtaechgnjdjijkaaPutW
import Derived.Test.YtaechgnjdjijkaaReads0
import Derived.Test.YtaechgnjdjijkaaKits
import Derived.Test.YtaechgnjdjijkaaWire2
/- What the law calls known: plainly. -/
namespace Go.Proofs.Ytaechgnjdjijkaa
open Go.RowKit Go.Lib

/-- The document's job T. -/
def jobT : Cf := ⟨1, 1, 1, 10, 0, 0, 0, 0, 0, false⟩
theorem jobT_job : job jobT = true := by decide
theorem jobT_fit : jobT.Fit := by
  refine ⟨?_, ?_, ?_, ?_, ?_, ?_, ?_, ?_, ?_⟩ <;> (unfold jobT In64; simp)
/-- The window that the document names. -/
def wnT : Wn := ⟨0, 10, 3, 2, 9, 4, 5, 2, 1⟩
def knT : Kn := ⟨⟨#[]⟩, 0, [wnT]⟩
theorem wnT_fit : wnT.Fit := by
  refine ⟨?_, ?_, ?_, ?_, ?_, ?_, ?_, ?_, ?_⟩ <;> (unfold wnT In64; simp)
theorem knT_fit : knT.Fit := ⟨by unfold In64 knT; simp, fun x hx => by
  unfold knT at hx
  simp only [List.mem_singleton] at hx
  subst hx
  exact wnT_fit⟩
theorem rowTo_one {ses : Bool} {x : Wn} (h : okW x = true) : RowTo ses [x] 1 := fun i z hi hz => by
  obtain rfl : i = 0 := by omega
  simp only [List.getElem?_cons_zero, Option.some.injEq] at hz
  subst hz
  exact ⟨h, fun _ h => absurd h (Nat.lt_irrefl _)⟩
theorem knT_ok : putE jobT knT = 0 := by
  unfold putE
  rw [if_pos jobT_job, if_pos]
  refine keyB_yes ⟨by decide, by decide, ?_⟩
  exact rowTo_one (by decide)
theorem knT_bytes : keyBytes knT = [0, 0, 1, 0, 9, 6, 2, 18, 8, 10, 2, 1] := by
  have h9 : List.range 9 = [0, 1, 2, 3, 4, 5, 6, 7, 8] := by decide
  have h0 : (⟨#[]⟩ : ByteArray).size = 0 := rfl
  simp [keyBytes, knT, wnT, winsTo, winAt, winTo, fnum, lastOf, zig, num7_small, h9, h0]
theorem rdKey_known1 : rdKey jobT [1, 97, 3, 0, 9, 9] 0 = some (⟨⟨#[97]⟩, 3, []⟩, 4) := by
  have h1 : txE 256 [1, 97, 3, 0, 9, 9] 0 = 0 := by decide
  have h2 : rdAt [1, 97, 3, 0, 9, 9] 0 = (1, 1, 0) := by decide
  have h3 : rdAt [1, 97, 3, 0, 9, 9] 2 = (3, 1, 0) := by decide
  have h4 : rdAt [1, 97, 3, 0, 9, 9] 3 = (0, 1, 0) := by decide
  unfold rdKey
  rw [if_neg (by rw [h1]; simp)]
  simp only [h2]
  simp only [Nat.zero_add, Nat.reduceAdd, h3, h4, ne_eq, not_true_eq_false, if_false, rdWs]
  have hk : keyB (jobT.k == 3) ⟨⟨(cut [1, 97, 3, 0, 9, 9] 1 1).toArray⟩, wrap64 ((3 : Nat) : Int), []⟩ = true :=
    keyB_yes ⟨by decide, by rw [wi_iff]; simp [wrap64], rowTo_zero _ _⟩
  rw [if_pos hk]
  have hw : wrap64 ((3 : Nat) : Int) = 3 := by simp [wrap64]
  have hc : cut [1, 97, 3, 0, 9, 9] 1 1 = [97] := by decide
  rw [hw, hc]
theorem rdKey_known2 : rdKey jobT [1, 97, 3, 128, 0] 0 = none := by
  have h1 : txE 256 [1, 97, 3, 128, 0] 0 = 0 := by decide
  have h2 : rdAt [1, 97, 3, 128, 0] 0 = (1, 1, 0) := by decide
  have h3 : rdAt [1, 97, 3, 128, 0] 2 = (3, 1, 0) := by decide
  have h4 : (rdAt [1, 97, 3, 128, 0] 3).2.2 ≠ 0 := by decide
  unfold rdKey
  rw [if_neg (by rw [h1]; simp)]
  simp only [h2]
  simp only [Nat.zero_add, Nat.reduceAdd, h3]
  rw [if_neg (by simp), if_pos h4]
set_option maxRecDepth 100000 in
theorem job_any (w : World) : Calls Try.prog 33 #[] w fun e w' => e = .returned jobT.val ∧ Below w.heap.size w w' := by
  unfold Cf.val jobT
  go_enter Try.func33, Try.ntmps33
  go_wp2
  refine bodyPost_ret (results_cell_row Try.results33 _ _ w.heap.size 24 _ (0, 0) _ rfl (Bk.new w _ _) Try.underlying24 rfl (by kernel_rfl)) rfl ?_
  exact ⟨rfl, below_alloc w _⟩
end Go.Proofs.Ytaechgnjdjijkaa

/- What the law calls known: walked. -/
namespace Go.Proofs.Ytaechgnjdjijkaa
open Go.RowKit Go.Lib

theorem knT_mem (w : World) (o : Obj) : Rk ((w.alloc (.cells wnT.arr 93)).alloc o) (.agg #[.string ⟨#[]⟩, .int .i64 0, .slice (some ⟨w.heap.size, 0, none⟩) 1 1]) knT :=
  ⟨some ⟨w.heap.size, 0, none⟩, 1, rfl, (Rd.of_owns (World.ownsRow_lit (base := 0) (e := 93) (size := 9) w wnT.arr 1 (Nat.zero_le _) (by unfold maxLen; omega) rfl)).below (below_alloc _ _)⟩
set_option maxRecDepth 100000 in
set_option maxHeartbeats 1000000 in
theorem known_any (W : World) : Calls Try.prog 18 #[] W fun e w' => e = .returned (.bool true) ∧ Below W.heap.size W w' := by
  have HJ := Lib.hid job_any
  have HP := Lib.hid fun kv w hr => Put_ok jobT jobT_fit knT knT_fit kv w hr knT_ok (by decide)
  have HR1 := Lib.hid fun w => Read_any jobT jobT_fit jobT_job (some ⟨w.heap.size, 0, none⟩) 6 6 [1, 97, 3, 0, 9, 9] _ (rd_lit8 w #[.int .u8 1, .int .u8 97, .int .u8 3, .int .u8 0, .int .u8 9, .int .u8 9] 6 [1, 97, 3, 0, 9, 9] (by decide) rfl rfl) rfl (by decide)
  have HR2 := Lib.hid fun w => Read_any jobT jobT_fit jobT_job (some ⟨w.heap.size, 0, none⟩) 5 5 [1, 97, 3, 128, 0] _ (rd_lit8 w #[.int .u8 1, .int .u8 97, .int .u8 3, .int .u8 128, .int .u8 0] 5 [1, 97, 3, 128, 0] (by decide) rfl rfl) rfl (by decide)
  have HN := Lib.hid num_any
  rw [knT_bytes] at HP
  simp only [rdKey_known1, rdKey_known2] at HR1 HR2
  obtain ⟨jv, hjv⟩ : ∃ jv, jobT.val = jv := ⟨_, rfl⟩
  rw [hjv] at HJ HP
  simp only [hjv] at HR1 HR2
  clear hjv
  go_enter Try.func18, Try.ntmps18
  go_wp2_with fail
  obtain ⟨w1, hw1⟩ : ∃ w1, (W.alloc (.cells #[.int .i64 0, .int .i64 10, .int .i64 3, .int .i64 2, .int .i64 9, .int .i64 4, .int .i64 5, .int .i64 2, .int .i64 1] 93)).alloc (.cells #[.string ⟨#[]⟩, .int .i64 0, .slice (some ⟨W.heap.size, 0, none⟩) 1 1] 29) = w1 := ⟨_, rfl⟩
  have HRK : Hid (∀ w, Below w1.heap.size w1 w → Rk w (.agg #[.string ⟨#[]⟩, .int .i64 0, .slice (some ⟨W.heap.size, 0, none⟩) 1 1]) knT) := Lib.hid fun w hb => by
    subst hw1; exact (knT_mem W _).below hb
  have hbk : Bk w1 (W.heap.size + 1) 29 #[.string ⟨#[]⟩, .int .i64 0, .slice (some ⟨W.heap.size, 0, none⟩) 1 1] := by subst hw1; exact Bk.new' _ _ _ _ (by simp)
  have HB1 : Hid (Below W.heap.size W w1) := Lib.hid (by subst hw1; exact (below_alloc W _).alloc (by simp) _)
  have hs1 : w1.heap.size = W.heap.size + 2 := by subst hw1; simp
  have HKC : Hid (∀ w, Below w1.heap.size w1 w → w.cell? ⟨W.heap.size + 1, 0, none⟩ = some (.string ⟨#[]⟩) ∧ w.cell? ⟨W.heap.size + 1, 1, none⟩ = some (.int .i64 0) ∧ w.cell? ⟨W.heap.size + 1, 2, none⟩ = some (.slice (some ⟨W.heap.size, 0, none⟩) 1 1)) := Lib.hid fun w hb => ⟨(hbk.below hb).cell 0, (hbk.below hb).cell 1, (hbk.below hb).cell 2⟩
  rw [hw1]
  clear hw1 hbk
  obtain ⟨k0, k1, k2⟩ := HKC.out w1 (Below.refl _ _)
  go_region_held3 (fun w => Below w1.heap.size w1 w ∧ w.cell? ⟨W.heap.size + 1, 0, none⟩ = some (.string ⟨#[]⟩) ∧ w.cell? ⟨W.heap.size + 1, 1, none⟩ = some (.int .i64 0) ∧ w.cell? ⟨W.heap.size + 1, 2, none⟩ = some (.slice (some ⟨W.heap.size, 0, none⟩) 1 1))
    (first
      | exact ⟨below_drew w1, k0, k1, k2⟩
      | exact ⟨hb2, HKC.out _ hb2⟩
      | exact ⟨hb3, HKC.out _ hb3⟩)
    ((first
      | (go_at_call 33; (with_reducible refine (HJ.out _).mono ?_); rintro e w2 ⟨rfl, hb2'⟩; have hb2 : Below w1.heap.size w1 w2 := below_trans (below_drew w1) hb2')
      | (go_at_call 19; (with_reducible refine (HP.out _ _ (HRK.out _ (by assumption))).mono ?_); rintro e w3 ⟨v3, rfl, hb3', ho3⟩; have hb3 : Below w1.heap.size w1 w3 := below_trans hb2 hb3')))
  obtain ⟨A3, cap3, hv3⟩ : ∃ A cap, v3 = .slice A 12 cap := by obtain ⟨_, _, hv, -⟩ := ownsRow_shape ho3; exact ⟨_, _, hv⟩
  subst hv3
  have HRD := Lib.hid (Rd.of_owns ho3)
  have HB3 := Lib.hid (HB1.out.trans (hb3.mono (by omega)))
  clear ho3 hb3 hb3' hb2 hb2' k0 k1 k2 HKC HRK HP
  have HJB : Hid (∀ (W : World), Calls Try.prog 33 #[] W fun e w' => e = .returned jv ∧ Below W.heap.size W w') := HJ
  go_wp2_with fail
  refine (HJ.out _).mono ?_
  rintro e w4 ⟨rfl, hb4⟩
  have HB4 := Lib.hid hb4
  clear hb4
  go_wp2_with fail
  refine (HR1.out w4).mono ?_
  rintro e w5 ⟨hb5, A5, cap5, rfl, -⟩
  have HB5 := Lib.hid (below_trans HB4.out (below_trans (below_alloc w4 _) hb5))
  have bk5 := Bk.new w5 29 #[.string ⟨#[97]⟩, .int .i64 3, .slice A5 0 cap5]
  clear hb5 HR1
  go_wp2_with fail
  obtain ⟨w6, hw6⟩ : ∃ w6, w5.alloc (.cells #[.string ⟨#[97]⟩, .int .i64 3, .slice A5 0 cap5] 29) = w6 := ⟨_, rfl⟩
  have HB6 : Hid (Below w3.heap.size w3 w6) := Lib.hid (by subst hw6; exact below_trans HB5.out (below_alloc w5 _))
  rw [hw6] at bk5 ⊢
  have HBK := Lib.hid bk5
  clear hw6 bk5
  refine (HJ.out _).mono ?_
  rintro e w7 ⟨rfl, hb7⟩
  have HB7 := Lib.hid hb7
  clear hb7
  go_wp2_with fail
  refine (HR2.out w7).mono ?_
  rintro e w8 ⟨hb8, rfl⟩
  have HB8 := Lib.hid (below_trans HB7.out (below_trans (below_alloc w7 _) hb8))
  clear hb8 HR2
  go_wp2_with fail
  obtain ⟨w9, hw9⟩ : ∃ w9, w8.alloc (.cells #[.string ⟨#[]⟩, .int .i64 0, .slice none 0 0] 29) = w9 := ⟨_, rfl⟩
  have HB9 : Hid (Below w6.heap.size w6 w9) := Lib.hid (by subst hw9; exact below_trans HB8.out (below_alloc w8 _))
  rw [hw9]
  clear hw9
  have hb10 := below_trans HB9.out (below_alloc w9 (.cells #[.int .u8 0, .int .u8 0, .int .u8 1, .int .u8 0, .int .u8 9, .int .u8 6, .int .u8 2, .int .u8 18, .int .u8 8, .int .u8 10, .int .u8 2, .int .u8 1] 5))
  have hl := rd_lit8 w9 #[.int .u8 0, .int .u8 0, .int .u8 1, .int .u8 0, .int .u8 9, .int .u8 6, .int .u8 2, .int .u8 18, .int .u8 8, .int .u8 10, .int .u8 2, .int .u8 1] 12 [0, 0, 1, 0, 9, 6, 2, 18, 8, 10, 2, 1] (by decide) rfl rfl
  have HBY := kitBytes_any _ A3 (some ⟨w9.heap.size, 0, none⟩) 12 12 cap3 12 _ _ (HRD.out.below (below_trans HB6.out hb10)) rfl hl rfl
  have c0 : (w9.alloc (.cells #[.int .u8 0, .int .u8 0, .int .u8 1, .int .u8 0, .int .u8 9, .int .u8 6, .int .u8 2, .int .u8 18, .int .u8 8, .int .u8 10, .int .u8 2, .int .u8 1] 5)).cell? ⟨w5.heap.size, 0, none⟩ = some (.string ⟨#[97]⟩) := (HBK.out.below hb10).cell 0
  have c1 : (w9.alloc (.cells #[.int .u8 0, .int .u8 0, .int .u8 1, .int .u8 0, .int .u8 9, .int .u8 6, .int .u8 2, .int .u8 18, .int .u8 8, .int .u8 10, .int .u8 2, .int .u8 1] 5)).cell? ⟨w5.heap.size, 1, none⟩ = some (.int .i64 3) := (HBK.out.below hb10).cell 1
  have HB10 : Hid (Below W.heap.size W (w9.alloc (.cells #[.int .u8 0, .int .u8 0, .int .u8 1, .int .u8 0, .int .u8 9, .int .u8 6, .int .u8 2, .int .u8 18, .int .u8 8, .int .u8 10, .int .u8 2, .int .u8 1] 5))) := Lib.hid (below_trans HB3.out (below_trans HB6.out hb10))
  rw [show (([0, 0, 1, 0, 9, 6, 2, 18, 8, 10, 2, 1] : List UInt8) == [0, 0, 1, 0, 9, 6, 2, 18, 8, 10, 2, 1]) = true by decide] at HBY
  have HBY := Lib.hid HBY
  clear hb10 hl
  have hpl : (([97] : List UInt8) == [97]) = true := rfl
  go_wp2_with (first
    | (go_at_call 14; (with_reducible refine (HN.out _ _).mono ?_); rintro e w ⟨rfl, rfl⟩)
    | (go_at_call 20; (with_reducible refine HBY.out.mono ?_); rintro e w ⟨rfl, rfl⟩))
  go_ret
  exact ⟨rfl, HB10.out⟩
end Go.Proofs.Ytaechgnjdjijkaa
