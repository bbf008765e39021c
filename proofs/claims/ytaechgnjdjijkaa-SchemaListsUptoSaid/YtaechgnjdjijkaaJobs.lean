/- Jobs: Chk, Job. -/
import Derived.Test.YtaechgnjdjijkaaCfgA
import Derived.Test.YtaechgnjdjijkaaCfgB
import Derived.Test.YtaechgnjdjijkaaCfgC
/- A job: may it be? config.Check; the document's Job. -/
namespace Go.Proofs.Ytaechgnjdjijkaa
open Go.RowKit Go.Lib

/-- May a job be? -/
def job (c : Cf) : Bool := wi c.g 1 32768 && wi c.so 1 64 && wi c.la 0 1099511627776 && wi c.ea 0 2147483647 &&
  (if c.k = 1 then wi c.sz 1 1099511627776 && wi c.o 0 (c.sz - 1) && c.sl == 0 && c.ga == 0
   else if c.k = 2 then wi c.sz 1 1099511627776 && wi c.sl 1 c.sz && decide (c.sz ≤ 64 * c.sl) && wi c.o 0 (c.sl - 1) && c.ga == 0
   else if c.k = 3 then wi c.ga 1 1099511627776 && c.sz == 0 && c.sl == 0 && c.o == 0
   else false)
theorem wrap64_in {x : Int} (h1 : -9223372036854775808 ≤ x) (h2 : x ≤ 9223372036854775807) : wrap64 x = x := by
  unfold wrap64; omega
theorem wi_z {x lo hi hi' : Int} (h : hi = hi') : wi x lo hi = wi x lo hi' := by rw [h]
theorem rowsAll {c : Cf} {s2 s3 : Bool} {st : Int} : rowsTo c s2 s3 st 9 ↔ (rowOk c s2 s3 st 0 && rowOk c s2 s3 st 1 && rowOk c s2 s3 st 2 && rowOk c s2 s3 st 3 && rowOk c s2 s3 st 4 && rowOk c s2 s3 st 5 && rowOk c s2 s3 st 6 && rowOk c s2 s3 st 7 && rowOk c s2 s3 st 8) = true := by
  constructor
  · intro h
    simp only [Bool.and_eq_true]
    exact ⟨⟨⟨⟨⟨⟨⟨⟨h 0 (by omega), h 1 (by omega)⟩, h 2 (by omega)⟩, h 3 (by omega)⟩, h 4 (by omega)⟩, h 5 (by omega)⟩, h 6 (by omega)⟩, h 7 (by omega)⟩, h 8 (by omega)⟩
  · intro h j hj
    simp only [Bool.and_eq_true] at h
    obtain ⟨⟨⟨⟨⟨⟨⟨⟨h0, h1⟩, h2⟩, h3⟩, h4⟩, h5⟩, h6⟩, h7⟩, h8⟩ := h
    match j, hj with
    | 0, _ => exact h0
    | 1, _ => exact h1
    | 2, _ => exact h2
    | 3, _ => exact h3
    | 4, _ => exact h4
    | 5, _ => exact h5
    | 6, _ => exact h6
    | 7, _ => exact h7
    | 8, _ => exact h8
    | j + 9, hj => omega
theorem rows_2 {c : Cf} (hk : c.k = 2) (_h1 : In64 c.sl) : rowsTo c true false c.sl 9 ↔ job c = true := by
  rw [rowsAll]
  simp only [rowOk, rowN, rowX, rowL, rowH, job, hk]
  by_cases hb : 1 ≤ c.sl ∧ c.sl ≤ 1099511627776
  · rw [wrap64_in (x := 64 * c.sl) (by omega) (by omega), wrap64_in (x := c.sl - 1) (by omega) (by omega)]
    simp [wi_iff]; omega
  · constructor
    · intro h; exfalso; simp [wi_iff] at h; omega
    · intro h; exfalso; simp [wi_iff] at h; omega
theorem rows_3 {c : Cf} (hk : c.k = 3) : rowsTo c false true c.sz 9 ↔ job c = true := by
  rw [rowsAll]
  simp only [rowOk, rowN, rowX, rowL, rowH, job, hk]
  simp [wi_iff]; omega
theorem rows_1 {c : Cf} (h2 : ¬ c.k = 2) (h3 : ¬ c.k = 3) : rowsTo c false false c.sz 9 ↔ job c = true := by
  rw [rowsAll]
  simp only [rowOk, rowN, rowX, rowL, rowH, job]
  rw [if_neg h2, if_neg h3]
  by_cases hb : 1 ≤ c.sz ∧ c.sz ≤ 1099511627776
  · rw [wrap64_in (x := c.sz - 1) (by omega) (by omega)]
    by_cases h1 : c.k = 1
    · rw [if_pos h1, h1]; simp [wi_iff]; omega
    · rw [if_neg h1]; simp [wi_iff]; omega
  · constructor
    · intro h; exfalso; simp [wi_iff] at h; omega
    · intro h; exfalso
      by_cases h1 : c.k = 1
      · rw [if_pos h1] at h; simp [wi_iff] at h; omega
      · rw [if_neg h1] at h; simp at h
theorem Wrong_any (c : Cf) (hf : c.Fit) (w : World) : Calls Try.prog 57 #[c.val] w fun e w' => ∃ f : Int, e = .returned (.tuple #[.int .i64 f, .int .i64 (if job c then 0 else 4)]) ∧ Below w.heap.size w w' := by
  have key : ∀ (f z : Int) (e : Ending) (R : Prop), (R ↔ job c = true) → e = .returned (.tuple #[.int .i64 f, .int .i64 z]) → ((z = 0 ∧ R) ∨ (z = 4 ∧ ¬ R)) → e = .returned (.tuple #[.int .i64 f, .int .i64 (if job c then 0 else 4)]) := by
    intro f z e R hR he h
    rcases h with ⟨rfl, h⟩ | ⟨rfl, h⟩
    · rw [he, if_pos (hR.1 h)]
    · rw [he, if_neg (fun h2 => h (hR.2 h2))]
  obtain ⟨g, so, k, sz, sl, o, ga, la, ea, di⟩ := c
  by_cases h2 : k = 2
  · refine (Wrong_2 g so k sz sl o ga la ea di w (by simpa using h2) (by simp; omega)).mono fun e w' => ?_
    rintro ⟨f, z, he, h, hb⟩
    exact ⟨f, key f z e _ (rows_2 h2 hf.sl) he h, hb⟩
  · by_cases h3 : k = 3
    · refine (Wrong_3 g so k sz sl o ga la ea di w (by simpa using h2) (by simpa using h3)).mono fun e w' => ?_
      rintro ⟨f, z, he, h, hb⟩
      exact ⟨f, key f z e _ (rows_3 h3) he h, hb⟩
    · refine (Wrong_1 g so k sz sl o ga la ea di w (by simpa using h2) (by simpa using h3)).mono fun e w' => ?_
      rintro ⟨f, z, he, h, hb⟩
      exact ⟨f, key f z e _ (rows_1 h2 h3) he h, hb⟩
set_option maxRecDepth 100000 in
theorem Check_any (c : Cf) (hf : c.Fit) (w : World) : Calls Try.prog 34 #[c.val] w fun e w' => e = .returned (.int .i64 (if job c then 0 else 4)) ∧ Below w.heap.size w w' := by
  have HW := Lib.hid (Wrong_any c hf)
  obtain ⟨z, hz⟩ : ∃ z : Int, (if job c then (0 : Int) else 4) = z := ⟨_, rfl⟩
  rw [hz] at HW ⊢
  clear hz hf
  unfold Cf.val at HW ⊢
  obtain ⟨g, so, k, sz, sl, o, ga, la, ea, di⟩ := c
  simp only at HW ⊢
  go_enter Try.func34, Try.ntmps34
  go_wp2_with (first
    | (go_at_call 57; (with_reducible refine (HW.out _).mono ?_); rintro e w1 ⟨f, rfl, hb⟩; have HB := Lib.hid hb; clear hb))
  go_ret
  exact ⟨rfl, below_trans (below_alloc w _) HB.out⟩
end Go.Proofs.Ytaechgnjdjijkaa

/- The document's Job. -/
namespace Go.Proofs.Ytaechgnjdjijkaa
open Go.RowKit Go.Lib

theorem quo_le {sz sl : Int} (h : 1 ≤ sl) : (sz + sl - 1) / sl ≤ 64 ↔ sz ≤ 64 * sl := by
  have h1 := Int.ediv_lt_iff_lt_mul (a := sz + sl - 1) (b := 65) (show 0 < sl by omega)
  constructor
  · intro h2
    have := h1.1 (by omega)
    omega
  · intro h2
    have := h1.2 (by omega)
    omega
theorem job_1 (c : Cf) (h : c.k = 1) : job c = (wi c.g 1 32768 && wi c.so 1 64 && wi c.la 0 1099511627776 && wi c.ea 0 2147483647 && (wi c.sz 1 1099511627776 && wi c.o 0 (c.sz - 1) && c.sl == 0 && c.ga == 0)) := by unfold job; rw [if_pos h]
theorem job_2 (c : Cf) (h : c.k = 2) : job c = (wi c.g 1 32768 && wi c.so 1 64 && wi c.la 0 1099511627776 && wi c.ea 0 2147483647 && (wi c.sz 1 1099511627776 && wi c.sl 1 c.sz && decide (c.sz ≤ 64 * c.sl) && wi c.o 0 (c.sl - 1) && c.ga == 0)) := by unfold job; rw [if_neg (by omega), if_pos h]
theorem job_3 (c : Cf) (h : c.k = 3) : job c = (wi c.g 1 32768 && wi c.so 1 64 && wi c.la 0 1099511627776 && wi c.ea 0 2147483647 && (wi c.ga 1 1099511627776 && c.sz == 0 && c.sl == 0 && c.o == 0)) := by unfold job; rw [if_neg (by omega), if_neg (by omega), if_pos h]
theorem job_0 (c : Cf) (h : ¬ c.k = 1 ∧ ¬ c.k = 2 ∧ ¬ c.k = 3) : job c = false := by unfold job; rw [if_neg h.1, if_neg h.2.1, if_neg h.2.2]; simp

set_option maxRecDepth 100000 in
set_option maxHeartbeats 2000000 in
theorem Job_any (c : Cf) (hf : c.Fit) (w : World) : Calls Try.prog 41 #[c.val] w fun e w' => e = .returned (.bool (job c)) ∧ Below w.heap.size w w' := by
  have HJ : Hid (∀ b : Bool, (b = true ↔ job c = true) → b = job c) := Lib.hid (fun b h => Bool.eq_iff_iff.2 h)
  have hsz := hf.sz
  have hsl := hf.sl
  have ho := hf.o
  unfold In64 at hsz hsl ho
  obtain ⟨hsz1, hsz2⟩ := hsz
  obtain ⟨hsl1, hsl2⟩ := hsl
  obtain ⟨ho1, ho2⟩ := ho
  clear hf
  obtain ⟨g, so, k, sz, sl, o, ga, la, ea, di⟩ := c
  unfold Cf.val
  simp only at *
  by_cases h1 : k = 1
  · have d1 : (k == 1) = true := by simpa using h1
    have HK := Lib.hid h1
    clear h1
    go_enter Try.func41, Try.ntmps41
    go_wp2
    all_goals
      go_ret
      refine ⟨ret_bool (HJ.out _ ?_), below_alloc _ _⟩
      rw [job_1 _ HK.out]
      clear HJ HK
      first
        | (simp [wi_iff]; omega)
        | (simp [wi_iff]; done)
  · by_cases h2 : k = 2
    · have d1 : (k == 1) = false := by simpa using h1
      have d2 : (k == 2) = true := by simpa using h2
      have HK := Lib.hid h2
      clear h1 h2
      go_enter Try.func41, Try.ntmps41
      go_wp2
      all_goals
        go_ret
        refine ⟨ret_bool (HJ.out _ ?_), below_alloc _ _⟩
        rw [job_2 _ HK.out]
        have hq := @quo_le sz sl
        clear HJ HK
        first
          | (have hq2 := hq (by assumption); simp [wi_iff]; omega)
          | (simp [wi_iff]; omega)
          | (simp [wi_iff]; done)
    · by_cases h3 : k = 3
      · have d1 : (k == 1) = false := by simpa using h1
        have d2 : (k == 2) = false := by simpa using h2
        have d3 : (k == 3) = true := by simpa using h3
        have HK := Lib.hid h3
        clear h1 h2 h3
        go_enter Try.func41, Try.ntmps41
        go_wp2
        all_goals
          go_ret
          refine ⟨ret_bool (HJ.out _ ?_), below_alloc _ _⟩
          rw [job_3 _ HK.out]
          clear HJ HK
          first
            | (simp [wi_iff]; omega)
            | (simp [wi_iff]; done)
      · have d1 : (k == 1) = false := by simpa using h1
        have d2 : (k == 2) = false := by simpa using h2
        have d3 : (k == 3) = false := by simpa using h3
        have HK : Hid (¬ k = 1 ∧ ¬ k = 2 ∧ ¬ k = 3) := Lib.hid ⟨h1, h2, h3⟩
        clear h1 h2 h3
        go_enter Try.func41, Try.ntmps41
        go_wp2
        all_goals
          go_ret
          refine ⟨ret_bool (HJ.out _ ?_), below_alloc _ _⟩
          rw [job_0 _ HK.out]
end Go.Proofs.Ytaechgnjdjijkaa
