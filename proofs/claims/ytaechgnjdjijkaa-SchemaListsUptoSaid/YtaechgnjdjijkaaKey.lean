/- Is a key's state in order? config.Key. -/
import Derived.Test.YtaechgnjdjijkaaJobs
namespace Go.Proofs.Ytaechgnjdjijkaa
open Go.RowKit Go.Lib

/-- May a window be? -/
def okW (x : Wn) : Bool := wi x.c 0 9007199254740992 && wi x.si 0 9007199254740992 && wi x.pa 0 9007199254740992 && decide (x.s < x.e) && decide (-4611687117939015680 ≤ x.s) && decide (x.e ≤ 4611687117939015680)
/-- May it stand behind another one (ses: of sessions)? -/
def ordW (ses : Bool) (y x : Wn) : Bool := !(decide (x.s < y.s) || (y.s == x.s && decide (x.e ≤ y.e)) || (ses && decide (x.s < y.e)))
def RowTo (ses : Bool) (l : List Wn) (n : Nat) : Prop := ∀ (i : Nat) (x : Wn), i < n → l[i]? = some x → okW x = true ∧ ∀ y, 0 < i → l[i - 1]? = some y → ordW ses y x = true
def KeyP (ses : Bool) (k : Kn) : Prop := k.key.size ≤ 256 ∧ wi k.dr 0 9007199254740992 = true ∧ RowTo ses k.ws k.ws.length
open Classical in
/-- Is a key's state in order? -/
noncomputable def keyB (ses : Bool) (k : Kn) : Bool := decide (KeyP ses k)
theorem keyB_iff {ses : Bool} {k : Kn} : keyB ses k = true ↔ KeyP ses k := by unfold keyB; simp
theorem keyB_no {ses : Bool} {k : Kn} (h : ¬ KeyP ses k) : keyB ses k = false := by unfold keyB; simp [h]
theorem keyB_yes {ses : Bool} {k : Kn} (h : KeyP ses k) : keyB ses k = true := keyB_iff.2 h
theorem rowTo_zero (ses : Bool) (l : List Wn) : RowTo ses l 0 := fun _i _x h => absurd h (Nat.not_lt_zero _)
theorem rowTo_succ {ses : Bool} {l : List Wn} {k : Nat} {x : Wn} (h : RowTo ses l k) (hx : l[k]? = some x) (h1 : okW x = true) (h2 : ∀ y, 0 < k → l[k - 1]? = some y → ordW ses y x = true) : RowTo ses l (k + 1) := fun i z hi hz => by
  rcases Nat.lt_or_ge i k with h3 | h3
  · exact h i z h3 hz
  · obtain rfl : i = k := by omega
    rw [hx] at hz
    cases hz
    exact ⟨h1, h2⟩
theorem keyB_okW {ses : Bool} {k : Kn} {i : Nat} {x : Wn} (hx : k.ws[i]? = some x) (h : okW x = false) : keyB ses k = false :=
  keyB_no fun hk => by
    have := (hk.2.2 i x (List.getElem?_eq_some_iff.1 hx).1 hx).1
    rw [h] at this; cases this
theorem keyB_ord {ses : Bool} {k : Kn} {i : Nat} {x y : Wn} (hx : k.ws[i + 1]? = some x) (hy : k.ws[i]? = some y) (h : ordW ses y x = false) : keyB ses k = false :=
  keyB_no fun hk => by
    have := (hk.2.2 (i + 1) x (List.getElem?_eq_some_iff.1 hx).1 hx).2 y (by omega) hy
    rw [h] at this; cases this

set_option maxRecDepth 100000 in
theorem Key_job (c : Cf) (hf : c.Fit) (hj : job c = false) (s : ByteArray) (d : Int) (v : Value) (_hv : v.oneCell' = true) (w : World) : Calls Try.prog 50 #[c.val, .agg #[.string s, .int .i64 d, v]] w fun e w' => e = .returned (.int .i64 4) ∧ Below w.heap.size w w' := by
  have hc := Check_any c hf
  rw [hj] at hc
  have HC := Lib.hid hc
  clear hc hj hf
  unfold Cf.val at HC ⊢
  obtain ⟨g, so, k, sz, sl, o, ga, la, ea, di⟩ := c
  simp only [Bool.false_eq_true, if_false] at HC ⊢
  go_enter Try.func50, Try.ntmps50
  go_wp2_with (first
    | (go_at_call 34; (with_reducible refine (HC.out _).mono ?_); rintro e w1 ⟨rfl, hb⟩; have HB := Lib.hid hb; clear hb))
  go_ret
  exact ⟨rfl, (((below_alloc w _).alloc (by simp) _)).trans (HB.out.mono (by simp; omega))⟩

set_option maxRecDepth 100000 in
set_option maxHeartbeats 4000000 in
theorem Key_row (c : Cf) (hf : c.Fit) (hj : job c = true) (k : Kn) (kv : Value) (w : World) (hr : Rk w kv k) : Calls Try.prog 50 #[c.val, kv] w fun e w' => e = .returned (.int .i64 (if keyB (c.k == 3) k then 0 else 6)) ∧ Below w.heap.size w w' := by
  have hc := Check_any c hf
  rw [hj] at hc
  have HC := Lib.hid hc
  obtain ⟨A, cap, rfl, hr⟩ := hr
  have HR := Lib.hid hr
  obtain ⟨_, _, hv, hc1, hc2, -⟩ := hr
  cases hv
  unfold maxLen at hc2
  obtain ⟨ses, hses⟩ : ∃ ses, (c.k == 3) = ses := ⟨_, rfl⟩
  rw [hses]
  obtain ⟨Z, hZ⟩ : ∃ Z : Int, (if keyB ses k then 0 else 6) = Z := ⟨_, rfl⟩
  have HZ0 : Hid (keyB ses k = true → Z = 0) := Lib.hid fun h => by rw [← hZ, if_pos h]
  have HZ6 : Hid (keyB ses k = false → Z = 6) := Lib.hid fun h => by rw [← hZ, if_neg (by rw [h]; decide)]
  rw [hZ]
  clear hZ hc hj hf
  unfold Cf.val at HC ⊢
  obtain ⟨g, so, kd, sz, sl, o, ga, la, ea, di⟩ := c
  simp only [if_true] at HC hses ⊢
  obtain ⟨n, hn⟩ : ∃ n, k.ws.length = n := ⟨_, rfl⟩
  rw [hn] at HR hc1 ⊢
  have HN := Lib.hid hn
  obtain ⟨S, hS⟩ : ∃ S, k.key = S := ⟨_, rfl⟩
  obtain ⟨D, hD⟩ : ∃ D, k.dr = D := ⟨_, rfl⟩
  rw [hS, hD]
  have HS := Lib.hid hS
  have HD := Lib.hid hD
  have HW := Lib.hid (fun x w => within_any x 0 9007199254740992 w)
  clear hn hS hD
  by_cases hlen : S.size ≤ 256
  · have dl : decide (256 < S.size) = false := by simp; omega
    have dl' : decide ((256 : Int) < (S.size : Int)) = false := by simp; omega
    cases hdr : wi D 0 9007199254740992 with
    | false =>
      have hno : Hid (Z = 6) := Lib.hid (HZ6.out (keyB_no fun h => by have := h.2.1; rw [HD.out, hdr] at this; cases this))
      have hwd := within_any D 0 9007199254740992
      rw [hdr] at hwd
      have HWD := Lib.hid hwd
      clear hwd hdr HR
      go_enter Try.func50, Try.ntmps50
      go_wp2_with (first
        | (go_at_call 34; (with_reducible refine (HC.out _).mono ?_); rintro e w1 ⟨rfl, hb⟩; obtain ⟨hcc, hff⟩ := bcell hb; have hsz := hb.size; simp at hsz; have HB := Lib.hid hb; clear hb)
        | (go_at_call 75; (with_reducible refine (HWD.out _).mono ?_); rintro e wn ⟨rfl, rfl⟩))
      go_ret
      exact ⟨ret_int hno.out.symm, (((below_alloc w _).alloc (by simp) _)).trans (HB.out.mono (by simp; omega))⟩
    | true =>
      have hwd := within_any D 0 9007199254740992
      rw [hdr] at hwd
      have HWD := Lib.hid hwd
      have HDR := Lib.hid hdr
      clear hwd hdr
      go_enter Try.func50, Try.ntmps50
      go_wp2_with (first
        | (go_at_call 34; (with_reducible refine (HC.out _).mono ?_); rintro e w1 ⟨rfl, hb⟩; obtain ⟨hcc, hff⟩ := bcell hb; have hsz := hb.size; simp at hsz; have HB := Lib.hid hb; clear hb)
        | (go_at_call 75; (with_reducible refine (HWD.out _).mono ?_); rintro e wn ⟨rfl, rfl⟩))
      have bC : Bk w1 w.heap.size 24 #[.int .i64 g, .int .i64 so, .int .i64 kd, .int .i64 sz, .int .i64 sl, .int .i64 o, .int .i64 ga, .int .i64 la, .int .i64 ea, .bool di] := ((Bk.new w _ _).alloc _).below HB.out
      have bK : Bk w1 (w.heap.size + 1) 29 #[.string S, .int .i64 D, .slice A n cap] := (Bk.new' _ _ _ _ (by simp)).below HB.out
      have HBC := Lib.hid bC
      have HBK := Lib.hid bK
      have HW1 : Hid (Below w.heap.size w w1) := Lib.hid ((((below_alloc w _).alloc (by simp) _)).trans (HB.out.mono (by simp; omega)))
      clear bC bK hcc hff
      go_loopw [28] (fun iv wr => ∃ j : Nat, j ≤ n ∧ iv = .int .i64 (j : Int) ∧ RowTo ses k.ws j ∧ Below w1.heap.size w1 wr) (fun iv _ => n - (intOf iv).toNat)
      case atStart => exact ⟨0, Nat.zero_le _, rfl, rowTo_zero _ _, Below.refl _ _⟩
      case round =>
        obtain ⟨j, hj, rfl, hrt, hbr⟩ := hrel
        have HRT := Lib.hid hrt
        have HBR := Lib.hid hbr
        have hsr := hbr.size
        have hW := hbr.mono (B' := w.heap.size) (by omega)
        have HEND : Hid (Below w.heap.size w wr) := Lib.hid (HW1.out.trans (hbr.mono (by omega)))
        clear hrt hbr hW
        by_cases hjn : j < n
        · have bK := HBK.out.below HBR.out
          have zk : wr.cell? ⟨w.heap.size + 1, 2, none⟩ = some (.slice A n cap) := bK.cell 2
          have lk := bK.lt
          have bC := HBC.out.below HBR.out
          have zc : wr.cell? ⟨w.heap.size, 2, none⟩ = some (.int .i64 kd) := bC.cell 2
          have lc := bC.lt
          clear bK bC
          obtain ⟨x, hxk⟩ : ∃ x, k.ws[j]? = some x := ⟨_, List.getElem?_eq_getElem (by have := HN.out; omega)⟩
          obtain ⟨q, off, rfl, hq, hx⟩ := rd_win (HR.out.below (w' := wr) (HEND.out)) hxk HN.out
          obtain ⟨c0, c1, c2, c3, c4, c5, c6, c7, c8⟩ := hx
          have HX := Lib.hid hxk
          clear hxk
          obtain ⟨V1, hV1⟩ : ∃ V, wi x.c 0 9007199254740992 = V := ⟨_, rfl⟩
          obtain ⟨V2, hV2⟩ : ∃ V, wi x.si 0 9007199254740992 = V := ⟨_, rfl⟩
          obtain ⟨V3, hV3⟩ : ∃ V, wi x.pa 0 9007199254740992 = V := ⟨_, rfl⟩
          have HOK : Hid (okW x = (V1 && V2 && V3 && decide (x.s < x.e) && decide (-4611687117939015680 ≤ x.s) && decide (x.e ≤ 4611687117939015680))) := Lib.hid (by unfold okW; rw [hV1, hV2, hV3])
          have h1 := within_any x.c 0 9007199254740992
          have h2 := within_any x.si 0 9007199254740992
          have h3 := within_any x.pa 0 9007199254740992
          rw [hV1] at h1; rw [hV2] at h2; rw [hV3] at h3
          have HV1 := Lib.hid h1
          have HV2 := Lib.hid h2
          have HV3 := Lib.hid h3
          clear hV1 hV2 hV3 h1 h2 h3
          cases j with
          | zero =>
            simp only [Nat.zero_mul, Nat.add_zero] at c0 c1 c2 c3 c4 c5 c6 c7 c8
            cases V1 <;> cases V2 <;> cases V3
            all_goals
              go_wp2_with (first
                | (go_at_call 75; (with_reducible refine (HV1.out _).mono ?_); rintro e wn ⟨rfl, rfl⟩)
                | (go_at_call 75; (with_reducible refine (HV2.out _).mono ?_); rintro e wn ⟨rfl, rfl⟩)
                | (go_at_call 75; (with_reducible refine (HV3.out _).mono ?_); rintro e wn ⟨rfl, rfl⟩))
            all_goals
              first
                | (go_roundw
                   case rel => exact ⟨1, by omega, by go_num, rowTo_succ HRT.out HX.out (by rw [HOK.out]; simp; omega) (fun y h => by omega), HBR.out.alloc hsr _⟩
                   case measure => simp [intOf]; omega)
                | (go_ret
                   exact ⟨ret_int (HZ6.out (keyB_okW HX.out (by rw [HOK.out]; simp; omega))).symm, HEND.out.alloc (by omega) _⟩)
                | (go_ret
                   exact ⟨ret_int (HZ6.out (keyB_okW HX.out (by rw [HOK.out]; rfl))).symm, HEND.out.alloc (by omega) _⟩)
          | succ j =>
            obtain ⟨y, hyk⟩ : ∃ y, k.ws[j]? = some y := ⟨_, List.getElem?_eq_getElem (by have := HN.out; omega)⟩
            obtain ⟨q2, off2, hq2, _, hy⟩ := rd_win (HR.out.below (w' := wr) (HEND.out)) hyk HN.out
            cases hq2
            obtain ⟨e0, e1, e2, e3, e4, e5, e6, e7, e8⟩ := hy
            have HY := Lib.hid hyk
            clear hyk
            cases V1 <;> cases V2 <;> cases V3 <;> cases ses
            all_goals
              go_wp2_with (first
                | (go_at_call 75; (with_reducible refine (HV1.out _).mono ?_); rintro e wn ⟨rfl, rfl⟩)
                | (go_at_call 75; (with_reducible refine (HV2.out _).mono ?_); rintro e wn ⟨rfl, rfl⟩)
                | (go_at_call 75; (with_reducible refine (HV3.out _).mono ?_); rintro e wn ⟨rfl, rfl⟩))
            all_goals
              first
                | (go_roundw
                   case rel => exact ⟨j + 1 + 1, by omega, by go_num, rowTo_succ HRT.out HX.out (by rw [HOK.out]; simp; omega) (fun z _ hz => by simp only [Nat.add_sub_cancel] at hz; have := HY.out.symm.trans hz; cases this; unfold ordW; simp; omega), (HBR.out.alloc hsr _).alloc (by simp; omega) _⟩
                   case measure => simp [intOf]; omega)
                | (go_ret
                   exact ⟨ret_int (HZ6.out (keyB_okW HX.out (by rw [HOK.out]; first | rfl | (simp; omega)))).symm, HEND.out.alloc (by omega) _⟩)
                | (go_ret
                   exact ⟨ret_int (HZ6.out (keyB_ord HX.out HY.out (by unfold ordW; simp; omega))).symm, (HEND.out.alloc (by omega) _).alloc (by simp; omega) _⟩)
        · obtain rfl : j = n := by omega
          have hrt := HRT.out
          rw [← HN.out] at hrt
          go_wp2
          go_ret
          exact ⟨ret_int (HZ0.out (keyB_yes ⟨by rw [HS.out]; exact hlen, by rw [HD.out]; exact HDR.out, hrt⟩)).symm, HEND.out⟩
  · have dl : decide (256 < S.size) = true := by simp; omega
    have dl' : decide ((256 : Int) < (S.size : Int)) = true := by simp; omega
    have hno : Hid (Z = 6) := Lib.hid (HZ6.out (keyB_no fun h => by have := h.1; rw [HS.out] at this; exact hlen this))
    clear HR
    go_enter Try.func50, Try.ntmps50
    go_wp2_with (first
      | (go_at_call 34; (with_reducible refine (HC.out _).mono ?_); rintro e w1 ⟨rfl, hb⟩; obtain ⟨hcc, hff⟩ := bcell hb; have hsz := hb.size; simp at hsz; have HB := Lib.hid hb; clear hb))
    go_ret
    exact ⟨ret_int hno.out.symm, (((below_alloc w _).alloc (by simp) _)).trans (HB.out.mono (by simp; omega))⟩
end Go.Proofs.Ytaechgnjdjijkaa
