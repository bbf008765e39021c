/- The document's Key. -/
import Derived.Test.YtaechgnjdjijkaaKey
import Derived.Test.YtaechgnjdjijkaaWins
import Derived.Deep.RegionHeld3
import Derived.Deep.DeepCutAuto
namespace Go.Proofs.Ytaechgnjdjijkaa
open Go.RowKit Go.Lib

theorem below_drewN {B : Nat} {w0 w : World} (h : Below B w0 w) (n : Nat) : Below B w0 (w.drewN n) := bel_drewN h n
/-- Have two spans a time in common? -/
def ovr (s e t f : Int) : Bool := decide (max s t < min e f)
theorem ovr_iff (s e t f : Int) : ovr s e t f = true ↔ s < e ∧ t < f ∧ s < f ∧ t < e := by unfold ovr; simp only [decide_eq_true_eq]; omega
theorem ovr_no {s e t f : Int} (h : ¬ (s < e ∧ t < f ∧ s < f ∧ t < e)) : ovr s e t f = false := by
  cases hh : ovr s e t f with
  | false => rfl
  | true => exact absurd ((ovr_iff s e t f).1 hh) h
set_option maxHeartbeats 400000 in
theorem refOverlap_any (s e t f : Int) (w : World) : Calls Try.prog 71 #[.agg #[.int .i64 s, .int .i64 e], .agg #[.int .i64 t, .int .i64 f]] w fun e' w' => e' = .returned (.bool (ovr s e t f)) ∧ Below w.heap.size w w' := by
  have fin := ((Below.refl w.heap.size w).alloc (Nat.le_refl _) (.cells #[.int .i64 s, .int .i64 e] 89)).alloc (by simp) (.cells #[.int .i64 t, .int .i64 f] 89)
  have FIN := Lib.hid fin
  clear fin
  have HR : Hid (∀ b : Bool, (b = true ↔ s < e ∧ t < f ∧ s < f ∧ t < e) → b = ovr s e t f) := Lib.hid fun b h => by rw [Bool.eq_iff_iff, h, ovr_iff]
  go_enter Try.func71, Try.ntmps71
  go_wp2
  all_goals
    go_ret
    exact ⟨ret_bool (HR.out _ (by simp; omega)), FIN.out⟩
/-- Does a span stand ahead of another one? -/
def ahd (y x : Wn) : Bool := decide (y.s < x.s) || (y.s == x.s && decide (y.e < x.e))
theorem Ahead_any (y x : Wn) (w : World) : Calls Try.prog 70 #[.agg #[.int .i64 y.s, .int .i64 y.e], .agg #[.int .i64 x.s, .int .i64 x.e]] w fun e' w' => e' = .returned (.bool (ahd y x)) ∧ Below w.heap.size w w' := by
  have HR : Hid (∀ b : Bool, (b = true ↔ y.s < x.s ∨ y.s = x.s ∧ y.e < x.e) → b = ahd y x) := Lib.hid fun b h => by rw [Bool.eq_iff_iff, h]; unfold ahd; simp
  go_enter Try.func70, Try.ntmps70
  go_wp2
  all_goals
    go_ret
    exact ⟨ret_bool (HR.out _ (by simp; omega)), ((Below.refl _ w).alloc (Nat.le_refl _) _).alloc (by simp) _⟩
theorem count12_any (n : Int) (w : World) : Calls Try.prog 69 #[.int .i64 n] w fun e w' => e = .returned (.bool (wi n 0 9007199254740992)) ∧ w = w' := by
  have HR : Hid (∀ b : Bool, (b = true ↔ 0 ≤ n ∧ n ≤ 9007199254740992) → b = wi n 0 9007199254740992) := Lib.hid fun b h => by rw [Bool.eq_iff_iff, h, wi_iff]
  go_enter Try.func69, Try.ntmps69
  go_wp2
  all_goals
    go_ret
    exact ⟨ret_bool (HR.out _ (by simp; omega)), rfl⟩
/-- Windows of sessions, apart. -/
theorem row_apart {l : List Wn} {n : Nat} (h : RowTo true l n) : ∀ (d i : Nat) (y x : Wn), i + d + 1 < n → l[i]? = some y → l[i + d + 1]? = some x → y.e ≤ x.s
  | 0, i, y, x, hn, hy, hx => by
    have h2 := (h (i + 0 + 1) x hn hx).2 y (by omega) (by simpa using hy)
    unfold ordW at h2
    simp at h2
    omega
  | d + 1, i, y, x, hn, hy, hx => by
    have hl : i + d + 1 < l.length := by have := (List.getElem?_eq_some_iff.1 hx).1; omega
    have hz : l[i + d + 1]? = some l[i + d + 1] := List.getElem?_eq_getElem hl
    have h1 := row_apart h d i y _ (by omega) hy hz
    have h2 := (h (i + (d + 1) + 1) x hn hx).2 _ (by omega) (show l[i + (d + 1) + 1 - 1]? = some l[i + d + 1] from hz)
    have h3 := (h (i + d + 1) _ (by omega) hz).1
    unfold ordW at h2
    unfold okW at h3
    simp at h2 h3
    omega
theorem row_apart' {l : List Wn} {n i j : Nat} {y x : Wn} (h : RowTo true l n) (hij : i < j) (hj : j < n) (hy : l[i]? = some y) (hx : l[j]? = some x) : y.e ≤ x.s := by
  obtain ⟨d, rfl⟩ : ∃ d, j = i + d + 1 := ⟨j - i - 1, by omega⟩
  exact row_apart h d i y x hj hy hx
theorem ord_of {ses : Bool} {y x : Wn} (h : ahd y x = true) (h2 : ses = true → y.e ≤ x.s) : ordW ses y x = true := by
  unfold ahd at h
  unfold ordW
  cases ses <;> simp at h h2 ⊢ <;> omega
theorem ord_not {ses : Bool} {y x : Wn} (h : ahd y x = false) : ordW ses y x = false := by
  unfold ahd at h
  unfold ordW
  cases ses <;> simp at h ⊢ <;> omega
theorem ahead_dec (l : List Wn) (j : Nat) (x : Wn) (hj : j ≤ l.length) : ∃ R : Bool, (R = true → 0 < j ∧ ∃ y, l[j - 1]? = some y ∧ ahd y x = false) ∧ (R = false → ∀ y, 0 < j → l[j - 1]? = some y → ahd y x = true) := by
  cases j with
  | zero => exact ⟨false, ⟨fun h => by simp at h, fun _ y h => by omega⟩⟩
  | succ i =>
    have hy : l[i]? = some (l[i]'(by omega)) := List.getElem?_eq_getElem (by omega)
    generalize l[i]'(by omega) = y at hy
    refine ⟨!ahd y x, ⟨fun h => ⟨by omega, y, hy, by simpa using h⟩, fun h z _ h2 => ?_⟩⟩
    simp only [Nat.add_sub_cancel] at h2
    rw [hy] at h2
    cases h2
    simpa using h

set_option maxRecDepth 100000 in
set_option maxHeartbeats 4000000 in
theorem refKey_any (c : Cf) (k : Kn) (kv : Value) (w : World) (hr : Rk w kv k) : Calls Try.prog 46 #[c.val, kv] w fun e w' => e = .returned (.bool (keyB (c.k == 3) k)) ∧ Below w.heap.size w w' := by
  obtain ⟨A, cap, rfl, hr⟩ := hr
  have HR := Lib.hid hr
  obtain ⟨_, _, hv, hc1, hc2, -⟩ := hr
  cases hv
  unfold maxLen at hc2
  obtain ⟨ses, hses⟩ : ∃ ses, (c.k == 3) = ses := ⟨_, rfl⟩
  rw [hses]
  obtain ⟨Z, hZ⟩ : ∃ Z : Bool, keyB ses k = Z := ⟨_, rfl⟩
  have HZ : Hid (keyB ses k = Z) := Lib.hid hZ
  rw [hZ]
  clear hZ
  unfold Cf.val
  obtain ⟨g, so, kd, sz, sl, o, ga, la, ea, di⟩ := c
  simp only at hses ⊢
  obtain ⟨n, hn⟩ : ∃ n, k.ws.length = n := ⟨_, rfl⟩
  rw [hn] at HR hc1 ⊢
  have HN := Lib.hid hn
  obtain ⟨S, hS⟩ : ∃ S, k.key = S := ⟨_, rfl⟩
  obtain ⟨D, hD⟩ : ∃ D, k.dr = D := ⟨_, rfl⟩
  rw [hS, hD]
  have HS := Lib.hid hS
  have HD := Lib.hid hD
  clear hn hS hD
  obtain ⟨DB, hDB⟩ : ∃ DB, wi D 0 9007199254740992 = DB := ⟨_, rfl⟩
  have hwd := count12_any D
  rw [hDB] at hwd
  have HWD := Lib.hid hwd
  have HDB := Lib.hid hDB
  clear hwd hDB
  have hKS : KeyP ses k → S.size ≤ 256 ∧ DB = true := fun h => ⟨by have := h.1; rwa [HS.out] at this, by have := h.2.1; rwa [HD.out, HDB.out] at this⟩
  have HKS := Lib.hid hKS
  clear hKS
  by_cases hlen : S.size ≤ 256
  · have dl : decide (256 < S.size) = false := by simp; omega
    have dl' : decide ((256 : Int) < (S.size : Int)) = false := by simp; omega
    cases DB with
    | false =>
      have hno : Hid (Z = false) := Lib.hid (HZ.out.symm.trans (keyB_no fun h => by have := (HKS.out h).2; cases this))
      go_enter Try.func46, Try.ntmps46
      go_wp2_with (first
        | (go_at_call 69; (with_reducible refine (HWD.out _).mono ?_); rintro e wn ⟨rfl, rfl⟩))
      go_ret
      exact ⟨ret_bool hno.out.symm, (below_alloc w _).alloc (by simp) _⟩
    | true =>
      go_enter Try.func46, Try.ntmps46
      go_wp2_with (first
        | (go_at_call 69; (with_reducible refine (HWD.out _).mono ?_); rintro e wn ⟨rfl, rfl⟩))
      obtain ⟨w1, hw1⟩ : ∃ w1, (w.alloc (.cells #[.int .i64 g, .int .i64 so, .int .i64 kd, .int .i64 sz, .int .i64 sl, .int .i64 o, .int .i64 ga, .int .i64 la, .int .i64 ea, .bool di] 24)).alloc (.cells #[.string S, .int .i64 D, .slice A n cap] 29) = w1 := ⟨_, rfl⟩
      have HBC : Hid (Bk w1 w.heap.size 24 #[.int .i64 g, .int .i64 so, .int .i64 kd, .int .i64 sz, .int .i64 sl, .int .i64 o, .int .i64 ga, .int .i64 la, .int .i64 ea, .bool di]) := by rw [← hw1]; exact Lib.hid ((Bk.new w _ _).alloc _)
      have HBK : Hid (Bk w1 (w.heap.size + 1) 29 #[.string S, .int .i64 D, .slice A n cap]) := by rw [← hw1]; exact Lib.hid (Bk.new' _ _ _ _ (by simp))
      have HW1 : Hid (Below w.heap.size w w1) := by rw [← hw1]; exact Lib.hid ((below_alloc w _).alloc (by simp) _)
      have hs1 : w1.heap.size = w.heap.size + 2 := by rw [← hw1]; simp
      rw [hw1]
      clear hw1
      go_loopw [6] (fun iv wr => ∃ j : Nat, j ≤ n ∧ iv = .int .i64 (j : Int) ∧ RowTo ses k.ws j ∧ Below w1.heap.size w1 wr) (fun iv _ => n - (intOf iv).toNat)
      case atStart => exact ⟨0, Nat.zero_le _, rfl, rowTo_zero _ _, Below.refl _ _⟩
      case round =>
        obtain ⟨j, hj, rfl, hrt, hbr⟩ := hrel
        have HRT := Lib.hid hrt
        have HBR := Lib.hid hbr
        have hsr := hbr.size
        have HEND : Hid (Below w.heap.size w wr) := Lib.hid (HW1.out.trans (hbr.mono (by omega)))
        clear hrt hbr
        have bK := HBK.out.below HBR.out
        have zk : wr.cell? ⟨w.heap.size + 1, 2, none⟩ = some (.slice A n cap) := bK.cell 2
        have bC := HBC.out.below HBR.out
        have zc : wr.cell? ⟨w.heap.size, 2, none⟩ = some (.int .i64 kd) := bC.cell 2
        clear bK bC
        by_cases hjn : j < n
        · obtain ⟨x, hxk⟩ : ∃ x, k.ws[j]? = some x := ⟨_, List.getElem?_eq_getElem (by have := HN.out; omega)⟩
          obtain ⟨q, off, rfl, hq, hx⟩ := rd_win (HR.out.below (w' := wr) (HEND.out)) hxk HN.out
          obtain ⟨c0, c1, c2, c3, c4, c5, c6, c7, c8⟩ := hx
          have HX := Lib.hid hxk
          clear hxk
          obtain ⟨V1, hV1⟩ : ∃ V, wi x.c 0 9007199254740992 = V := ⟨_, rfl⟩
          obtain ⟨V2, hV2⟩ : ∃ V, wi x.si 0 9007199254740992 = V := ⟨_, rfl⟩
          obtain ⟨V3, hV3⟩ : ∃ V, wi x.pa 0 9007199254740992 = V := ⟨_, rfl⟩
          have HOK : Hid (okW x = (V1 && V2 && V3 && decide (x.s < x.e) && decide (-4611687117939015680 ≤ x.s) && decide (x.e ≤ 4611687117939015680))) := Lib.hid (by unfold okW; rw [hV1, hV2, hV3])
          have h1 := count12_any x.c
          have h2 := count12_any x.si
          have h3 := count12_any x.pa
          rw [hV1] at h1; rw [hV2] at h2; rw [hV3] at h3
          have HV1 := Lib.hid h1
          have HV2 := Lib.hid h2
          have HV3 := Lib.hid h3
          clear hV1 hV2 hV3 h1 h2 h3
          by_cases hok : okW x = true
          · have hok2 := hok
            rw [HOK.out] at hok2
            simp only [Bool.and_eq_true, decide_eq_true_eq] at hok2
            obtain ⟨⟨⟨⟨⟨rfl, rfl⟩, rfl⟩, g1⟩, g2⟩, g3⟩ := hok2
            have HK := Lib.hid hok
            clear hok
            have g1' : decide (x.e ≤ x.s) = false := by simp; omega
            have g2' : decide (x.s < -4611687117939015680) = false := by simp; omega
            have g3' : decide (4611687117939015680 < x.e) = false := by simp; omega
            go_wp2_with (first
              | (go_at_call 69; (with_reducible refine (HV1.out _).mono ?_); rintro e wn ⟨rfl, rfl⟩)
              | (go_at_call 69; (with_reducible refine (HV2.out _).mono ?_); rintro e wn ⟨rfl, rfl⟩)
              | (go_at_call 69; (with_reducible refine (HV3.out _).mono ?_); rintro e wn ⟨rfl, rfl⟩))
            have hbx : Below w.heap.size w (wr.alloc (.cells #[.int .i64 x.s, .int .i64 x.e, .int .i64 x.h, .int .i64 x.c, .int .i64 x.u, .int .i64 x.lo, .int .i64 x.hi, .int .i64 x.si, .int .i64 x.pa] 93)) := HEND.out.alloc (by omega) _
            have hbr' : Below wr.heap.size wr (wr.alloc (.cells #[.int .i64 x.s, .int .i64 x.e, .int .i64 x.h, .int .i64 x.c, .int .i64 x.u, .int .i64 x.lo, .int .i64 x.hi, .int .i64 x.si, .int .i64 x.pa] 93)) := below_alloc _ _
            have hbk : Bk (wr.alloc (.cells #[.int .i64 x.s, .int .i64 x.e, .int .i64 x.h, .int .i64 x.c, .int .i64 x.u, .int .i64 x.lo, .int .i64 x.hi, .int .i64 x.si, .int .i64 x.pa] 93)) wr.heap.size 93 #[.int .i64 x.s, .int .i64 x.e, .int .i64 x.h, .int .i64 x.c, .int .i64 x.u, .int .i64 x.lo, .int .i64 x.hi, .int .i64 x.si, .int .i64 x.pa] := Bk.new _ _ _
            obtain ⟨W1, hW1⟩ : ∃ W1, (wr.alloc (.cells #[.int .i64 x.s, .int .i64 x.e, .int .i64 x.h, .int .i64 x.c, .int .i64 x.u, .int .i64 x.lo, .int .i64 x.hi, .int .i64 x.si, .int .i64 x.pa] 93)) = W1 := ⟨_, rfl⟩
            rw [hW1] at hbx hbr' hbk ⊢
            obtain ⟨B, hB⟩ : ∃ B, wr.heap.size = B := ⟨_, rfl⟩
            rw [hB] at hbk ⊢
            have HBX := Lib.hid hbx
            have HBW := Lib.hid hbr'
            have HXB := Lib.hid hbk
            have hsB := hbr'.size
            clear hW1 hbx hbr' hbk zk zc c0 c1 c2 c3 c4 c5 c6 c7 c8 g1' g2' g3' hB
            /- what stands ahead -/
            obtain ⟨R, hR0, hR1⟩ := ahead_dec k.ws j x (by have := HN.out; omega)
            have HR0 := Lib.hid hR0
            have HR1 := Lib.hid hR1
            clear hR0 hR1
            go_cut [85] (fun s85 wx => s85 = .bool R ∧ Below W1.heap.size W1 wx)
            case first =>
              cases j with
              | zero =>
                have hR : R = false := by
                  cases R with
                  | false => rfl
                  | true => have := (HR0.out rfl).1; omega
                go_quiet (fail)
                go_wp2
                go_meet
                exact ⟨by rw [hR], bel_drewN (Below.refl _ _) _⟩
              | succ i =>
                obtain ⟨y, hy⟩ : ∃ y, k.ws[i]? = some y := ⟨_, List.getElem?_eq_getElem (by have := HN.out; omega)⟩
                have hR : Hid (R = !ahd y x) := by
                  cases R with
                  | false => rw [HR1.out rfl y (by omega) (by simpa using hy)]; exact Lib.hid rfl
                  | true =>
                    obtain ⟨_, z, hz, ha⟩ := HR0.out rfl
                    simp only [Nat.add_sub_cancel] at hz
                    rw [hy] at hz
                    cases hz
                    rw [ha]; exact Lib.hid rfl
                obtain ⟨q2, off2, hq2, hql, hyw⟩ := rd_win (HR.out.below (w' := W1) HBX.out) hy HN.out
                cases hq2
                have HKY : Hid (∀ W, Below W1.heap.size W1 W → Below W1.heap.size W1 W ∧ W.cell? ⟨w.heap.size + 1, 2, none⟩ = some (.slice (some ⟨q, off, none⟩) n cap) ∧ W.cell? ⟨q, off + i * 9, none⟩ = some (.int .i64 y.s) ∧ W.cell? ⟨q, off + i * 9 + 1, none⟩ = some (.int .i64 y.e) ∧ W.cell? ⟨B, 0, none⟩ = some (.int .i64 x.s) ∧ W.cell? ⟨B, 1, none⟩ = some (.int .i64 x.e)) := Lib.hid fun W hb =>
                  ⟨hb, (((HBK.out.below HBR.out).below HBW.out).below hb).cell 2, (hb.cell (p := ⟨q, off + i * 9, none⟩) hql).trans hyw.c0, (hb.cell (p := ⟨q, off + i * 9 + 1, none⟩) hql).trans hyw.c1, (HXB.out.below hb).cell 0, (HXB.out.below hb).cell 1⟩
                obtain ⟨-, zk, a0, a1, b0, b1⟩ := HKY.out _ (Below.refl _ W1)
                have HA := Lib.hid (Ahead_any y x)
                obtain ⟨AH, hAH⟩ : ∃ AH, ahd y x = AH := ⟨_, rfl⟩
                rw [hAH] at HA hR
                clear hy hyw hql hAH
                have hw1 : IntKind.i64.wrap (i : Int) = (i : Int) := IntWalk.i64_in _ (by omega)
                have hw2 : IntKind.i64.wrap ((i : Int) + 1 - 1) = (i : Int) := by rw [Int.add_sub_cancel]; exact hw1
                have hi0 : (0 : Int) ≤ (i : Int) := by omega
                have hin : (i : Int) < (n : Int) := by omega
                have hin' : i < n := by omega
                go_region_held3 (fun W => Below W1.heap.size W1 W ∧ W.cell? ⟨w.heap.size + 1, 2, none⟩ = some (.slice (some ⟨q, off, none⟩) n cap) ∧ W.cell? ⟨q, off + i * 9, none⟩ = some (.int .i64 y.s) ∧ W.cell? ⟨q, off + i * 9 + 1, none⟩ = some (.int .i64 y.e) ∧ W.cell? ⟨B, 0, none⟩ = some (.int .i64 x.s) ∧ W.cell? ⟨B, 1, none⟩ = some (.int .i64 x.e))
                  (first
                    | exact HKY.out _ (below_drew W1)
                    | exact HKY.out _ hb7)
                  ((go_at_call 70; (with_reducible refine (HA.out _).mono ?_); rintro e w7 ⟨rfl, hb7'⟩; have hb7 : Below W1.heap.size W1 w7 := below_trans (below_drew W1) hb7'))
                go_wp2
                go_meet
                exact ⟨by rw [hR.out], hb7⟩
            case rest =>
              obtain ⟨rfl, hbc⟩ := hcut
              have HCC := Lib.hid hbc
              have hsc := hbc.size
              clear hbc
              cases R with
              | true =>
                have hno : Hid (Z = false) := Lib.hid (HZ.out.symm.trans (by
                  obtain ⟨h0, y, hy, ha⟩ := HR0.out rfl
                  obtain ⟨i, rfl⟩ : ∃ i, j = i + 1 := ⟨j - 1, by omega⟩
                  exact keyB_ord HX.out hy (ord_not ha)))
                go_wp2
                go_ret
                exact ⟨ret_bool hno.out.symm, HBX.out.trans (HCC.out.mono (HBX.out.size))⟩
              | false =>
                go_wp2
                have HPR : Hid (∀ y, 0 < j → k.ws[j - 1]? = some y → ahd y x = true) := Lib.hid (HR1.out (by first | rfl | trivial))
                clear HR0 HR1
                go_loopw [8] (fun iv wr => ∃ m : Nat, iv = .int .i64 (m : Int) ∧ m ≤ j ∧ Below W1.heap.size W1 wr ∧ (ses = true → ∀ (t : Nat) (y : Wn), t < m → k.ws[t]? = some y → ovr y.s y.e x.s x.e = false)) (fun iv _ => j - (intOf iv).toNat)
                case atStart => exact ⟨0, rfl, Nat.zero_le _, HCC.out, fun _ t y h => by omega⟩
                case round =>
                  obtain ⟨m, rfl, hm, hbi, hov⟩ := hrel
                  have HOV := Lib.hid hov
                  have HBI := Lib.hid hbi
                  have hsi := hbi.size
                  have hWI : Below w.heap.size w wr := HBX.out.trans (hbi.mono HBX.out.size)
                  have HWI := Lib.hid hWI
                  have zc : wr.cell? ⟨w.heap.size, 2, none⟩ = some (.int .i64 kd) := (((HBC.out.below HBR.out).below HBW.out).below hbi).cell 2
                  clear hov hbi hWI
                  cases ses with
                  | false =>
                    have hrow : Hid (RowTo false k.ws (j + 1)) := Lib.hid (rowTo_succ HRT.out HX.out HK.out fun y h0 hy => ord_of (HPR.out y h0 hy) (fun h => by cases h))
                    by_cases hmj : m < j
                    all_goals
                      go_wp2
                      go_roundw
                      case rel => exact ⟨j + 1, by omega, by go_num, hrow.out, HBR.out.trans ((HBW.out.trans (HBI.out.mono hsB)).mono hsr)⟩
                      case measure => simp [intOf]; omega
                  | true =>
                    by_cases hmj : m < j
                    · obtain ⟨y, hy⟩ : ∃ y, k.ws[m]? = some y := ⟨_, List.getElem?_eq_getElem (by have := HN.out; omega)⟩
                      obtain ⟨q2, off2, hq2, hql, hyw⟩ := rd_win (HR.out.below (w' := wr) HWI.out) hy HN.out
                      cases hq2
                      have HY := Lib.hid hy
                      have HKY : Hid (∀ W, Below wr.heap.size wr W → Below wr.heap.size wr W ∧ W.cell? ⟨w.heap.size + 1, 2, none⟩ = some (.slice (some ⟨q, off, none⟩) n cap) ∧ W.cell? ⟨q, off + m * 9, none⟩ = some (.int .i64 y.s) ∧ W.cell? ⟨q, off + m * 9 + 1, none⟩ = some (.int .i64 y.e) ∧ W.cell? ⟨B, 0, none⟩ = some (.int .i64 x.s) ∧ W.cell? ⟨B, 1, none⟩ = some (.int .i64 x.e)) := Lib.hid fun W hb =>
                        ⟨hb, ((((HBK.out.below HBR.out).below HBW.out).below HBI.out).below hb).cell 2, (hb.cell (p := ⟨q, off + m * 9, none⟩) hql).trans hyw.c0, (hb.cell (p := ⟨q, off + m * 9 + 1, none⟩) hql).trans hyw.c1, ((HXB.out.below HBI.out).below hb).cell 0, ((HXB.out.below HBI.out).below hb).cell 1⟩
                      obtain ⟨-, zk, a0, a1, b0, b1⟩ := HKY.out _ (Below.refl _ wr)
                      obtain ⟨OV, hOV⟩ : ∃ OV, ovr y.s y.e x.s x.e = OV := ⟨_, rfl⟩
                      have HO := Lib.hid (refOverlap_any y.s y.e x.s x.e)
                      rw [hOV] at HO
                      have HOVE := Lib.hid hOV
                      clear hy hyw hql hOV
                      have hi0 : (0 : Int) ≤ (m : Int) := by omega
                      have hin : (m : Int) < (n : Int) := by omega
                      have hin' : m < n := by omega
                      go_wp2
                      go_region_held3 (fun W => Below wr.heap.size wr W ∧ W.cell? ⟨w.heap.size + 1, 2, none⟩ = some (.slice (some ⟨q, off, none⟩) n cap) ∧ W.cell? ⟨q, off + m * 9, none⟩ = some (.int .i64 y.s) ∧ W.cell? ⟨q, off + m * 9 + 1, none⟩ = some (.int .i64 y.e) ∧ W.cell? ⟨B, 0, none⟩ = some (.int .i64 x.s) ∧ W.cell? ⟨B, 1, none⟩ = some (.int .i64 x.e))
                        (first
                          | exact HKY.out _ (below_drew wr)
                          | exact HKY.out _ hb7)
                        ((go_at_call 71; (with_reducible refine (HO.out _).mono ?_); rintro e w7 ⟨rfl, hb7'⟩; have hb7 : Below wr.heap.size wr w7 := below_trans (below_drew wr) hb7'))
                      have hb7s := hb7.size
                      have H7 := Lib.hid hb7
                      clear a0 a1 b0 b1 hb7 zk zc
                      cases OV with
                      | true =>
                        have hno : Hid (Z = false) := Lib.hid (HZ.out.symm.trans (keyB_no fun h => by
                          have h1 := row_apart' h.2.2 hmj (by have := HN.out; omega) HY.out HX.out
                          have h2 := (ovr_iff _ _ _ _).1 HOVE.out
                          omega))
                        go_wp2
                        go_ret
                        exact ⟨ret_bool hno.out.symm, HWI.out.trans (H7.out.mono HWI.out.size)⟩
                      | false =>
                        go_wp2
                        go_roundw
                        case rel => exact ⟨m + 1, by go_num, by omega, HBI.out.trans (H7.out.mono hsi), fun _ t z ht hz => by
                          by_cases htm : t < m
                          · exact HOV.out (by first | rfl | trivial) t z htm hz
                          · obtain rfl : t = m := by omega
                            have := HY.out.symm.trans hz; cases this; exact HOVE.out⟩
                        case measure => simp [intOf]; omega
                    · obtain rfl : m = j := by omega
                      have hrow : Hid (RowTo true k.ws (m + 1)) := Lib.hid (rowTo_succ HRT.out HX.out HK.out fun y h0 hy => by
                        have h1 := HPR.out y h0 hy
                        refine ord_of h1 fun _ => ?_
                        have h2 := HOV.out (by first | rfl | trivial) (m - 1) y (by omega) hy
                        have h3 := (HRT.out (m - 1) y (by omega) hy).1
                        have h4 := HK.out
                        unfold okW at h3 h4
                        unfold ahd at h1
                        simp at h1 h3 h4
                        have h5 : ¬ (ovr y.s y.e x.s x.e = true) := by rw [h2]; decide
                        rw [ovr_iff] at h5
                        omega)
                      go_wp2
                      go_roundw
                      case rel => exact ⟨m + 1, by omega, by go_num, hrow.out, HBR.out.trans ((HBW.out.trans (HBI.out.mono hsB)).mono hsr)⟩
                      case measure => simp [intOf]; omega
          · have hno : Hid (Z = false) := Lib.hid (HZ.out.symm.trans (keyB_okW HX.out (by simpa using hok)))
            have HNO := Lib.hid hok
            clear hok
            cases V1 <;> cases V2 <;> cases V3
            all_goals
              go_wp2_with (first
                | (go_at_call 69; (with_reducible refine (HV1.out _).mono ?_); rintro e wn ⟨rfl, rfl⟩)
                | (go_at_call 69; (with_reducible refine (HV2.out _).mono ?_); rintro e wn ⟨rfl, rfl⟩)
                | (go_at_call 69; (with_reducible refine (HV3.out _).mono ?_); rintro e wn ⟨rfl, rfl⟩))
            all_goals
              first
                | (go_ret
                   exact ⟨ret_bool hno.out.symm, HEND.out.alloc (by omega) _⟩)
                | (exfalso; refine HNO.out ?_; rw [HOK.out]; simp; omega)
        · obtain rfl : j = n := by omega
          have hrt := HRT.out
          rw [← HN.out] at hrt
          have hyes : Hid (Z = true) := Lib.hid (HZ.out.symm.trans (keyB_yes ⟨by rw [HS.out]; exact hlen, by rw [HD.out]; exact HDB.out, hrt⟩))
          go_wp2
          go_ret
          exact ⟨ret_bool hyes.out.symm, HEND.out⟩
  · have dl : decide (256 < S.size) = true := by simp; omega
    have dl' : decide ((256 : Int) < (S.size : Int)) = true := by simp; omega
    have hno : Hid (Z = false) := Lib.hid (HZ.out.symm.trans (keyB_no fun h => hlen (HKS.out h).1))
    go_enter Try.func46, Try.ntmps46
    go_wp2_with (first
      | (go_at_call 69; (with_reducible refine (HWD.out _).mono ?_); rintro e wn ⟨rfl, rfl⟩))
    go_ret
    exact ⟨ret_bool hno.out.symm, (below_alloc w _).alloc (by simp) _⟩
end Go.Proofs.Ytaechgnjdjijkaa
