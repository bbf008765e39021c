/- schema.Skip. -/
import Derived.Test.YtaechgnjdjijkaaRead
import Derived.DataShut
namespace Go.Proofs.Ytaechgnjdjijkaa
open Go.RowKit Go.Lib

/-- Where so many numbers end. -/
def skN (bs : List UInt8) : Nat → Nat → Option Nat
  | 0, a => some a
  | n + 1, a => if (rdAt bs a).2.2 ≠ 0 then none else skN bs n (a + (rdAt bs a).2.1)
/-- A key and where its state ends. -/
noncomputable def skTo (bs : List UInt8) (a0 : Nat) : Option (ByteArray × Nat) :=
  if txE bs.length bs a0 ≠ 0 then none
  else
    let a1 := a0 + (rdAt bs a0).2.1 + (rdAt bs a0).1
    if (rdAt bs a1).2.2 ≠ 0 then none
    else
      let a2 := a1 + (rdAt bs a1).2.1
      if (rdAt bs a2).2.2 ≠ 0 then none
      else match skN bs ((rdAt bs a2).1 * 9) (a2 + (rdAt bs a2).2.1) with
        | none => none
        | some a => some (⟨(cut bs (a0 + (rdAt bs a0).2.1) (rdAt bs a0).1).toArray⟩, a)
/-- What Skip answers. -/
def skAns (r : Option (ByteArray × Nat)) : Value := match r with
  | none => .tuple #[.string ⟨#[]⟩, .int .i64 0, .int .i64 290]
  | some (k, a) => .tuple #[.string k, .int .i64 (a : Int), .int .i64 0]
set_option maxRecDepth 100000 in
set_option maxHeartbeats 1000000 in
theorem Skip_any (A : Option Addr) (m cap : Nat) (bs : List UInt8) (W : World) (hr : Rd W (.slice A m cap) m (bc bs)) (hm : bs.length = m) (hmax : m ≤ 140737488355328) :
    Calls Try.prog 11 #[.slice A m cap] W fun e w' => e = .returned (skAns (skTo bs 0)) ∧ Below W.heap.size W w' := by
  subst hm
  obtain ⟨R, hR⟩ : ∃ R, skTo bs 0 = R := ⟨_, rfl⟩
  rw [hR]
  have HR := Lib.hid hR
  clear hR
  have HNR := Lib.hid (NewReader_any A bs.length cap bs W hr rfl (by omega))
  have HMX := Lib.hid hmax
  clear hr
  have HGF : Hid (∀ g w w', Below W.heap.size W w → W.heap.size ≤ g → w.grownBy w' (some g) → Below W.heap.size W w') := Lib.hid fun g w w' hb hg h => hb.grown h hb.size (fun _ e => by cases e; exact hg)
  go_enter Try.func11, Try.ntmps11
  go_wp2_with fail
  refine HNR.out.mono ?_
  rintro e w1 ⟨g, v, rfl, hb1, hg1, hr1⟩
  have HB1 := Lib.hid hb1
  have HGE := Lib.hid hg1
  have HR1 := Lib.hid hr1
  clear hb1 hg1 hr1 HNR
  obtain ⟨B0, hB0⟩ : ∃ B0, W.heap.size = B0 := ⟨_, rfl⟩
  rw [hB0] at HR1
  clear hB0
  go_wp2_with fail
--WALK
  by_cases htx : txE bs.length bs 0 = 0
  · have HT := Lib.hid (Text_ok B0 g 0 bs.length v bs w1 HR1.out (by omega) HMX.out htx)
    obtain ⟨K, hK⟩ : ∃ K : ByteArray, (⟨(cut bs (0 + (rdAt bs 0).2.1) (rdAt bs 0).1).toArray⟩ : ByteArray) = K := ⟨_, rfl⟩
    obtain ⟨a1, ha1⟩ : ∃ a1, 0 + (rdAt bs 0).2.1 + (rdAt bs 0).1 = a1 := ⟨_, rfl⟩
    have hR1 : R = (if (rdAt bs a1).2.2 ≠ 0 then none else
      let a2 := a1 + (rdAt bs a1).2.1
      if (rdAt bs a2).2.2 ≠ 0 then none
      else match skN bs ((rdAt bs a2).1 * 9) (a2 + (rdAt bs a2).2.1) with
        | none => none
        | some a => some (K, a)) := by
      rw [← HR.out, ← hK, ← ha1]; unfold skTo; rw [if_neg (by omega)]
    have HRA := Lib.hid hR1
    rw [hK, ha1] at HT
    clear hR1 hK ha1 htx HR
    refine HT.out.mono ?_
    rintro e w2 ⟨rfl, hr2, hg2⟩
    have HB2 := Lib.hid (HGF.out _ _ _ HB1.out HGE.out hg2)
    have HR2 := Lib.hid hr2
    have hle1 := hr2.le
    clear hr2 hg2 HT
    go_wp2_with fail
    have HN2 := Lib.hid (RNumber_g B0 g a1 v bs w2 HR2.out)
    by_cases hd : (rdAt bs a1).2.2 = 0
    · rw [hd] at HN2
      obtain ⟨D, hD⟩ : ∃ D, (rdAt bs a1).1 = D := ⟨_, rfl⟩
      obtain ⟨a2, ha2⟩ : ∃ a2, a1 + (rdAt bs a1).2.1 = a2 := ⟨_, rfl⟩
      have hR2 : R = (if (rdAt bs a2).2.2 ≠ 0 then none
        else match skN bs ((rdAt bs a2).1 * 9) (a2 + (rdAt bs a2).2.1) with
          | none => none
          | some a => some (K, a)) := by
        rw [HRA.out, ← ha2, if_neg (by omega)]
      have HRC := Lib.hid hR2
      rw [hD, ha2] at HN2
      clear hR2 hD ha2 hd HRA
      refine HN2.out.mono ?_
      rintro e w3 ⟨rfl, hr3, hg3⟩
      have HB3 := Lib.hid (HGF.out _ _ _ HB2.out HGE.out hg3)
      have HR3 := Lib.hid hr3
      have hle2 := hr3.le
      clear hr3 hg3 HN2
      go_wp2_with fail
      have HN3 := Lib.hid (RNumber_g B0 g a2 v bs w3 HR3.out)
      by_cases hd : (rdAt bs a2).2.2 = 0
      · rw [hd] at HN3
        obtain ⟨M, hM⟩ : ∃ M, (rdAt bs a2).1 = M := ⟨_, rfl⟩
        obtain ⟨a3, ha3⟩ : ∃ a3, a2 + (rdAt bs a2).2.1 = a3 := ⟨_, rfl⟩
        have hMl : M < 18446744073709551616 := by rw [← hM]; exact (rdAt_facts bs a2 hle2).1
        have hR3 : R = (match skN bs (M * 9) a3 with
            | none => none
            | some a => some (K, a)) := by
          rw [HRC.out, ← hM, ← ha3, if_neg (by omega)]
        have HRD := Lib.hid hR3
        rw [hM, ha3] at HN3
        clear hR3 hM ha3 hd HRC
        refine HN3.out.mono ?_
        rintro e w4 ⟨rfl, hr4, hg4⟩
        have HB4 := Lib.hid (HGF.out _ _ _ HB3.out HGE.out hg4)
        have HR4 := Lib.hid hr4
        clear hr4 hg4 HN3
        go_wp2_with fail
        go_loopw [7, 8] (fun e n wr => ∃ (z : Int) (a r : Nat), e = .int .i64 z ∧ n = .int .u64 (r : Int) ∧ r < 18446744073709551616 ∧ Below W.heap.size W wr ∧ Rr wr B0 g v bs a ∧ (z = 0 → skN bs (r * 9) a = skN bs (M * 9) a3) ∧ (z ≠ 0 → skN bs (M * 9) a3 = none)) (fun _ n _ => (intOf n).toNat)
        case atStart => exact ⟨0, a3, M, rfl, rfl, hMl, HB4.out, HR4.out, fun _ => rfl, fun h => absurd rfl h⟩
        case round =>
          obtain ⟨z, a, r, rfl, rfl, hrl, hb, hra, h0, h1⟩ := hrel
          have HB := Lib.hid hb
          have HRA := Lib.hid hra
          by_cases hz : z = 0
          · subst hz
            have hs := h0 rfl
            clear h0 h1
            by_cases hr0 : r = 0
            · subst hr0
              have hsome : Hid (R = some (K, a)) := Lib.hid (by rw [HRD.out, ← hs]; simp [skN])
              have HPL := Lib.hid (Place_any B0 g a v bs wr hra)
              clear hs hb hra
              go_wp2_with fail
              refine HPL.out.mono ?_
              rintro e w5 ⟨rfl, rfl⟩
              go_wp2
              obtain rfl := hsome.out
              go_ret3
              exact ⟨rfl, HB.out⟩
            · have HS := Lib.hid hs
              have hrp : 0 < r := Nat.pos_of_ne_zero hr0
              clear hs hb hra
              go_wp2_with fail
              go_loopw [7, 9] (fun e n wr => ∃ (z : Int) (a j : Nat), e = .int .i64 z ∧ n = .int .i64 (j : Int) ∧ j ≤ 9 ∧ Below W.heap.size W wr ∧ Rr wr B0 g v bs a ∧ (z = 0 → skN bs ((r - 1) * 9 + (9 - j)) a = skN bs (M * 9) a3) ∧ (z ≠ 0 → skN bs (M * 9) a3 = none)) (fun _ n _ => 9 - (intOf n).toNat)
              case atStart => exact ⟨0, a, 0, rfl, rfl, by omega, HB.out, HRA.out, fun _ => by rw [← HS.out]; congr 1; omega, fun h => absurd rfl h⟩
              case round =>
                obtain ⟨z, a', j, rfl, rfl, hj9, hb, hra, h0, h1⟩ := hrel
                have HB5 := Lib.hid hb
                have HRA5 := Lib.hid hra
                have HH0 := Lib.hid h0
                have HH1 := Lib.hid h1
                clear hb hra h0 h1
                by_cases hz : z = 0
                · subst hz
                  by_cases hj : j = 9
                  · subst hj
                    go_wp2_with fail
                    go_roundw
                    case rel => exact ⟨0, a', r - 1, rfl, congrArg (Value.int .u64) (by omega), by omega, HB5.out, HRA5.out, fun h => by rw [← HH0.out (by first | rfl | trivial), Nat.sub_self, Nat.add_zero], HH1.out⟩
                    case measure => simp [intOf]; omega
                  · have HNN := Lib.hid (RNumber_g B0 g a' v bs _ HRA5.out)
                    have hjl : j < 9 := by omega
                    go_wp2_with fail
                    refine HNN.out.mono ?_
                    rintro e w6 ⟨rfl, hr6, hg6⟩
                    have HB6 := Lib.hid (HGF.out _ _ _ HB5.out HGE.out hg6)
                    have HR6 := Lib.hid hr6
                    clear hr6 hg6
                    have hsk : skN bs ((r - 1) * 9 + (9 - j)) a' = if (rdAt bs a').2.2 ≠ 0 then none else skN bs ((r - 1) * 9 + (9 - (j + 1))) (a' + (rdAt bs a').2.1) := by
                      have : (r - 1) * 9 + (9 - j) = (r - 1) * 9 + (9 - (j + 1)) + 1 := by omega
                      rw [this, skN]
                    have HSK := Lib.hid hsk
                    clear hsk
                    go_wp2_with fail
                    go_roundw
                    case rel => exact ⟨((rdAt bs a').2.2 : Int), _, j + 1, rfl, congrArg (Value.int .i64) (by omega), by omega, HB6.out, HR6.out, fun h => by rw [← HH0.out (by first | rfl | trivial), HSK.out, if_neg (by omega)], fun h => by rw [← HH0.out (by first | rfl | trivial), HSK.out, if_pos (by omega)]⟩
                    case measure => simp [intOf]; omega
                · rcases Nat.lt_or_eq_of_le hj9 with hj | hj
                  · go_wp2_with fail
                    go_roundw
                    case rel => exact ⟨z, a', r - 1, rfl, congrArg (Value.int .u64) (by omega), by omega, HB5.out, HRA5.out, fun h => absurd h hz, HH1.out⟩
                    case measure => simp [intOf]; omega
                  · subst hj
                    go_wp2_with fail
                    go_roundw
                    case rel => exact ⟨z, a', r - 1, rfl, congrArg (Value.int .u64) (by omega), by omega, HB5.out, HRA5.out, fun h => absurd h hz, HH1.out⟩
                    case measure => simp [intOf]; omega
          · have hno : Hid (R = none) := Lib.hid (by rw [HRD.out, h1 hz])
            clear h0 h1 hb hra
            rcases Nat.eq_zero_or_pos r with hr0 | hr0
            · subst hr0
              go_wp2
              obtain rfl := hno.out
              go_ret3
              exact ⟨rfl, HB.out⟩
            · go_wp2
              obtain rfl := hno.out
              go_ret3
              exact ⟨rfl, HB.out⟩
      · have hno : Hid (R = none) := Lib.hid (by rw [HRC.out, if_pos hd])
        have hM0 := ((rdAt_facts bs a2 hle2).2.2.2 hd).1
        rw [hM0] at HN3
        obtain ⟨zn, hzn⟩ : ∃ zn, (rdAt bs a2).2.2 = zn := ⟨_, rfl⟩
        rw [hzn] at hd HN3
        obtain ⟨zz, hzz⟩ : ∃ zz : Int, (zn : Int) = zz := ⟨_, rfl⟩
        have hz0 : ¬ zz = 0 := by omega
        rw [hzz] at HN3
        clear hd hM0 hzn hzz
        refine HN3.out.mono ?_
        rintro e w4 ⟨rfl, hr4, hg4⟩
        have HB4 := Lib.hid (HGF.out _ _ _ HB3.out HGE.out hg4)
        clear hr4 hg4 HN3
        go_wp2_with fail
        go_loopw [7, 8] (fun e n wr => e = .int .i64 zz ∧ n = .int .u64 0 ∧ wr = w4) (fun _ _ _ => 0)
        case atStart => exact ⟨rfl, rfl, rfl⟩
        case round =>
          obtain ⟨rfl, rfl, rfl⟩ := hrel
          go_wp2
          obtain rfl := hno.out
          go_ret3
          exact ⟨rfl, HB4.out⟩
    · have hno : Hid (R = none) := Lib.hid (by rw [HRA.out, if_pos hd])
      obtain ⟨zn, hzn⟩ : ∃ zn, (rdAt bs a1).2.2 = zn := ⟨_, rfl⟩
      rw [hzn] at hd HN2
      obtain ⟨zz, hzz⟩ : ∃ zz : Int, (zn : Int) = zz := ⟨_, rfl⟩
      have hz0 : ¬ zz = 0 := by omega
      rw [hzz] at HN2
      clear hd hzn hzz
      refine HN2.out.mono ?_
      rintro e w3 ⟨rfl, hr3, hg3⟩
      have HB3 := Lib.hid (HGF.out _ _ _ HB2.out HGE.out hg3)
      clear hr3 hg3 HN2
      go_wp2_with fail
      go_loopw [7, 8] (fun e n wr => e = .int .i64 zz ∧ n = .int .u64 0 ∧ wr = w3) (fun _ _ _ => 0)
      case atStart => exact ⟨rfl, rfl, rfl⟩
      case round =>
        obtain ⟨rfl, rfl, rfl⟩ := hrel
        go_wp2
        obtain rfl := hno.out
        go_ret3
        exact ⟨rfl, HB3.out⟩
  · have HT := Lib.hid (Text_bad B0 g 0 bs.length v bs w1 HR1.out (by omega) HMX.out htx)
    have hno : Hid (R = none) := Lib.hid (by rw [← HR.out]; unfold skTo; rw [if_pos htx])
    obtain ⟨zn, hzn⟩ : ∃ zn, txE bs.length bs 0 = zn := ⟨_, rfl⟩
    rw [hzn] at htx HT
    obtain ⟨zz, hzz⟩ : ∃ zz : Int, (zn : Int) = zz := ⟨_, rfl⟩
    have hz0 : ¬ zz = 0 := by omega
    rw [hzz] at HT
    clear htx hzn hzz HR
    refine HT.out.mono ?_
    rintro e w3 ⟨rfl, hr3, hg3⟩
    have HB3 := Lib.hid (HGF.out _ _ _ HB1.out HGE.out hg3)
    clear hr3 hg3 HT
    go_wp2_with fail
    go_loopw [7, 8] (fun e n wr => e = .int .i64 zz ∧ n = .int .u64 0 ∧ wr = w3) (fun _ _ _ => 0)
    case atStart => exact ⟨rfl, rfl, rfl⟩
    case round =>
      obtain ⟨rfl, rfl, rfl⟩ := hrel
      go_wp2
      obtain rfl := hno.out
      go_ret3
      exact ⟨rfl, HB3.out⟩
end Go.Proofs.Ytaechgnjdjijkaa
