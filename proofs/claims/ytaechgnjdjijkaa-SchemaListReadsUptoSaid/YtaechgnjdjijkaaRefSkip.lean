/- The document's Skip. -/
import Derived.Test.YtaechgnjdjijkaaWire3
import Derived.Test.YtaechgnjdjijkaaBacks
namespace Go.Proofs.Ytaechgnjdjijkaa
open Go.RowKit Go.Lib

set_option maxRecDepth 100000 in
set_option maxHeartbeats 1000000 in
theorem refSkip_any (A : Option Addr) (m cap : Nat) (bs : List UInt8) (W : World) (hr : Rd W (.slice A m cap) m (bc bs)) (hm : bs.length = m) (hmax : m ≤ 140737488355328) :
    Calls Try.prog 13 #[.slice A m cap] W fun e w' => e = .returned (skAns (skTo bs 0)) ∧ Below W.heap.size W w' := by
  obtain ⟨R, hR⟩ : ∃ R, skTo bs 0 = R := ⟨_, rfl⟩
  rw [hR]
  have HR := Lib.hid hR
  clear hR
  have hcap : m ≤ cap ∧ cap ≤ maxLen := by obtain ⟨_, _, hv, h1, h2, _⟩ := hr; cases hv; exact ⟨h1, h2⟩
  unfold maxLen at hcap
  obtain ⟨hcap1, hcap2⟩ := hcap
  have HD0 : Hid (Df W (W.alloc (.cells #[.slice A m cap, .int .i64 0] 82)) W.heap.size A m cap bs 0) := Lib.hid ⟨Bk.new W _ _, hr, hm, Nat.zero_le _, below_alloc W _, Nat.le_refl _⟩
  have HM := Lib.hid hm
  have HMX := Lib.hid hmax
  clear hr hm
  obtain ⟨d, hd⟩ : ∃ d, W.heap.size = d := ⟨_, rfl⟩
  have HDD := Lib.hid hd
  go_enter Try.func13, Try.ntmps13
  go_wp2_with fail
  rw [hd] at HD0
  clear hd
  obtain ⟨w1, hw1⟩ : ∃ w1, W.alloc (.cells #[.slice A m cap, .int .i64 0] 82) = w1 := ⟨_, rfl⟩
  rw [hw1] at HD0 ⊢
  clear hw1
  by_cases htx : txE m bs 0 = 0
  · have HT := Lib.hid (dText_ok m (by omega) HD0.out htx)
    obtain ⟨K, hK⟩ : ∃ K : ByteArray, (⟨(cut bs (0 + (rdAt bs 0).2.1) (rdAt bs 0).1).toArray⟩ : ByteArray) = K := ⟨_, rfl⟩
    obtain ⟨a1, ha1⟩ : ∃ a1, 0 + (rdAt bs 0).2.1 + (rdAt bs 0).1 = a1 := ⟨_, rfl⟩
    have hR1 : R = (if (rdAt bs a1).2.2 ≠ 0 then none else
      let a2 := a1 + (rdAt bs a1).2.1
      if (rdAt bs a2).2.2 ≠ 0 then none
      else match skN bs ((rdAt bs a2).1 * 9) (a2 + (rdAt bs a2).2.1) with
        | none => none
        | some a => some (K, a)) := by
      rw [← HR.out, ← hK, ← ha1]; unfold skTo; rw [HM.out, if_neg (by omega)]; rfl
    have HRA := Lib.hid hR1
    rw [hK, ha1] at HT
    clear hR1 hK ha1 htx HR
    refine HT.out.mono ?_
    rintro e w2 ⟨rfl, hr2, -⟩
    have HR2 := Lib.hid hr2
    have hle1 := hr2.le
    clear hr2 HT
    go_wp2_with fail
    have HN2 := Lib.hid (dNumber_g HR2.out)
    by_cases hd : (rdAt bs a1).2.2 = 0
    · rw [hd] at HN2
      obtain ⟨D, hD⟩ : ∃ D, (rdAt bs a1).1 = D := ⟨_, rfl⟩
      obtain ⟨a2, ha2⟩ : ∃ a2, a1 + (rdAt bs a1).2.1 = a2 := ⟨_, rfl⟩
      have hR2 : R = (if (rdAt bs a2).2.2 ≠ 0 then none
        else match skN bs ((rdAt bs a2).1 * 9) (a2 + (rdAt bs a2).2.1) with
          | none => none
          | some a => some (K, a)) := by
        rw [HRA.out, ← ha2, if_neg (by omega)]
      have HRC := Lib.hid hR2
      rw [hD, ha2] at HN2
      clear hR2 hD ha2 hd HRA
      refine HN2.out.mono ?_
      rintro e w3 ⟨rfl, hr3, -⟩
      have HR3 := Lib.hid hr3
      have hle2 := hr3.le
      clear hr3 HN2
      go_wp2_with fail
      have HN3 := Lib.hid (dNumber_g HR3.out)
      by_cases hd : (rdAt bs a2).2.2 = 0
      · rw [hd] at HN3
        obtain ⟨M, hM⟩ : ∃ M, (rdAt bs a2).1 = M := ⟨_, rfl⟩
        obtain ⟨a3, ha3⟩ : ∃ a3, a2 + (rdAt bs a2).2.1 = a3 := ⟨_, rfl⟩
        have hMl : M < 18446744073709551616 := by rw [← hM]; exact (rdAt_facts bs a2 (by have := HM.out; omega)).1
        have hR3 : R = (match skN bs (M * 9) a3 with
            | none => none
            | some a => some (K, a)) := by
          rw [HRC.out, ← hM, ← ha3, if_neg (by omega)]
        have HRD := Lib.hid hR3
        rw [hM, ha3] at HN3
        clear hR3 hM ha3 hd HRC
        refine HN3.out.mono ?_
        rintro e w4 ⟨rfl, hr4, -⟩
        have HR4 := Lib.hid hr4
        clear hr4 HN3
        go_wp2_with fail
        go_loopw [7, 9] (fun e n wr => ∃ (z : Int) (a i : Nat), e = .int .i64 z ∧ n = .int .u64 (i : Int) ∧ i ≤ M ∧ Df W wr d A m cap bs a ∧ (z = 0 → skN bs ((M - i) * 9) a = skN bs (M * 9) a3) ∧ (z ≠ 0 → skN bs (M * 9) a3 = none)) (fun _ n _ => M - (intOf n).toNat)
        case atStart => exact ⟨0, a3, 0, rfl, rfl, Nat.zero_le _, HR4.out, fun _ => rfl, fun h => absurd rfl h⟩
        case round =>
          obtain ⟨z, a, i, rfl, rfl, hil, hra, h0, h1⟩ := hrel
          have HRA := Lib.hid hra
          by_cases hz : z = 0
          · subst hz
            have hs := h0 rfl
            clear h0 h1
            by_cases hr0 : i = M
            · subst hr0
              have hsome : Hid (R = some (K, a)) := Lib.hid (by rw [HRD.out, ← hs]; simp [skN])
              have x1 : wr.cell? ⟨d, 1, none⟩ = some (.int .i64 (a : Int)) := hra.blk.cell 1
              have hnlt : ¬ i < i := by omega
              clear hs hra
              go_wp2
              go_quiet (fail)
              go_wp2
              obtain rfl := hsome.out
              go_ret3
              exact ⟨rfl, bel_drewN HRA.out.bel _⟩
            · have HS := Lib.hid hs
              have hrp : i < M := by omega
              clear hs hra hr0
              go_wp2_with fail
              go_loopw [7, 10] (fun e n wr => ∃ (z : Int) (a j : Nat), e = .int .i64 z ∧ n = .int .i64 (j : Int) ∧ j ≤ 9 ∧ Df W wr d A m cap bs a ∧ (z = 0 → skN bs ((M - (i + 1)) * 9 + (9 - j)) a = skN bs (M * 9) a3) ∧ (z ≠ 0 → skN bs (M * 9) a3 = none)) (fun _ n _ => 9 - (intOf n).toNat)
              case atStart => exact ⟨0, a, 0, rfl, rfl, by omega, HRA.out, fun _ => by rw [← HS.out]; congr 1; omega, fun h => absurd rfl h⟩
              case round =>
                obtain ⟨z, a', j, rfl, rfl, hj9, hra, h0, h1⟩ := hrel
                have HRA5 := Lib.hid hra
                have HH0 := Lib.hid h0
                have HH1 := Lib.hid h1
                clear hra h0 h1
                by_cases hz : z = 0
                · subst hz
                  by_cases hj : j = 9
                  · subst hj
                    go_wp2_with fail
                    go_roundw
                    case rel => exact ⟨0, a', i + 1, rfl, congrArg (Value.int .u64) (by omega), by omega, HRA5.out, fun _ => HH0.out (by first | rfl | trivial), HH1.out⟩
                    case measure => simp [intOf]; omega
                  · have HNN := Lib.hid (dNumber_g HRA5.out)
                    have hjl : j < 9 := by omega
                    go_wp2_with fail
                    refine HNN.out.mono ?_
                    rintro e w6 ⟨rfl, hr6, -⟩
                    have HR6 := Lib.hid hr6
                    clear hr6
                    have hsk : skN bs ((M - (i + 1)) * 9 + (9 - j)) a' = if (rdAt bs a').2.2 ≠ 0 then none else skN bs ((M - (i + 1)) * 9 + (9 - (j + 1))) (a' + (rdAt bs a').2.1) := by
                      have : (M - (i + 1)) * 9 + (9 - j) = (M - (i + 1)) * 9 + (9 - (j + 1)) + 1 := by omega
                      rw [this, skN]
                    have HSK := Lib.hid hsk
                    clear hsk
                    go_wp2_with fail
                    go_roundw
                    case rel => exact ⟨((rdAt bs a').2.2 : Int), _, j + 1, rfl, congrArg (Value.int .i64) (by omega), by omega, HR6.out, fun h => by rw [← HH0.out (by first | rfl | trivial), HSK.out, if_neg (by omega)], fun h => by rw [← HH0.out (by first | rfl | trivial), HSK.out, if_pos (by omega)]⟩
                    case measure => simp [intOf]; omega
                · have HNO := Lib.hid (HH1.out hz)
                  rcases Nat.lt_or_eq_of_le hj9 with hj | hj
                  · go_wp2_with fail
                    go_roundw
                    case rel => exact ⟨z, a', i + 1, rfl, congrArg (Value.int .u64) (by omega), by omega, HRA5.out, fun h => absurd h hz, fun _ => HNO.out⟩
                    case measure => simp [intOf]; omega
                  · subst hj
                    go_wp2_with fail
                    go_roundw
                    case rel => exact ⟨z, a', i + 1, rfl, congrArg (Value.int .u64) (by omega), by omega, HRA5.out, fun h => absurd h hz, fun _ => HNO.out⟩
                    case measure => simp [intOf]; omega
          · have hno : Hid (R = none) := Lib.hid (by rw [HRD.out, h1 hz])
            have hnz : (z == 0) = false := by simpa using hz
            have hnz2 : (z != 0) = true := by simpa using hz
            clear h0 h1 hra
            rcases Nat.lt_or_eq_of_le hil with hlt | hlt
            · go_wp2
              go_ret3
              obtain rfl := hno.out
              exact ⟨rfl, HRA.out.bel⟩
            · subst hlt
              have hnlt : ¬ i < i := by omega
              go_wp2
              go_ret3
              obtain rfl := hno.out
              exact ⟨rfl, HRA.out.bel⟩
      · have hno : Hid (R = none) := Lib.hid (by rw [HRC.out, if_pos hd])
        have hnz : (((rdAt bs a2).2.2 : Int) != 0) = true := by simp; omega
        refine HN3.out.mono ?_
        rintro e w4 ⟨rfl, hr4, -⟩
        have HR4 := Lib.hid hr4
        obtain ⟨z, hz⟩ : ∃ z : Nat, (rdAt bs a2).2.2 = z := ⟨_, rfl⟩
        obtain ⟨q, hq⟩ : ∃ q : Nat, (rdAt bs a2).1 = q := ⟨_, rfl⟩
        have hz0 : z ≠ 0 := by omega
        rw [hz] at hnz ⊢
        rw [hq]
        have hnz2 : ((z : Int) == 0) = false := by simp; omega
        clear hr4 HN3 hd hz hq
        obtain ⟨zi, hzi⟩ : ∃ zi : Int, (z : Int) = zi := ⟨_, rfl⟩
        rw [hzi] at hnz hnz2 ⊢
        clear hzi hz0
        go_wp2_with fail
        go_loopw [7, 9] (fun e n wr => ∃ i : Nat, e = .int .i64 zi ∧ n = .int .u64 (i : Int) ∧ Below W.heap.size W wr) (fun _ _ _ => 0)
        case atStart => exact ⟨0, rfl, rfl, HR4.out.bel⟩
        case round =>
          obtain ⟨i, rfl, rfl, hb⟩ := hrel
          have HB := Lib.hid hb
          clear hb
          by_cases hlt : i < q
          · go_wp2
            go_ret3
            obtain rfl := hno.out
            exact ⟨rfl, HB.out⟩
          · go_wp2
            go_ret3
            obtain rfl := hno.out
            exact ⟨rfl, HB.out⟩
    · have hno : Hid (R = none) := Lib.hid (by rw [HRA.out, if_pos hd])
      have hnz : (((rdAt bs a1).2.2 : Int) != 0) = true := by simp; omega
      refine HN2.out.mono ?_
      rintro e w3 ⟨rfl, hr3, -⟩
      have HR3 := Lib.hid hr3
      clear hr3 HN2 hd
      go_wp2
      go_ret3
      obtain rfl := hno.out
      exact ⟨rfl, HR3.out.bel⟩
  · have HT := Lib.hid (dText_bad m (by omega) HD0.out htx)
    have hno : Hid (R = none) := Lib.hid (by rw [← HR.out]; unfold skTo; rw [HM.out, if_pos htx])
    have hnz : ((txE m bs 0 : Int) != 0) = true := by simp; omega
    refine HT.out.mono ?_
    rintro e w2 ⟨rfl, hr2, -⟩
    have HR2 := Lib.hid hr2
    clear hr2 HT htx
    go_wp2
    go_ret3
    obtain rfl := hno.out
    exact ⟨rfl, HR2.out.bel⟩
end Go.Proofs.Ytaechgnjdjijkaa
