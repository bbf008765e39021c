/- A job: config.Wrong, sliding windows. -/
import Derived.Test.YtaechgnjdjijkaaWins
namespace Go.Proofs.Ytaechgnjdjijkaa
open Go.RowKit Go.Lib

set_option maxRecDepth 100000 in
set_option maxHeartbeats 2000000 in
theorem Wrong_2 (g so k sz sl o ga la ea : Int) (di : Bool) (w : World) (e2 : (k == 2) = true) (e3 : (k == 3) = false) :
    Calls Try.prog 57 #[.agg #[.int .i64 g, .int .i64 so, .int .i64 k, .int .i64 sz, .int .i64 sl, .int .i64 o, .int .i64 ga, .int .i64 la, .int .i64 ea, .bool di]] w fun e w' => ∃ f z : Int, e = .returned (.tuple #[.int .i64 f, .int .i64 z]) ∧ ((z = 0 ∧ rowsTo (⟨g, so, k, sz, sl, o, ga, la, ea, di⟩ : Cf) true false sl 9) ∨ (z = 4 ∧ ¬ rowsTo (⟨g, so, k, sz, sl, o, ga, la, ea, di⟩ : Cf) true false sl 9)) ∧ Below w.heap.size w w' := by
  have HW := Lib.hid (fun x lo hi w => within_any x lo hi w)
  obtain ⟨AR, hAR⟩ : ∃ AR, rowsArr g so k sz sl o ga la ea false false true (wrap64 (sl - 1)) = AR := ⟨_, rfl⟩
  have HI : Hid (∀ (j : Nat), j < 9 → ∀ w : World, (Instr.index 136 (.agg AR) (.int .i64 (j : Int))).run Try.prog w = .ok (.agg #[.bool (rowN true false j), .int .i64 (rowX (⟨g, so, k, sz, sl, o, ga, la, ea, di⟩ : Cf) j), .int .i64 (rowL j), .int .i64 (rowH (⟨g, so, k, sz, sl, o, ga, la, ea, di⟩ : Cf) sl j)]) w) := by
    rw [← hAR]; exact Lib.hid (row_ix g so k sz sl o ga la ea di true false sl)
  have hB := rows_build g so k sz sl o ga la ea false false true (wrap64 (sl - 1))
  have RSZ : Hid ((Try.prog.info? 136).map (·.size) = some AR.size ∧ AR.size = zArr.size) := by rw [← hAR]; exact Lib.hid ⟨by kernel_rfl, rfl⟩
  have RONE : Hid (AR.all (·.oneCell') = true) := by rw [← hAR]; exact Lib.hid (by simp [rowsArr, Value.oneCell'])
  rw [hAR] at hB
  clear hAR
  have HB := Lib.hid hB
  clear hB
  go_enter Try.func57, Try.ntmps57
  go_wp2
  go_quiet (fail)
  go_upto_region 5 with (fail)
  go_cut [7] (fun s7 wx => ∃ q, s7 = .pointer (some ⟨q, 0, none⟩) ∧ Bk wx q 136 (AR) ∧ Bk wx w.heap.size 24 #[.int .i64 g, .int .i64 so, .int .i64 k, .int .i64 sz, .int .i64 sl, .int .i64 o, .int .i64 ga, .int .i64 la, .int .i64 ea, .bool di] ∧ Below w.heap.size w wx)
  case first =>
    trace "F1"
    go_wp2_with (first
      | ((with_reducible refine wpList_build_as _ _ _ _ 135 _ _ _ ?b1 (rowBuild1 ?x1 ?x2 ?x3 ?x4 _) ?_)
         case b1 => (simp only [List.map_toArray, List.map_cons, List.map_nil]; rfl))
      | ((with_reducible refine wpList_build_as _ _ _ _ 136 _ _ _ ?b1 (HB.out _) ?_)
         case b1 => (simp only [List.map_toArray, List.map_cons, List.map_nil]; rfl))
      | ((with_reducible refine wpList_store_as _ _ _ _ 136 _ _ (w.heap.size + 1) AR ?b1 ?b2 136 ?old ?b3 RSZ.out.1 ?b4 RONE.out ?_)
         go_loud (case b1 => rfl)
         go_loud (case b2 => rfl)
         go_loud (case b3 => (refine Bk.new' _ _ _ _ ?_; simp))
         go_loud (case b4 => (rw [RSZ.out.2]; rfl))))
    go_meet
    case rel => exact ⟨w.heap.size + 1, rfl, (Bk.new' _ _ _ _ (by simp)).row, (((Bk.new w _ _).drewN _).alloc _).rowFar (by simp), (((bel_drewN (below_alloc w _) _).alloc (by simp) _).trans (setRow_below (by simp)))⟩
  case rest =>
    obtain ⟨q, rfl, hq, hg, hb⟩ := hcut
    trace "R1"
    go_wp2_with (first
      | ((with_reducible refine wpList_load_as _ _ _ _ 136 _ q AR ?b1 136 (.array 9 135) ?b2 Try.underlying136 rfl RSZ.out.1 ?_)
         case b1 => rfl
         case b2 => exact hq))
    have HBK := Lib.hid hg
    have HBE := Lib.hid hb
    have hsz := hb.size
    clear hq hg hb
    go_loopw [62] (fun iv wr => ∃ j : Nat, j ≤ 9 ∧ iv = .int .i64 (j : Int) ∧ rowsTo (⟨g, so, k, sz, sl, o, ga, la, ea, di⟩ : Cf) true false sl j ∧ Below wc.heap.size wc wr) (fun iv _ => 9 - (intOf iv).toNat)
    case atStart => exact ⟨0, by omega, rfl, rowsTo_zero _ _ _ _, Below.refl _ _⟩
    case round =>
      obtain ⟨j, hj, rfl, hrt, hbr⟩ := hrel
      have HRT := Lib.hid hrt
      have HBR := Lib.hid hbr
      have hsr := hbr.size
      clear hrt hbr
      by_cases hj9 : j < 9
      · have hix := HI.out j hj9
        have hgr := (HBK.out.below HBR.out)
        have hlt1 : w.heap.size < wr.heap.size := hgr.lt
        have z3 : wr.cell? ⟨w.heap.size, 3, none⟩ = some (.int .i64 sz) := hgr.cell 3
        have z4 : wr.cell? ⟨w.heap.size, 4, none⟩ = some (.int .i64 sl) := hgr.cell 4
        clear hgr
        obtain ⟨N, hN⟩ : ∃ N, rowN true false j = N := ⟨_, rfl⟩
        obtain ⟨X, hX⟩ : ∃ X, rowX (⟨g, so, k, sz, sl, o, ga, la, ea, di⟩ : Cf) j = X := ⟨_, rfl⟩
        obtain ⟨LO, hLO⟩ : ∃ L, rowL j = L := ⟨_, rfl⟩
        obtain ⟨HH, hHH⟩ : ∃ H, rowH (⟨g, so, k, sz, sl, o, ga, la, ea, di⟩ : Cf) sl j = H := ⟨_, rfl⟩
        have HOK : Hid (rowOk (⟨g, so, k, sz, sl, o, ga, la, ea, di⟩ : Cf) true false sl j = (((N && (X == 0)) || (!N && wi X LO HH)) && (!(true && j == 4) || decide (sz ≤ wrap64 (64 * sl))))) := Lib.hid (by unfold rowOk; rw [hN, hX, hLO, hHH])
        rw [hN, hX, hLO, hHH] at hix
        clear hN hX hLO hHH
        obtain ⟨V, hV⟩ : ∃ V, wi X LO HH = V := ⟨_, rfl⟩
        rw [hV] at HOK
        have HWI := Lib.hid (fun w => within_any X LO HH w)
        rw [hV] at HWI
        clear hV
        obtain ⟨D, hD⟩ : ∃ D, decide (sz ≤ wrap64 (64 * sl)) = D := ⟨_, rfl⟩
        rw [hD] at HOK
        obtain ⟨E4, hE4⟩ : ∃ E, (j == 4) = E := ⟨_, rfl⟩
        rw [hE4] at HOK
        have f4 : ((1 + (j : Int)) == 5) = E4 := by rw [← hE4, Bool.eq_iff_iff]; simp; omega
        have HE4 := Lib.hid hE4
        clear hE4
        obtain ⟨XZ, hXZ⟩ : ∃ E, (X == 0) = E := ⟨_, rfl⟩
        rw [hXZ] at HOK
        cases N <;> cases V <;> cases XZ <;> cases E4 <;> cases D
        all_goals
          go_wp2_with (first
            | (go_at_call 75; (with_reducible refine (HWI.out _).mono ?_); rintro e wn ⟨rfl, rfl⟩))
          first
            | (go_roundw
               case rel => exact ⟨j + 1, by omega, by go_num, rowsTo_succ HRT.out (by rw [HOK.out]; rfl), HBR.out.alloc hsr _⟩
               case measure => simp [intOf]; omega)
            | (go_ret2
               exact ⟨_, _, rfl, .inr ⟨rfl, fun h => by have := h j hj9; rw [HOK.out] at this; cases this⟩, HBE.out.trans ((HBR.out.alloc hsr _).mono hsz)⟩)
      · obtain rfl : j = 9 := by omega
        go_wp2
        go_ret2
        exact ⟨_, _, rfl, .inl ⟨rfl, HRT.out⟩, HBE.out.trans (HBR.out.mono hsz)⟩

end Go.Proofs.Ytaechgnjdjijkaa
