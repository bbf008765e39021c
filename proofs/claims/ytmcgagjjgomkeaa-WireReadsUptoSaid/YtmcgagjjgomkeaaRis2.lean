/- The reader's Rising: the walk of its closure. -/
import Derived.Test.YtmcgagjjgomkeaaApp
import Derived.Deep.RegionLaw
namespace Go.Proofs.Ytmcgagjjgomkeaa
open Go.RowKit Go.Lib

/-- What the closure leaves. -/
def RisK (W0 : World) (B g c2 : Nat) (v : Value) (bs : List UInt8) (RES : List Int × Nat × Nat) (w' : World) : Prop :=
  ∃ k, Rr w' B g v bs k ∧ W0.grownBy w' (some g) ∧ (RES.2.2 = 0 → k = RES.2.1 ∧ ∃ q, Bk w' c2 37 #[q] ∧ w'.ownsRow W0.heap.size 2 1 q RES.1.length (ic RES.1))
set_option maxRecDepth 100000 in
set_option maxHeartbeats 1000000 in
theorem RRising1_any (W0 : World) (B g at_ x c1 c2 : Nat) (v q0 : Value) (bs : List UInt8) (w : World) (h : Rr w B g v bs at_) (hp : Bk w c1 44 #[.pointer (some ⟨g, 0, none⟩)]) (hq : Bk w c2 37 #[q0]) (ho : w.ownsRow W0.heap.size 2 1 q0 0 [])
    (hx : x < 18446744073709551616) (hroom : x ≤ 1099511627776 ∨ bs.length ≤ 1099511627776) (hg0 : W0.grownBy w (some g)) (hc2 : W0.heap.size ≤ c2) :
    Calls Try.prog 52 #[.int .u64 (x : Int), .pointer (some ⟨c1, 0, none⟩), .pointer (some ⟨c2, 0, none⟩)] w fun e w' => e = .returned (.int .i64 ((rgL bs x at_ []).2.2 : Int)) ∧ RisK W0 B g c2 v bs (rgL bs x at_ []) w' := by
  obtain ⟨i0, hi0, hz0, hz1, hz2⟩ := info_parts i64Info
  have HN0 : Hid (Rn W0 B g c1 c2 v bs (rgL bs x at_ []) x x at_ [] q0 w) := ⟨rfl, h, hg0, hp, hq, ho, fun a ha => (by cases ha), Nat.le_of_eq (Nat.zero_add _), Nat.zero_le _⟩
  have HC2 := Lib.hid hc2
  have HRM := Lib.hid hroom
  generalize rgL bs x at_ [] = RES at *
  clear h hp hq ho hg0 hc2 hroom
  go_enter Try.func52, Try.ntmps52
  go_wp2
  go_loopw [0] (fun p wr => ∃ (m k : Nat) (out : List Int) (q : Value), p = .int .u64 (m : Int) ∧ Rn W0 B g c1 c2 v bs RES x m k out q wr) (fun p _ => (intOf p).toNat)
  case atStart => exact ⟨x, _, _, _, rfl, HN0.out⟩
  case round =>
    obtain ⟨m, k, out, q, rfl, hrn⟩ := hrel
    have HR := Lib.hid hrn
    have hnx := hrn.nx
    have hna := hrn.na
    have y1 : wr.cell? ⟨c1, 0, none⟩ = some (.pointer (some ⟨g, 0, none⟩)) := hrn.b1.cell 0
    have HNUM := Lib.hid (RNumber_g B g k v bs wr hrn.rd)
    have hfa := rdAt_facts bs k hrn.rd.le
    have hle := hrn.rd.le
    clear hrn
    have HFA := Lib.hid hfa
    cases m with
    | zero =>
      have hres : (out, k, 0) = RES := HR.out.res
      have HRES := Lib.hid hres
      clear hres
      go_wp2
      go_ret
      exact ⟨ret_int (by rw [← HRES.out]; rfl), k, HR.out.rd, HR.out.gr, fun _ => by rw [← HRES.out]; exact ⟨rfl, q, HR.out.b2, HR.out.own⟩⟩
    | succ m =>
      by_cases hz : (rdAt bs k).2.2 = 0
      · obtain ⟨hn0, hn1⟩ : 0 < (rdAt bs k).2.1 ∧ (rdAt bs k).1 < 18446744073709551616 := ⟨hfa.2.2.1 hz, hfa.1⟩
        have hbb : k + (rdAt bs k).2.1 ≤ bs.length := hfa.2.1
        have hL : out.length + 1 ≤ 1099511627776 := by rcases HRM.out with h | h <;> omega
        have HU := Lib.hid (fun w => unfold_any (rdAt bs k).1 w hn1)
        have hres : RES = (if out.length = 0 then rgL bs m (k + (rdAt bs k).2.1) (out ++ [unz (rdAt bs k).1]) else if 9223372036854775807 ≤ out.getD (out.length - 1) 0 + (rdAt bs k).1 then (out, k, 112) else rgL bs m (k + (rdAt bs k).2.1) (out ++ [out.getD (out.length - 1) 0 + (rdAt bs k).1 + 1])) := by rw [← HR.out.res, rgL, if_neg (by simpa using hz)]
        have HRES := Lib.hid hres
        clear hfa HFA hres
        generalize rdAt bs k = R at *
        obtain ⟨y, n, z⟩ := R
        have hz' : z = 0 := hz
        subst hz'
        by_cases h0 : out.length = 0
        · have ho0 : out = [] := List.eq_nil_of_length_eq_zero h0
          subst ho0
          have hres2 : Hid (rgL bs m (k + n) ([] ++ [unz y]) = RES) := by have := HRES.out; rw [if_pos h0] at this; exact this.symm
          clear hz h0
          go_wp2_with (first
            | (go_at_call 19; (with_reducible refine HNUM.out.mono ?_); rintro e w1 ⟨rfl, hr1, hg1⟩
               have hb2 := HR.out.b2.grown hg1 (fun e => by cases e; exact HR.out.rd.blk.ne HR.out.b2 (by decide) rfl)
               have hoq := HR.out.own.kept hg1 (.inr (own_bk_ne HR.out.own HR.out.rd.blk (by decide)))
               obtain ⟨qa, qc, rfl, hqc, hqm⟩ := ownsRow_shape hoq
               have y2 : w1.cell? ⟨c2, 0, none⟩ = some (.slice qa 0 qc) := hb2.cell 0
               have f2 := hb2.frozen 0
               have HB2 := Lib.hid hb2
               have HOQ := Lib.hid hoq
               have HR1 := Lib.hid hr1; have HG1 := Lib.hid hg1; clear hr1 hg1 hb2 hoq))
          have HRD := Lib.hid (rd_lit64 w1 #[.int .i64 (unz y)] 1 [unz y] (by decide) rfl rfl)
          have HA := Lib.hid (HOQ.out.alloc (.cells #[.int .i64 (unz y)] 2))
          have HSZ : Hid (W0.heap.size ≤ (w1.alloc (.cells #[.int .i64 (unz y)] 2)).heap.size) := by show _ ≤ _; have := HR.out.gr.size; have := HG1.out.size; simp; omega
          have ya : (w1.alloc (.cells #[.int .i64 (unz y)] 2)).cell? ⟨c2, 0, none⟩ = some (.slice qa 0 qc) := (HB2.out.alloc _).cell 0
          go_region_law (first
            | (go_simp; go_at_call 53; (with_reducible refine (HU.out _).mono ?_); rintro e wu ⟨rfl, rfl⟩)
            | (refine step_append_rd (by rfl) (.tmp 25) (.tmp 28) 37 (by rfl) W0.heap.size 2 i0 _ 1 8 Try.underlying37 hi0 hz0 hz1 hz2 rfl (by decide) _ 0 _ (by rfl) HA.out (some ⟨w1.heap.size, 0, none⟩) 1 1 [.int .i64 (unz y)] (by rfl) rfl HRD.out (by simp [Value.oneCell']) (by simp only [maxLen]; omega) (by omega) HSZ.out ?_; intro v2 w2 ho2 hg2
               have hb0 : Below w1.heap.size w1 (w1.alloc (.cells #[.int .i64 (unz y)] 2)).drew := (below_alloc w1 _).drew
               have HBW := Lib.hid (Bk.grew (HB2.out.below hb0) hg2 (own_bk_ne HA.out (HB2.out.alloc (.cells #[.int .i64 (unz y)] 2)) (by decide)))
               have hg2 := (Grew.of_below hb0 _).trans hg2
               obtain ⟨a2, k2, rfl, _, _⟩ := ownsRow_shape ho2
               have fw := HBW.out.frozen 0
               have cw := HBW.out.cell 0
               have HO2 := Lib.hid ho2
               have HG2 := Lib.hid hg2
               clear ho2 hg2 hb0))
          all_goals go_wp2
          all_goals go_roundw
          all_goals first
            | (simp [intOf]; omega; done)
            | (simp [intOf]; done)
            | exact ⟨m, _, _, _, by go_num, Rn.more HR.out HC2.out HR1.out HG1.out hn0 HG2.out HO2.out hres2.out (unz_I64 hn1)⟩
        · obtain ⟨j, hj⟩ : ∃ j, out.length = j + 1 := ⟨out.length - 1, by omega⟩
          obtain ⟨last, hlast⟩ : ∃ last, out[j]? = some last := ⟨_, List.getElem?_eq_getElem (by omega)⟩
          have hgd : out.getD (out.length - 1) 0 = last := by rw [hj, Nat.add_sub_cancel, List.getD, hlast]; rfl
          have hlr := HR.out.rg last (List.mem_of_getElem? hlast)
          have hres3 := HRES.out
          rw [if_neg h0, hgd] at hres3
          have HRES3 := Lib.hid hres3
          have hD : IntKind.u64.wrap (9223372036854775807 - IntKind.u64.wrap last) = ((9223372036854775807 - last).toNat : Int) := by
            have a1 := hlr.1; have a2 := hlr.2
            rw [IntKind.wrap_u64, IntKind.wrap_u64]
            omega
          have hDn : ((9223372036854775807 - last).toNat : Int) = 9223372036854775807 - last := by have := hlr.2; omega
          have hjj : wrap64 ((j : Int) + 1 - 1) = (j : Int) := by rw [Int.add_sub_cancel]; unfold wrap64; omega
          have hj0 : (((j : Int) + 1) == 0) = false := by simp; omega
          have HOL := Lib.hid hlast
          clear hz h0 hres3 HRES hgd hlast
          by_cases hbig : 9223372036854775807 ≤ last + (y : Int)
          · have hbd : decide (9223372036854775807 - last ≤ (y : Int)) = true := by simp; omega
            have hres4 : Hid ((out, k, 112) = RES) := by have := HRES3.out; rw [if_pos hbig] at this; exact this.symm
            clear HRES3 hbig
            go_wp2_with (first
              | (go_at_call 19; (with_reducible refine HNUM.out.mono ?_); rintro e w1 ⟨rfl, hr1, hg1⟩
                 have hb2 := HR.out.b2.grown hg1 (fun e => by cases e; exact HR.out.rd.blk.ne HR.out.b2 (by decide) rfl)
                 have hoq := HR.out.own.kept hg1 (.inr (own_bk_ne HR.out.own HR.out.rd.blk (by decide)))
                 rw [hj] at hoq
                 obtain ⟨qa, qc, rfl, hqc, hqm⟩ := ownsRow_shape hoq
                 obtain ⟨gq, rfl, _, _, _, _, hcells, _⟩ := ownsRow_at hoq (by omega)
                 have yl : w1.cell? ⟨gq, j, none⟩ = some (.int .i64 last) := hcells j _ (ic_at HOL.out)
                 have y2 : w1.cell? ⟨c2, 0, none⟩ = some (.slice (some ⟨gq, 0, none⟩) (j + 1) qc) := hb2.cell 0
                 have f2 := hb2.frozen 0
                 have HB2 := Lib.hid hb2
                 have HOQ := Lib.hid hoq
                 have HR1 := Lib.hid hr1; have HG1 := Lib.hid hg1; clear hr1 hg1 hb2 hoq hcells))
            go_ret
            exact ⟨ret_int (by rw [← hres4.out]; rfl), _, HR1.out, only_step HR.out.gr HG1.out (fun b e => by cases e; exact .inl rfl), fun h => by rw [← hres4.out] at h; cases h⟩
          · have hbd : decide (9223372036854775807 - last ≤ (y : Int)) = false := by simp; omega
            have hres4 : Hid (rgL bs m (k + n) (out ++ [last + y + 1]) = RES) := by have := HRES3.out; rw [if_neg hbig] at this; exact this.symm
            have hwl : wrap64 (wrap64 (last + wrap64 (y : Int)) + 1) = last + y + 1 := by have := hlr.1; unfold wrap64; omega
            have hI : I64 (last + y + 1) := ⟨by have := hlr.1; omega, by omega⟩
            have HI := Lib.hid hI
            clear HRES3 hbig hI
            go_wp2_with (first
              | (go_at_call 19; (with_reducible refine HNUM.out.mono ?_); rintro e w1 ⟨rfl, hr1, hg1⟩
                 have hb2 := HR.out.b2.grown hg1 (fun e => by cases e; exact HR.out.rd.blk.ne HR.out.b2 (by decide) rfl)
                 have hoq := HR.out.own.kept hg1 (.inr (own_bk_ne HR.out.own HR.out.rd.blk (by decide)))
                 rw [hj] at hoq
                 obtain ⟨qa, qc, rfl, hqc, hqm⟩ := ownsRow_shape hoq
                 obtain ⟨gq, rfl, _, _, _, _, hcells, _⟩ := ownsRow_at hoq (by omega)
                 have yl : w1.cell? ⟨gq, j, none⟩ = some (.int .i64 last) := hcells j _ (ic_at HOL.out)
                 have y2 : w1.cell? ⟨c2, 0, none⟩ = some (.slice (some ⟨gq, 0, none⟩) (j + 1) qc) := hb2.cell 0
                 have f2 := hb2.frozen 0
                 have HB2 := Lib.hid hb2
                 have HOQ := Lib.hid hoq
                 have HRD := Lib.hid (rd_lit64 w1 #[.int .i64 (last + y + 1)] 1 [last + y + 1] (by decide) rfl rfl)
                 have HA := Lib.hid (hoq.alloc (.cells #[.int .i64 (last + y + 1)] 2))
                 have HSZ : Hid (W0.heap.size ≤ (w1.alloc (.cells #[.int .i64 (last + y + 1)] 2)).heap.size) := by show _ ≤ _; have := HR.out.gr.size; have := hg1.size; simp; omega
                 have HR1 := Lib.hid hr1; have HG1 := Lib.hid hg1; clear hr1 hg1 hb2 hoq hcells)
              | (at_builtin; refine wpList_append_rd _ rfl (.tmp 41) (.tmp 47) 37 rfl W0.heap.size 2 i0 _ 1 8 Try.underlying37 hi0 hz0 hz1 hz2 rfl (by decide) _ (j + 1) _ rfl HA.out (some ⟨w1.heap.size, 0, none⟩) 1 1 [.int .i64 (last + y + 1)] rfl rfl HRD.out (by simp [Value.oneCell']) (by simp only [maxLen]; omega) (by omega) HSZ.out ?_; intro v2 w2 ho2 hg2 hat2
                 have hg3 := Grew.of_append hg2 hat2
                 have hb0 := below_alloc w1 (.cells #[.int .i64 (last + y + 1)] 2)
                 have HBW := Lib.hid (Bk.grew (HB2.out.below hb0) hg3 (own_bk_ne HA.out (HB2.out.alloc (.cells #[.int .i64 (last + y + 1)] 2)) (by decide)))
                 have hg4 := (Grew.of_below hb0 _).trans hg3
                 obtain ⟨a2, k2, rfl, _, _⟩ := ownsRow_shape ho2
                 have fw := HBW.out.frozen 0
                 have cw := HBW.out.cell 0
                 have HO2 := Lib.hid ho2
                 have HG2 := Lib.hid hg4
                 clear ho2 hg2 hb0 hg3 hg4 hat2))
            go_roundw
            case rel => exact ⟨m, _, _, _, by go_num, Rn.more HR.out HC2.out HR1.out HG1.out hn0 HG2.out (by rw [hj]; exact HO2.out) hres4.out HI.out⟩
            case measure => simp [intOf]
      · have hres : RES = (out, k, (rdAt bs k).2.2) := by rw [← HR.out.res]; unfold rgL; rw [if_pos hz]
        have HRES := Lib.hid hres
        clear hres
        obtain ⟨hz1, hz2⟩ := hfa.2.2.2 hz
        have h1 : (((rdAt bs k).2.2 : Int) == 0) = false := by simp; omega
        have h2 : (((rdAt bs k).2.2 : Int) != 0) = true := by simp; omega
        have HZ := Lib.hid hz
        clear hfa hz
        generalize rdAt bs k = R at *
        obtain ⟨y, n, z⟩ := R
        go_wp2_with (first
          | (go_at_call 19; (with_reducible refine HNUM.out.mono ?_); rintro e w1 ⟨rfl, hr1, hg1⟩; have HR1 := Lib.hid hr1; have HG1 := Lib.hid hg1; clear hr1 hg1))
        go_ret
        exact ⟨ret_int (by rw [HRES.out]), _, HR1.out, only_step HR.out.gr HG1.out (fun b e => by cases e; exact .inl rfl), fun h => absurd h (by rw [HRES.out]; exact HZ.out)⟩
end Go.Proofs.Ytmcgagjjgomkeaa
