/- The walk of the program's Union. -/
import Derived.Test.YtjdfjaocidjhlaaSrf
namespace Go.Proofs.Ytjdfjaocidjhlaa
open Go.RowKit Go.Shelf

theorem rd_two_at (w : World) (s e : Int) (g : Nat) (hg : w.heap.size = g) : Rd (w.alloc (.cells #[.int .i64 s, .int .i64 e] 24)) (.slice (some ⟨g, 0, none⟩) 1 1) 1 [.int .i64 s, .int .i64 e] := hg ▸ rd_two w s e
theorem pstep_len (l : List Sn) (t : Sn) : (pstep l t).length ≤ l.length + 1 := by
  unfold pstep
  cases h : l.getLast? with
  | none => simp
  | some x => simp only; split <;> simp <;> omega
theorem pUnion_snoc (p : List Sn) (t : Sn) : pUnion (p ++ [t]) = pstep (pUnion p) t := by simp [pUnion]
theorem pUnion_len (p : List Sn) : (pUnion p).length ≤ p.length := by
  suffices ∀ (q : List Sn) (l : List Sn), (q.foldl pstep l).length ≤ l.length + q.length by simpa [pUnion] using this p []
  intro q
  induction q with
  | nil => simp
  | cons t q ih => intro l; have := ih (pstep l t); have := pstep_len l t; simp at *; omega
theorem pstep_new {l : List Sn} {t : Sn} (h : ∀ x, l.getLast? = some x → ¬ t.s ≤ x.e) : pstep l t = l ++ [t] := by
  unfold pstep
  cases hl : l.getLast? with
  | none => rfl
  | some x => simp only; rw [if_neg (h x hl)]
theorem pstep_old {l0 : List Sn} {x t : Sn} (h : t.s ≤ x.e) : pstep (l0 ++ [x]) t = l0 ++ [⟨x.s, max x.e t.e⟩] := by
  unfold pstep; simp [h]
set_option maxRecDepth 100000 in
set_option maxHeartbeats 4000000 in
theorem Union_any (v : Value) (p : List Sn) (n : Nat) (hn : p.length = n) (hlen : n ≤ 10000) (w : World) (hr : Rd w v n (scells p)) :
    Calls Try.prog 22 #[v] w fun e w' => ∃ v', e = .returned v' ∧ w'.ownsRow w.heap.size 24 2 v' (rUnion p).length (scells (rUnion p)) ∧ Below w.heap.size w w' := by
  obtain ⟨iS, hiS, hS0, hS1, hS2⟩ := info_parts spanInfo
  have HCL := Lib.hid (clone_any v p n hn hlen w hr)
  have HN := Lib.hid hn
  clear hr hn
  go_enter Try.func22, Try.ntmps22
  go_wp2_with (first
    | (go_at_call 38; (with_reducible refine HCL.out.mono ?_); rintro e w1 ⟨v1, rfl, ho1, hb1⟩
       obtain ⟨a1, c1, rfl, -, -⟩ := ownsRow_shape ho1
       have HB1 := Lib.hid hb1
       have HD := Lib.hid (delete_any w.heap.size a1 n c1 p HN.out hlen w1 hb1.size ho1)
       clear ho1 hb1)
    | (go_at_call 37; (with_reducible refine HD.out.mono ?_); rintro e w2 ⟨v2, rfl, ho2, hb2⟩
       obtain ⟨a2, c2, rfl, -, -⟩ := ownsRow_shape ho2
       have hk2 : (kept p).length ≤ n := by have := List.length_filter_le (fun x => !emp x) p; have := HN.out; unfold kept; omega
       have HB2 := Lib.hid (HB1.out.trans hb2)
       obtain ⟨m, hm⟩ : ∃ m, (kept p).length = m := ⟨_, rfl⟩
       rw [hm] at ho2 hk2 ⊢
       have HM := Lib.hid hm
       have HS := Lib.hid (sort_any w.heap.size a2 m c2 (kept p) hm (by omega) w2 ho2 (Nat.le_trans HB1.out.size hb2.size))
       clear ho2 hb2 hm)
    | (go_at_call 40; (with_reducible refine HS.out.mono ?_); rintro e w3 ⟨rfl, q, hq1, hq2, hq3, ho3, hb3⟩
       have HB3 := Lib.hid (HB2.out.trans hb3)
       have HO3 := Lib.hid ho3
       have HQ : Hid (pUnion q = rUnion p) := pUnion_eq hq3 fun t => by
         rw [hq2, kept, List.mem_filter]
         simp [emp]
       clear ho3 hb3 hq2 hq3))
  go_loopw [4, 15] (fun v4 i wr => ∃ k : Nat, i = .int .i64 k ∧ k ≤ m ∧ Below w3.heap.size w3 wr ∧ wr.ownsRow w3.heap.size 24 2 v4 (pUnion (q.take k)).length (scells (pUnion (q.take k)))) (fun _ i _ => m - (intOf i).toNat)
  case atStart => exact ⟨0, rfl, Nat.zero_le _, Below.refl _ _, World.ownsRow_nil _ _ _ _⟩
  case round =>
    obtain ⟨k, rfl, hk, hb, hos⟩ := hrel
    by_cases hlt : k < m
    · obtain ⟨g, rfl, -, hg, -, -, hcq, -⟩ := ownsRow_at HO3.out (by omega)
      obtain ⟨x, hx⟩ : ∃ x, q[k]? = some x := ⟨_, List.getElem?_eq_getElem (by omega)⟩
      have c0 := (hb.cell (p := ⟨g, k * 2, none⟩) hg).trans (hcq _ _ (scells_get hx).1)
      have c1 := (hb.cell (p := ⟨g, k * 2 + 1, none⟩) hg).trans (hcq _ _ (scells_get hx).2)
      have hg2 : g < wr.heap.size := by have := hb.size; omega
      have hTS : pUnion (q.take (k + 1)) = pstep (pUnion (q.take k)) x := by rw [List.take_add_one, hx, ← pUnion_snoc]; rfl
      have hLL : (pUnion (q.take k)).length ≤ k := Nat.le_trans (pUnion_len _) (by simp; omega)
      have HTS := Lib.hid hTS
      clear hTS hcq hx
      generalize pUnion (q.take k) = L at *
      have HBL := Lib.hid hb
      have hbs := hb.size
      by_cases hnew : ∀ z, L.getLast? = some z → ¬ x.s ≤ z.e
      · have HG := Lib.hid (pstep_new hnew)
        have HOS0 := Lib.hid (hos.alloc (.cells #[.int .i64 x.s, .int .i64 x.e] 24))
        have HBL0 := Lib.hid (hb.alloc hbs (.cells #[.int .i64 x.s, .int .i64 x.e] 24))
        by_cases hL0 : L = []
        · subst hL0
          obtain ⟨a7, c7, rfl, -, -⟩ := ownsRow_shape hos
          clear hos hnew hb
          go_wp2
          go_quiet (fail)
          have HOA := Lib.hid (World.ownsRow.alloc (w := (wr.alloc (.cells #[.int .i64 x.s, .int .i64 x.e] 24)).drewN nq) HOS0.out (.cells #[.int .i64 x.s, .int .i64 x.e] 24))
          have HBA := Lib.hid ((below_drewN HBL0.out nq).alloc (by have := HBL0.out.size; simp at *; omega) (.cells #[.int .i64 x.s, .int .i64 x.e] 24))
          have HRO := Lib.hid (rd_two_at ((wr.alloc (.cells #[.int .i64 x.s, .int .i64 x.e] 24)).drewN nq) x.s x.e (wr.heap.size + 1) (by simp))
          go_wp2_with (first
            | (at_builtin; refine wpList_append_rd _ rfl (.tmp 48) (.tmp 50) 51 rfl w3.heap.size 24 iS _ 2 16 Try.underlying51 hiS hS0 hS1 hS2 rfl (by decide) _ _ _ rfl HOA.out _ 1 1 [.int .i64 x.s, .int .i64 x.e] rfl rfl HRO.out (by simp [Value.oneCell']) (by simp only [maxLen]; first | omega | simp) (by omega) (by simp; omega) ?_; intro v7 w5 hos5 hg5 _
               have HOS5 := Lib.hid hos5
               have HBL5 := Lib.hid (HBA.out.grown hg5 (by simp; omega) (fun r e => (HOA.out.lt r e).1))
               clear hos5 hg5))
          go_roundw
          case rel =>
            refine ⟨k + 1, by simp, by omega, HBL5.out, ?_⟩
            rw [HTS.out, HG.out]
            simpa [scells, Sn.cells] using HOS5.out
          case measure => simp [intOf]; omega
        · obtain ⟨L0, z, rfl⟩ : ∃ L0 z, L = L0 ++ [z] := ⟨L.dropLast, L.getLast hL0, (List.dropLast_concat_getLast hL0).symm⟩
          have hz : ¬ x.s ≤ z.e := hnew z (by simp)
          obtain ⟨b, hbm⟩ : ∃ b, L0.length = b := ⟨_, rfl⟩
          have hlen2 : (L0 ++ [z]).length = b + 1 := by simp [hbm]
          have HCE := Lib.hid (hbm ▸ scells_end L0 z)
          rw [hlen2] at hos hLL HOS0
          obtain ⟨a7, c7, rfl, -, -⟩ := ownsRow_shape hos
          obtain ⟨r, rfl, hr0, hr1, -, -, hcr, hfr⟩ := ownsRow_at hos (by omega)
          have hce := hcr _ _ HCE.out
          have hxd : decide (x.s ≤ z.e) = false := by simp; omega
          clear hos hnew hcr hfr hb
          go_wp2
          go_quiet (fail)
          have HOA := Lib.hid (World.ownsRow.alloc (w := (wr.alloc (.cells #[.int .i64 x.s, .int .i64 x.e] 24)).drewN nq) HOS0.out (.cells #[.int .i64 x.s, .int .i64 x.e] 24))
          have HBA := Lib.hid ((below_drewN HBL0.out nq).alloc (by have := HBL0.out.size; simp at *; omega) (.cells #[.int .i64 x.s, .int .i64 x.e] 24))
          have HRO := Lib.hid (rd_two_at ((wr.alloc (.cells #[.int .i64 x.s, .int .i64 x.e] 24)).drewN nq) x.s x.e (wr.heap.size + 1) (by simp))
          go_wp2_with (first
            | (at_builtin; refine wpList_append_rd _ rfl (.tmp 48) (.tmp 50) 51 rfl w3.heap.size 24 iS _ 2 16 Try.underlying51 hiS hS0 hS1 hS2 rfl (by decide) _ _ _ rfl HOA.out _ 1 1 [.int .i64 x.s, .int .i64 x.e] rfl rfl HRO.out (by simp [Value.oneCell']) (by simp only [maxLen]; first | omega | simp) (by omega) (by simp; omega) ?_; intro v7 w5 hos5 hg5 _
               have HOS5 := Lib.hid hos5
               have HBL5 := Lib.hid (HBA.out.grown hg5 (by simp; omega) (fun r e => (HOA.out.lt r e).1))
               clear hos5 hg5))
          go_roundw
          case rel =>
            refine ⟨k + 1, by simp, by omega, HBL5.out, ?_⟩
            rw [HTS.out, HG.out]
            have e2 : (L0 ++ [z] ++ [x]).length = b + 1 + 1 := by simp [hbm]
            rw [e2, scells_snoc (L0 ++ [z])]
            exact HOS5.out
          case measure => simp [intOf]; omega
      · obtain ⟨L0, z, rfl, hz⟩ : ∃ L0 z, L = L0 ++ [z] ∧ x.s ≤ z.e := by
          simp only [Classical.not_forall, Classical.not_not] at hnew
          obtain ⟨z, hl, hx⟩ := hnew
          obtain ⟨L0, rfl⟩ := List.getLast?_eq_some_iff.1 hl
          exact ⟨L0, z, rfl, hx⟩
        have HG := Lib.hid (pstep_old (l0 := L0) hz)
        obtain ⟨b, hbm⟩ : ∃ b, L0.length = b := ⟨_, rfl⟩
        have hlen2 : (L0 ++ [z]).length = b + 1 := by simp [hbm]
        have HCE := Lib.hid (hbm ▸ scells_end L0 z)
        have HCS := Lib.hid (fun e => hbm ▸ scells_set L0 z e)
        rw [hlen2] at hos hLL
        obtain ⟨a7, c7, rfl, -, -⟩ := ownsRow_shape hos
        obtain ⟨r, rfl, hr0, hr1, -, -, hcr, hfr⟩ := ownsRow_at hos (by omega)
        have hce := hcr _ _ HCE.out
        have hfe := hfr (b * 2 + 1)
        have hxd : decide (x.s ≤ z.e) = true := by simp [hz]
        have HOS0 := Lib.hid (hos.alloc (.cells #[.int .i64 x.s, .int .i64 x.e] 24))
        have HBL0 := Lib.hid (hb.alloc hbs (.cells #[.int .i64 x.s, .int .i64 x.e] 24))
        clear hos hcr hfr hb
        go_wp2
        go_quiet (fail)
        go_wp2
        go_region
        all_goals go_wp2
        all_goals go_roundw
        case rel =>
          have hst := (World.ownsRow.stored (w := (wr.alloc (.cells #[.int .i64 x.s, .int .i64 x.e] 24)).drewN (nq + 1)) HOS0.out (b * 2 + 1) (.int .i64 (max z.e x.e))).1
          rw [HCS.out] at hst
          refine ⟨k + 1, by simp, by omega, (below_drewN HBL0.out (nq + 1)).setCell hr0 _, ?_⟩
          rw [HTS.out, HG.out]
          have e2 : (L0 ++ [(⟨z.s, max z.e x.e⟩ : Sn)]).length = b + 1 := by simp [hbm]
          rw [e2]
          exact hst
        case measure => simp [intOf]; omega
    · obtain rfl : k = m := by omega
      have HBL := Lib.hid hb
      rw [show q.take k = q by rw [← hq1, List.take_length]] at hos
      have HOS := Lib.hid hos
      obtain ⟨a9, c9, rfl, -, -⟩ := ownsRow_shape hos
      clear hb hos
      go_wp2
      go_ret
      refine ⟨_, rfl, ?_, HB3.out.trans (HBL.out.mono HB3.out.size)⟩
      rw [← HQ.out]
      exact own_mono HOS.out HB3.out.size
end Go.Proofs.Ytjdfjaocidjhlaa
