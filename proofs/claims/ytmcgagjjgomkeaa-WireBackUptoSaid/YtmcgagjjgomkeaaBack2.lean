/- The walk of WireBack. -/
import Derived.Test.YtmcgagjjgomkeaaEls
import Derived.Test.YtmcgagjjgomkeaaBack1
namespace Go.Proofs.Ytmcgagjjgomkeaa
open Go.RowKit Go.Lib

/-- The five cells of an element of a slice. -/
theorem el_cells {w : World} {g off k : Nat} {es : List Pe} {e : Pe} (hx : ∀ (j : Nat) (u : Value), (elc es)[j]? = some u → w.cell? ⟨g, off + j, none⟩ = some u) (he : es[k]? = some e) :
    w.cell? ⟨g, off + k * 5, none⟩ = some (.int .i64 e.pt.kind) ∧ w.cell? ⟨g, off + k * 5 + 1, none⟩ = some (.int .u64 (e.pt.x : Int)) ∧ w.cell? ⟨g, off + k * 5 + 2, none⟩ = some (.string e.pt.text) ∧
    w.cell? ⟨g, off + k * 5 + 3, none⟩ = some (.slice e.A e.pt.b.length e.c) ∧ w.cell? ⟨g, off + k * 5 + 4, none⟩ = some (.slice e.A2 e.pt.l.length e.c2) := by
  refine ⟨?_, ?_, ?_, ?_, ?_⟩
  · have := hx _ _ (elc_at he (j := 0) rfl); rwa [Nat.add_zero] at this
  · have := hx _ _ (elc_at he (j := 1) rfl); rwa [← Nat.add_assoc] at this
  · have := hx _ _ (elc_at he (j := 2) rfl); rwa [← Nat.add_assoc] at this
  · have := hx _ _ (elc_at he (j := 3) rfl); rwa [← Nat.add_assoc] at this
  · have := hx _ _ (elc_at he (j := 4) rfl); rwa [← Nat.add_assoc] at this
set_option maxRecDepth 100000 in
set_option maxHeartbeats 4000000 in
theorem wireBack_any (A : Option Addr) (n cap : Nat) (es : List Pe) (W : World) (hr : Rd W (.slice A n cap) n (elc es)) (hn : es.length = n) (hok : ∀ e ∈ es, e.ok W) (hsz : n ≤ 1048576) :
    Calls Try.prog 6 #[.slice A n cap] W fun e w' => e = .returned (.bool true) ∧ Below W.heap.size W w' := by
  obtain ⟨i0, hi0, hz0, hz1, hz2⟩ := info_parts ptInfo
  have HR := Lib.hid hr
  have HN := Lib.hid hn
  have HOK := Lib.hid hok
  have hcm : n ≤ cap ∧ cap ≤ maxLen := by obtain ⟨_, _, hv, h1, h2, _⟩ := hr; cases hv; exact ⟨h1, h2⟩
  obtain ⟨hcm1, hcm2⟩ := hcm
  unfold maxLen at hcm2
  have HFL : Hid (∀ k, (flat (es.take k)).length ≤ 35184372088832) := fun k => by
    have := flat_le (W0 := W) (es.take k) (fun e he => hok e (List.mem_of_mem_take he))
    have h2 : (es.take k).length ≤ n := by rw [List.length_take]; omega
    have h3 : (es.take k).length * 33554432 ≤ 1048576 * 33554432 := Nat.mul_le_mul_right _ (by omega)
    omega
  have HNW := Lib.hid (NewWriter2 W)
  have HKN := Lib.hid known_any
  clear hr hn hok
  go_enter Try.func6, Try.ntmps6
  go_wp2_with (first
    | (go_at_call 12; (with_reducible refine HNW.out.mono ?_); rintro e w1 ⟨g, rfl, hb1, hg, hz1, hw1⟩; have HB1 := Lib.hid hb1; have HW1 := Lib.hid hw1; have HG := Lib.hid hg; clear hb1 hw1 hg hz1)
    | (go_at_call 11; (with_reducible refine (HKN.out _).mono ?_); rintro e w2 ⟨rfl, hb2⟩; have HB2 := Lib.hid (HB1.out.trans (hb2.mono HB1.out.size)); have HW2 := Lib.hid (HW1.out.below hb2); clear hb2))
  go_loopw [4, 5] (fun d i wr => ∃ (k : Nat) (v vd : Value), i = .int .i64 k ∧ d = vd ∧ k ≤ n ∧ Wr wr W.heap.size g v (flat (es.take k)) ∧ Below W.heap.size W wr ∧ wr.ownsRow W.heap.size 39 5 vd (did (es.take k)).length (elc (did (es.take k)))) (fun _ i _ => n - (intOf i).toNat)
  case atStart => exact ⟨0, _, _, rfl, rfl, Nat.zero_le _, by rw [List.take_zero]; exact HW2.out, HB2.out, World.ownsRow_nil _ _ _ _⟩
  case round =>
    obtain ⟨k, v, vd, rfl, rfl, hk, hw, hb, hd⟩ := hrel
    obtain ⟨da, dc, rfl, hdc, hdm⟩ := ownsRow_shape hd
    have HWK := Lib.hid hw
    have HBK := Lib.hid hb
    have HD := Lib.hid hd
    by_cases hkn : k < n
    · obtain ⟨e, hek⟩ : ∃ e, es[k]? = some e := ⟨_, List.getElem?_eq_getElem (by have := HN.out; omega)⟩
      have heok := HOK.out e (List.mem_of_getElem? hek)
      have hfk := HFL.out k
      have hflen := Pt.form_length heok.2.2.1 heok.2.2.2.1 (by have := heok.2.2.2.2; omega)
      have hps := heok.2.2.2.2
      have hbsz := hb.size
      have hnd : (did (es.take k)).length ≤ n := by have h1 := did_length (es.take k); have h2 : (es.take k).length ≤ n := (by rw [List.length_take]; have := HN.out; omega); omega
      have HPU : Hid (Calls Try.prog 13 #[.pointer (some ⟨g, 0, none⟩), .agg #[.int .i64 e.pt.kind, .int .u64 (e.pt.x : Int), .string e.pt.text, .slice e.A e.pt.b.length e.c, .slice e.A2 e.pt.l.length e.c2]] wr fun ee w' => ∃ Ar cr v', ee = .returned (.tuple #[.slice Ar e.pt.form.length cr, .bool true]) ∧ Wr w' W.heap.size g v' (flat (es.take k) ++ e.pt.form) ∧ Wch wr w' g v v' ∧ Rd w' (.slice Ar e.pt.form.length cr) e.pt.form.length (bc e.pt.form)) :=
        puts_any W W.heap.size g v _ (flat (es.take k)) e.pt wr hw hbsz (by omega) hb HG.out (Nat.le_refl _) heok.pv
      have hnext : flat (es.take (k + 1)) = flat (es.take k) ++ e.pt.form := by rw [take_snoc_pe hek, flat_snoc]
      have HNX := Lib.hid hnext
      have hdid : did (es.take (k + 1)) = if e.pt.form = [] then did (es.take k) else did (es.take k) ++ [e] := by
        rw [take_snoc_pe hek]
        split
        · rename_i h; exact did_snoc_no _ h
        · rename_i h; exact did_snoc_yes _ h
      have HDI := Lib.hid hdid
      have HL1 := Lib.hid (Len_any W.heap.size g v (flat (es.take k)) wr hw)
      have HVL : Hid (∀ r, v.ownBlock = some r → W.heap.size ≤ r) := fun r e => (own_lt hw.own e).1
      have HC2' : Hid (∀ w2 v2, Wch wr w2 g v v2 → Below W.heap.size wr w2) := fun w2 v2 h => h.below hbsz HG.out HVL.out
      have HELC : Hid (elc [e] = [.int .i64 e.pt.kind, .int .u64 (e.pt.x : Int), .string e.pt.text, .slice e.A e.pt.b.length e.c, .slice e.A2 e.pt.l.length e.c2]) := rfl
      have HCE : Hid (∀ w', Below W.heap.size W w' → ∃ q off, A = some ⟨q, off, none⟩ ∧ w'.cell? ⟨q, off + k * 5, none⟩ = some (.int .i64 e.pt.kind) ∧ w'.cell? ⟨q, off + k * 5 + 1, none⟩ = some (.int .u64 (e.pt.x : Int)) ∧ w'.cell? ⟨q, off + k * 5 + 2, none⟩ = some (.string e.pt.text) ∧
          w'.cell? ⟨q, off + k * 5 + 3, none⟩ = some (.slice e.A e.pt.b.length e.c) ∧ w'.cell? ⟨q, off + k * 5 + 4, none⟩ = some (.slice e.A2 e.pt.l.length e.c2)) := fun w' hb' => by
        obtain ⟨_, _, hv, -, -, hx⟩ := HR.out.below hb'
        cases hv
        obtain ⟨q, off, hA, -, hx⟩ := hx (by omega)
        exact ⟨q, off, hA, el_cells hx hek⟩
      obtain ⟨q, off, hA, z0, z1, z2, z3, z4⟩ := HCE.out wr hb
      subst hA
      have HL2 : Hid (∀ w2 v2, Wr w2 W.heap.size g v2 (flat (es.take k) ++ e.pt.form) → Calls Try.prog 14 #[.pointer (some ⟨g, 0, none⟩)] w2 fun ee w' => ee = .returned (.int .i64 (((flat (es.take k)).length + e.pt.form.length : Nat) : Int)) ∧ w2 = w') := fun w2 v2 h => by
        have := Len_any W.heap.size g v2 _ w2 h
        rw [List.length_append] at this
        exact this
      clear hw hb hd heok hnext hdid hek
      generalize flat (es.take k) = bs at *
      generalize hFF : e.pt.form = F at *
      have HFF := Lib.hid hFF
      clear hFF
      obtain ⟨L1, hL1⟩ : ∃ L1, bs.length = L1 := ⟨_, rfl⟩
      obtain ⟨L2, hL2⟩ : ∃ L2, bs.length + F.length = L2 := ⟨_, rfl⟩
      rw [hL1] at HL1
      rw [hL2] at HL2
      by_cases hF : F = []
      · have hlt : decide (L1 < L2) = false := by subst hF; simp at hL2; simp; omega
        have HF := Lib.hid hF
        clear hF hL1 hL2
        go_wp2_with (first
          | (go_at_call 14; (with_reducible refine HL1.out.mono ?_); rintro ee wn ⟨rfl, rfl⟩)
          | (go_at_call 13; (with_reducible refine HPU.out.mono ?_); rintro ee w2 ⟨Ar, cr, v2, rfl, hw2, hc2, -⟩
             have HW2 := Lib.hid hw2
             have HC2 := Lib.hid hc2
             have HLE2 := Lib.hid (HL2.out w2 v2 hw2)
             clear hw2 hc2)
          | (go_at_call 14; (with_reducible refine HLE2.out.mono ?_); rintro ee wn ⟨rfl, rfl⟩))
        go_roundw
        case rel => exact ⟨k + 1, v2, _, by go_num, rfl, by omega, by rw [HNX.out]; exact HW2.out, HBK.out.trans (HC2.out.below hbsz HG.out HVL.out), by
          rw [HDI.out, if_pos HF.out]
          exact own_wch HD.out HC2.out (own_bk_ne HD.out HWK.out.blk (by decide)) (own_own_ne HD.out HWK.out.own (by decide))⟩
        case measure => simp [intOf]; omega
      · have hlt : decide (L1 < L2) = true := by have := List.length_pos_iff.2 hF; simp; omega
        have HF := Lib.hid hF
        clear hF hL1 hL2
        go_wp2_with (first
          | (go_at_call 14; (with_reducible refine HL1.out.mono ?_); rintro ee wn ⟨rfl, rfl⟩)
          | (go_at_call 13; (with_reducible refine HPU.out.mono ?_); rintro ee w2 ⟨Ar, cr, v2, rfl, hw2, hc2, -⟩
             have hb2 := HBK.out.trans (HC2'.out w2 v2 hc2)
             obtain ⟨q', off', hA', u0, u1, u2, u3, u4⟩ := HCE.out w2 hb2
             cases hA'
             have hd2 := own_wch HD.out hc2 (own_bk_ne HD.out HWK.out.blk (by decide)) (own_own_ne HD.out HWK.out.own (by decide))
             have HD2 := Lib.hid (hd2.alloc (.cells #[.int .i64 e.pt.kind, .int .u64 (e.pt.x : Int), .string e.pt.text, .slice e.A e.pt.b.length e.c, .slice e.A2 e.pt.l.length e.c2] 39))
             have HRD : Hid (Rd (w2.alloc (.cells #[.int .i64 e.pt.kind, .int .u64 (e.pt.x : Int), .string e.pt.text, .slice e.A e.pt.b.length e.c, .slice e.A2 e.pt.l.length e.c2] 39)) (.slice (some ⟨w2.heap.size, 0, none⟩) 1 1) 1 (elc [e])) := by
               rw [HELC.out]
               exact Rd.of_owns (World.ownsRow_lit (base := 0) (e := 39) (size := 5) w2 #[.int .i64 e.pt.kind, .int .u64 (e.pt.x : Int), .string e.pt.text, .slice e.A e.pt.b.length e.c, .slice e.A2 e.pt.l.length e.c2] 1 (Nat.zero_le _) (by decide) rfl)
             have HSZ : Hid (W.heap.size ≤ (w2.alloc (.cells #[.int .i64 e.pt.kind, .int .u64 (e.pt.x : Int), .string e.pt.text, .slice e.A e.pt.b.length e.c, .slice e.A2 e.pt.l.length e.c2] 39)).heap.size) := by show _ ≤ _; have := hb2.size; simp; omega
             have HB2 := Lib.hid (hb2.trans ((below_alloc w2 (.cells #[.int .i64 e.pt.kind, .int .u64 (e.pt.x : Int), .string e.pt.text, .slice e.A e.pt.b.length e.c, .slice e.A2 e.pt.l.length e.c2] 39)).mono hb2.size))
             have HW2 := Lib.hid (hw2.below (below_alloc w2 (.cells #[.int .i64 e.pt.kind, .int .u64 (e.pt.x : Int), .string e.pt.text, .slice e.A e.pt.b.length e.c, .slice e.A2 e.pt.l.length e.c2] 39)))
             have HLE2 := Lib.hid (HL2.out w2 v2 hw2)
             clear hw2 hc2 hb2 hd2)
          | (go_at_call 14; (with_reducible refine HLE2.out.mono ?_); rintro ee wn ⟨rfl, rfl⟩)
          | (at_builtin; refine wpList_append_rd _ rfl (.tmp 41) (.tmp 46) 26 rfl W.heap.size 39 i0 _ 5 80 Try.underlying26 hi0 hz0 hz1 hz2 rfl (by decide) _ (did (es.take k)).length _ rfl HD2.out (some ⟨w2.heap.size, 0, none⟩) 1 1 (elc [e]) rfl rfl HRD.out (elc_one _) (by simp only [maxLen]; omega) (by omega) HSZ.out ?_; intro v3 w3 ho3 hg3 hat3
             have HO3 := Lib.hid ho3
             have HW3 : Hid (Wr w3 W.heap.size g v2 (bs ++ F)) := ⟨HW2.out.blk.grown hg3 (own_bk_ne HD2.out HW2.out.blk (by decide)), HW2.out.own.kept hg3 (own_own_ne HW2.out.own HD2.out (by decide))⟩
             have HB3 := Lib.hid (HB2.out.grown hg3 HSZ.out (fun r e => (own_lt HD2.out e).1))
             clear ho3 hg3 hat3))
        go_roundw
        case rel => exact ⟨k + 1, v2, _, by go_num, rfl, by omega, by rw [HNX.out]; exact HW3.out, HB3.out, by
          rw [HDI.out, if_neg HF.out, List.length_append, elc_append]
          exact HO3.out⟩
        case measure => simp [intOf]; omega
    · obtain rfl : k = n := by omega
      have htk : es.take k = es := by rw [List.take_of_length_le (by rw [HN.out]; exact Nat.le_refl _)]
      have hfk := HFL.out k
      rw [htk] at hw hd hfk HWK HD
      have HBY := Lib.hid (Bytes_any W.heap.size g v (flat es) wr hw (by omega))
      obtain ⟨D, hD⟩ : ∃ D, D = did es := ⟨_, rfl⟩
      have hDn : D.length ≤ k := by rw [hD, ← HN.out]; exact did_length es
      have HDF : Hid (flat D = flat es) := by show _ = _; rw [hD]; exact flat_did es
      have HDM : Hid (∀ e ∈ D, e.ok W ∧ e.pt.form ≠ []) := fun e he => by rw [hD] at he; exact ⟨HOK.out e (did_mem he).1, (did_mem he).2⟩
      rw [htk, ← hD] at hdc
      rw [← hD] at HD
      rw [htk, ← hD]
      clear hw hd hD
      obtain ⟨N, hN⟩ : ∃ N, D.length = N := ⟨_, rfl⟩
      rw [hN] at hdc HD hDn ⊢
      have HDN := Lib.hid hN
      clear hN
      obtain ⟨rs, hrs⟩ : ∃ rs, rs = flat es := ⟨_, rfl⟩
      rw [← hrs] at HBY HDF HWK hfk
      clear hrs
      unfold maxLen at hdm
      go_wp2_with (first
        | (go_at_call 15; (with_reducible refine HBY.out.mono ?_); rintro e w3 ⟨v3, rfl, hb3, ho3⟩
           obtain ⟨a3, c3, rfl, _, _⟩ := ownsRow_shape ho3
           have HNR := Lib.hid (NewReader_any a3 rs.length c3 rs w3 (Rd.of_owns ho3) rfl (by omega))
           have HW3 := Lib.hid (HWK.out.below hb3)
           have HB3 := Lib.hid (HBK.out.trans (hb3.mono HBK.out.size))
           have HD3 := Lib.hid (own_below HD.out hb3)
           clear hb3 ho3)
        | (go_at_call 17; (with_reducible refine HNR.out.mono ?_); rintro e w4 ⟨gr, vr, rfl, hb4, hgr, hr4⟩
           have HS4 := Lib.hid (St.mk' HW3.out HG.out HB3.out hb4 hgr hr4)
           have HD4 := Lib.hid (own_below HD3.out hb4)
           clear hb4 hgr hr4))
      go_loopw [10] (fun i wr => ∃ (j : Nat), i = .int .i64 j ∧ j ≤ N ∧ St W wr g v rs gr vr rs (flat (D.take j)).length ∧ wr.ownsRow W.heap.size 39 5 (.slice da N dc) N (elc D)) (fun i _ => N - (intOf i).toNat)
      case atStart => exact ⟨0, rfl, Nat.zero_le _, by rw [List.take_zero]; exact HS4.out, HD4.out⟩
      case round =>
        obtain ⟨j, rfl, hj, hst, hdo⟩ := hrel
        have HST := Lib.hid hst
        have HDO := Lib.hid hdo
        by_cases hjn : j < N
        · obtain ⟨e, hej⟩ : ∃ e, D[j]? = some e := ⟨_, List.getElem?_eq_getElem (by have := HDN.out; omega)⟩
          have heok := HDM.out e (List.mem_of_getElem? hej)
          obtain ⟨q, rfl, _, _, _, _, hcells, _⟩ := ownsRow_at hdo (by omega)
          obtain ⟨z0, z1, z2, z3, z4⟩ := el_cells (w := wr) (g := q) (off := 0) (fun j u h => by rw [Nat.zero_add]; exact hcells j u h) hej
          simp only [Nat.zero_add] at z0 z1 z2 z3 z4
          have HBA : Hid (Calls Try.prog 27 #[.pointer (some ⟨gr, 0, none⟩), .agg #[.int .i64 e.pt.kind, .int .u64 (e.pt.x : Int), .string e.pt.text, .slice e.A e.pt.b.length e.c, .slice e.A2 e.pt.l.length e.c2]] wr fun ee w' => ee = .returned (.bool true) ∧ St W w' g v rs gr vr rs ((flat (D.take j)).length + e.pt.form.length) ∧ wr.grownBy w' (some gr)) :=
            back_any W wr g gr v vr _ rs (flat (D.take j)) (flat (D.drop (j + 1))) rs e.pt hst (by omega) heok.1.pv heok.2 (by rw [← HDF.out]; exact flat_split hej)
          have HNXT : Hid ((flat (D.take (j + 1))).length = (flat (D.take j)).length + e.pt.form.length) := by show _ = _; rw [take_snoc_pe hej, flat_snoc, List.length_append]
          clear hst hdo hcells hej heok
          go_wp2_with (first
            | (go_at_call 27; (with_reducible refine HBA.out.mono ?_); rintro ee w5 ⟨rfl, hs5, hg5⟩
               have HS5 := Lib.hid hs5
               have HD5 := Lib.hid (HDO.out.kept hg5 (.inr (own_bk_ne HDO.out HST.out.both.rd.blk (by decide))))
               clear hs5 hg5))
          go_roundw
          case rel => exact ⟨j + 1, by go_num, by omega, by rw [HNXT.out]; exact HS5.out, HD5.out⟩
          case measure => simp [intOf]; omega
        · obtain rfl : j = N := by omega
          have htd : (flat (D.take j)).length = rs.length := by rw [List.take_of_length_le (by rw [HDN.out]; exact Nat.le_refl _), HDF.out]
          rw [htd] at hst HST
          have HLF := Lib.hid (St_Left hst 0 (by rw [Nat.sub_self]; rfl))
          have HPL := Lib.hid (fun w (h : St W w g v rs gr vr rs rs.length) => St_Place h _ rfl)
          have HLN := Lib.hid (fun w (h : St W w g v rs gr vr rs rs.length) => St_Len h _ rfl)
          clear hst hdo htd
          go_wp2_with (first
            | (go_at_call 28; (with_reducible refine HLF.out.mono ?_); rintro ee w5 ⟨rfl, hs5⟩; have HS5 := Lib.hid hs5; clear hs5)
            | (go_at_call 26; (with_reducible refine (HPL.out _ HS5.out).mono ?_); rintro ee wn ⟨rfl, rfl⟩)
            | (go_at_call 14; (with_reducible refine (HLN.out _ HS5.out).mono ?_); rintro ee wn ⟨rfl, rfl⟩))
          go_ret
          exact ⟨rfl, HS5.out.bel⟩
end Go.Proofs.Ytmcgagjjgomkeaa
