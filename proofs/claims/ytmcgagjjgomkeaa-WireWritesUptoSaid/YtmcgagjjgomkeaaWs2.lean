/- The walk of WireWrites. -/
import Derived.Test.YtmcgagjjgomkeaaWs1
import Derived.Deep.RegionHeld3
import Derived.Test.YtmcgagjjgomkeaaKnown3
namespace Go.Proofs.Ytmcgagjjgomkeaa
open Go.RowKit Go.Lib

theorem el_cells {w : World} {g off k : Nat} {es : List Pe} {e : Pe} (hx : ∀ (j : Nat) (u : Value), (elc es)[j]? = some u → w.cell? ⟨g, off + j, none⟩ = some u) (he : es[k]? = some e) :
    w.cell? ⟨g, off + k * 5, none⟩ = some (.int .i64 e.pt.kind) ∧ w.cell? ⟨g, off + k * 5 + 1, none⟩ = some (.int .u64 (e.pt.x : Int)) ∧ w.cell? ⟨g, off + k * 5 + 2, none⟩ = some (.string e.pt.text) ∧
    w.cell? ⟨g, off + k * 5 + 3, none⟩ = some (.slice e.A e.pt.b.length e.c) ∧ w.cell? ⟨g, off + k * 5 + 4, none⟩ = some (.slice e.A2 e.pt.l.length e.c2) := by
  refine ⟨?_, ?_, ?_, ?_, ?_⟩
  · have := hx _ _ (elc_at he (j := 0) rfl); rwa [Nat.add_zero] at this
  · have := hx _ _ (elc_at he (j := 1) rfl); rwa [← Nat.add_assoc] at this
  · have := hx _ _ (elc_at he (j := 2) rfl); rwa [← Nat.add_assoc] at this
  · have := hx _ _ (elc_at he (j := 3) rfl); rwa [← Nat.add_assoc] at this
  · have := hx _ _ (elc_at he (j := 4) rfl); rwa [← Nat.add_assoc] at this
/-- The law's first steps: two writers without bytes. -/
theorem ws_start {W w1 : World} {g0 : Nat} (hb : Below W.heap.size W w1) (hg : W.heap.size ≤ g0) (hw : Wr w1 W.heap.size g0 (.slice none 0 0) []) (al : Nat → Value) :
    ∀ w5, w5 = (((w1.alloc (.cells #[.slice none 0 0] 31)).alloc (.cells #[.pointer (some ⟨g0, 0, none⟩), .pointer (some ⟨w1.heap.size, 0, none⟩)] 32)).alloc (.cells #[al 0, al 1] 33)).alloc (.cells #[.slice none 0 0, .slice none 0 0] 34) →
    Ws W w5 (w1.heap.size + 1) (w1.heap.size + 1 + 1) (w1.heap.size + 1 + 1 + 1) (fun i => if i = 0 then g0 else w1.heap.size) (fun _ => .slice none 0 0) (fun _ => .slice none 0 0) al (fun _ => []) (fun _ => []) := by
  rintro w5 rfl
  have s1 : (w1.alloc (.cells #[.slice none 0 0] 31)).heap.size = w1.heap.size + 1 := by simp
  have s2 : ((w1.alloc (.cells #[.slice none 0 0] 31)).alloc (.cells #[.pointer (some ⟨g0, 0, none⟩), .pointer (some ⟨w1.heap.size, 0, none⟩)] 32)).heap.size = w1.heap.size + 1 + 1 := by simp
  have s3 : (((w1.alloc (.cells #[.slice none 0 0] 31)).alloc (.cells #[.pointer (some ⟨g0, 0, none⟩), .pointer (some ⟨w1.heap.size, 0, none⟩)] 32)).alloc (.cells #[al 0, al 1] 33)).heap.size = w1.heap.size + 1 + 1 + 1 := by simp
  have hbb : Below W.heap.size W ((((w1.alloc (.cells #[.slice none 0 0] 31)).alloc (.cells #[.pointer (some ⟨g0, 0, none⟩), .pointer (some ⟨w1.heap.size, 0, none⟩)] 32)).alloc (.cells #[al 0, al 1] 33)).alloc (.cells #[.slice none 0 0, .slice none 0 0] 34)) := by
    have hs := hb.size
    exact (((hb.trans ((below_alloc w1 _).mono hs)).trans ((below_alloc _ _).mono (by rw [s1]; omega))).trans ((below_alloc _ _).mono (by rw [s2]; omega))).trans ((below_alloc _ _).mono (by rw [s3]; omega))
  have hk : ∀ x : Value, Ap (.slice none 0 0) x := fun x r h => by simp [Value.ownBlock] at h
  have hne : g0 ≠ w1.heap.size := by have := hw.blk.lt; omega
  refine ⟨fun i hi => ?_, fun i hi => World.ownsRow_nil _ _ _ _, ((Bk.new' _ _ _ _ s1).alloc _).alloc _, (Bk.new' _ _ _ _ s2).alloc _, Bk.new' _ _ _ _ s3, ?_, fun i j _ _ _ => hk _, fun i j _ _ => hk _, fun i j _ _ _ => hk _, hbb, ?_, by have := hb.size; omega⟩
  · rcases (by omega : i = 0 ∨ i = 1) with rfl | rfl
    · exact ⟨(((hw.blk.alloc _).alloc _).alloc _).alloc _, World.ownsRow_nil _ _ _ _⟩
    · exact ⟨(((Bk.new _ _ _).alloc _).alloc _).alloc _, World.ownsRow_nil _ _ _ _⟩
  · intro i j hi hj hij
    rcases (by omega : (i = 0 ∧ j = 1) ∨ (i = 1 ∧ j = 0)) with ⟨rfl, rfl⟩ | ⟨rfl, rfl⟩
    · exact hne
    · exact hne.symm
  · intro i hi
    rcases (by omega : i = 0 ∨ i = 1) with rfl | rfl
    · exact hg
    · exact hb.size
set_option maxRecDepth 100000 in
set_option maxHeartbeats 8000000 in
theorem wireWrites_any (As : Nat → Option Addr) (L cp : Nat → Nat) (es : Nat → List Pe) (W : World) (hr : ∀ i, i < 2 → Rd W (.slice (As i) (L i) (cp i)) (L i) (elc (es i))) (hn : ∀ i, i < 2 → (es i).length = L i) (hok : ∀ i, i < 2 → ∀ e ∈ es i, e.ok W) (hsz : ∀ i, i < 2 → L i ≤ 1048576) :
    Calls Try.prog 4 #[.slice (As 0) (L 0) (cp 0), .slice (As 1) (L 1) (cp 1)] W fun e w' => e = .returned (.bool true) ∧ Below W.heap.size W w' := by
  have HR := Lib.hid hr
  have HN := Lib.hid hn
  have HOK := Lib.hid hok
  have HSZ := Lib.hid hsz
  have hl0 := hsz 0 (by decide)
  have hl1 := hsz 1 (by decide)
  have HFL : Hid (∀ i, i < 2 → ∀ k, (flat ((es i).take k)).length ≤ 35184372088832) := fun i hi k => by
    have := flat_le (W0 := W) ((es i).take k) (fun e he => hok i hi e (List.mem_of_mem_take he))
    have h2 : ((es i).take k).length ≤ L i := by rw [List.length_take, hn i hi]; omega
    have h3 : ((es i).take k).length * 33554432 ≤ 1048576 * 33554432 := Nat.mul_le_mul_right _ (by have := hsz i hi; omega)
    omega
  have HNW := Lib.hid (NewWriter2 W)
  have HKN := Lib.hid known_any
  clear hr hn hok hsz
  go_enter Try.func4, Try.ntmps4
  go_wp2_with (first
    | (go_at_call 12; (with_reducible refine HNW.out.mono ?_); rintro e w1 ⟨g0, rfl, hb1, hg, hz1, hw1⟩; have HST := Lib.hid (ws_start hb1 hg hw1 (fun i => .slice (As i) (L i) (cp i))); clear hb1 hw1 hg hz1)
    | (go_at_call 11; (with_reducible refine (HKN.out _).mono ?_); rintro e w2 ⟨rfl, hb2⟩; have HB2 := Lib.hid hb2; clear hb2))
  have hws := HST.out _ rfl
  have HWS := Lib.hid hws
  clear hws
  generalize (fun i => if i = 0 then g0 else w1.heap.size) = G at *
  go_loopw [8] (fun i wr => ∃ (n : Nat) (v u : Nat → Value), i = .int .i64 n ∧ (n ≤ L 0 ∨ n ≤ L 1) ∧ Ws W wr (w1.heap.size + 1) (w1.heap.size + 1 + 1) (w1.heap.size + 1 + 1 + 1) G v u (fun i => .slice (As i) (L i) (cp i)) (fun j => flat ((es j).take n)) (fun j => flat ((es j).take n))) (fun i _ => L 0 + L 1 - (intOf i).toNat)
  case atStart => exact ⟨0, _, _, rfl, .inl (Nat.zero_le _), HWS.out⟩
  case round =>
    obtain ⟨n, v, u, rfl, hnl, hst⟩ := hrel
    have HST0 := Lib.hid hst
    clear hst
    have hnb : n ≤ 1048576 := by omega
    by_cases hgo : n < L 0 ∨ n < L 1
    · have hcase : decide (n < L 0) = true ∨ (decide (n < L 0) = false ∧ decide (n < L 1) = true) := by
        by_cases h : n < L 0
        · exact .inl (by simpa using h)
        · exact .inr ⟨by simpa using h, by simp; omega⟩
      rcases hcase with d0 | ⟨d0, d1⟩
      · go_wp2
        go_loopw [9] (fun k wr => ∃ (j : Nat) (v u : Nat → Value), k = .int .i64 j ∧ j ≤ 2 ∧ Ws W wr (w1.heap.size + 1) (w1.heap.size + 1 + 1) (w1.heap.size + 1 + 1 + 1) G v u (fun i => .slice (As i) (L i) (cp i)) (fun i => flat ((es i).take (if i < j then n + 1 else n))) (fun i => flat ((es i).take (if i < j then n + 1 else n)))) (fun k _ => 2 - (intOf k).toNat)
        case atStart => exact ⟨0, v, u, rfl, by decide, HST0.out.congr (fun i _ => by rw [if_neg (Nat.not_lt_zero _)]) (fun i _ => by rw [if_neg (Nat.not_lt_zero _)])⟩
        case round =>
          obtain ⟨j, v, u, rfl, hj2, hst⟩ := hrel
          have HST1 := Lib.hid hst
          by_cases hj : j < 2
          · have HJ := Lib.hid hj
            have hlj := HSZ.out j hj
            by_cases hin : n < L j
            · obtain ⟨e, hek⟩ : ∃ e, (es j)[n]? = some e := ⟨_, List.getElem?_eq_getElem (by rw [HN.out j hj]; exact hin)⟩
              have heok := HOK.out j hj e (List.mem_of_getElem? hek)
              have hflen := Pt.form_length heok.2.2.1 heok.2.2.2.1 (by have := heok.2.2.2.2; omega)
              have hps := heok.2.2.2.2
              have hfk := HFL.out j hj n
              have HNXT : Hid (flat ((es j).take (n + 1)) = flat ((es j).take n) ++ e.pt.form) := by show _ = _; rw [take_snoc_pe hek, flat_snoc]
              have hbj : flat ((es j).take (if j < j then n + 1 else n)) = flat ((es j).take n) := by rw [if_neg (Nat.lt_irrefl _)]
              have hbsz := hst.bel.size
              have hput : ∀ w', Ws W w' (w1.heap.size + 1) (w1.heap.size + 1 + 1) (w1.heap.size + 1 + 1 + 1) G v u (fun i => .slice (As i) (L i) (cp i)) (fun i => flat ((es i).take (if i < j then n + 1 else n))) (fun i => flat ((es i).take (if i < j then n + 1 else n))) →
                  Calls Try.prog 13 #[.pointer (some ⟨G j, 0, none⟩), .agg #[.int .i64 e.pt.kind, .int .u64 (e.pt.x : Int), .string e.pt.text, .slice e.A e.pt.b.length e.c, .slice e.A2 e.pt.l.length e.c2]] w' fun ee w2 => ∃ Ar cr v', ee = .returned (.tuple #[.slice Ar e.pt.form.length cr, .bool true]) ∧
                    Ws W w2 (w1.heap.size + 1) (w1.heap.size + 1 + 1) (w1.heap.size + 1 + 1 + 1) G (upd v j v') u (fun i => .slice (As i) (L i) (cp i)) (upd (fun i => flat ((es i).take (if i < j then n + 1 else n))) j (flat ((es j).take n) ++ e.pt.form)) (fun i => flat ((es i).take (if i < j then n + 1 else n))) ∧
                    Rd w2 (.slice Ar e.pt.form.length cr) e.pt.form.length (bc e.pt.form) := fun w' h => by
                have hwj := h.wr j hj
                simp only [hbj] at hwj
                refine (puts_any W W.heap.size (G j) (v j) _ (flat ((es j).take n)) e.pt w' hwj h.bel.size (by omega) h.bel (h.hg j hj) (Nat.le_refl _) heok.pv).mono ?_
                rintro ee w2 ⟨Ar, cr, v', rfl, h1, h2, h3⟩
                exact ⟨Ar, cr, v', rfl, h.put hj h1 h2, h3⟩
              have HPUT := Lib.hid hput
              obtain ⟨_, _, hv, -, -, hx⟩ := (HR.out j hj).below hst.bel
              cases hv
              obtain ⟨q, off, hA, hql, hx⟩ := hx (by omega)
              have hel := el_cells hx hek
              obtain ⟨z0, z1, z2, z3, z4⟩ := hel
              obtain ⟨hca, hcb, hcw, hfw⟩ := hst.cells hj
              have hcb' : wr.cell? ⟨w1.heap.size + 1 + 1, j, none⟩ = some (.slice (some ⟨q, off, none⟩) (L j) (cp j)) := by rw [hcb, ← hA]
              have HJ := Lib.hid hj
              clear hx heok hput hbj hst hcb hcw hfw
              generalize hFF : e.pt.form = F at *
              clear hFF
              have hjn : (j : Int) < 2 := by omega
              have hin2 : decide (L j ≤ n) = false := by simp; omega
              have hNB : ∀ w', Ws W w' (w1.heap.size + 1) (w1.heap.size + 1 + 1) (w1.heap.size + 1 + 1 + 1) G v u (fun i => .slice (As i) (L i) (cp i)) (fun i => flat ((es i).take (if i < j then n + 1 else n))) (fun i => flat ((es i).take (if i < j then n + 1 else n))) → w'.ownsRow W.heap.size 5 1 (u j) (flat ((es j).take n)).length (bc (flat ((es j).take n))) := fun w' h => by
                have h := h.ow j HJ.out
                rwa [if_neg (Nat.lt_irrefl _)] at h
              obtain ⟨ua, uc, hu, _, _⟩ := ownsRow_shape (hNB wr HST1.out)
              have HU := Lib.hid hu
              obtain ⟨i0, hi0, hz0, hz1, hz2⟩ := info_parts u8Info
              have HKEEP : Hid (∀ w2 v' bs', Ws W w2 (w1.heap.size + 1) (w1.heap.size + 1 + 1) (w1.heap.size + 1 + 1 + 1) G v' u (fun i => .slice (As i) (L i) (cp i)) bs' (fun i => flat ((es i).take (if i < j then n + 1 else n))) → w2.cell? ⟨w1.heap.size + 1, j, none⟩ = some (.pointer (some ⟨G j, 0, none⟩)) ∧ w2.cell? ⟨w1.heap.size + 1 + 1, j, none⟩ = some (.slice (some ⟨q, off, none⟩) (L j) (cp j)) ∧
                  w2.cell? ⟨q, off + n * 5, none⟩ = some (.int .i64 e.pt.kind) ∧ w2.cell? ⟨q, off + n * 5 + 1, none⟩ = some (.int .u64 (e.pt.x : Int)) ∧ w2.cell? ⟨q, off + n * 5 + 2, none⟩ = some (.string e.pt.text) ∧ w2.cell? ⟨q, off + n * 5 + 3, none⟩ = some (.slice e.A e.pt.b.length e.c) ∧ w2.cell? ⟨q, off + n * 5 + 4, none⟩ = some (.slice e.A2 e.pt.l.length e.c2) ∧
                  w2.cell? ⟨w1.heap.size + 1 + 1 + 1, j, none⟩ = some (.slice ua (flat ((es j).take n)).length uc) ∧ w2.frozen? ⟨w1.heap.size + 1 + 1 + 1, j, none⟩ = false ∧
                  w2.ownsRow W.heap.size 5 1 (.slice ua (flat ((es j).take n)).length uc) (flat ((es j).take n)).length (bc (flat ((es j).take n)))) := fun w2 v' bs' h => by
                obtain ⟨_, _, hv, -, -, hx⟩ := (HR.out j HJ.out).below h.bel
                rw [hA] at hv
                cases hv
                obtain ⟨q', off', hA', -, hx⟩ := hx (by omega)
                cases hA'
                obtain ⟨c1, c2, c3, c4, c5⟩ := el_cells hx hek
                obtain ⟨d1, d2, d3, d4⟩ := h.cells HJ.out
                have ho := h.ow j HJ.out
                rw [if_neg (Nat.lt_irrefl _)] at ho
                exact ⟨d1, by rw [d2, ← hA], c1, c2, c3, c4, c5, by rw [d3, HU.out], d4, by rw [← HU.out]; exact ho⟩
              have HEK := Lib.hid hek
              clear hNB hu hek hcb' hca z0 z1 z2 z3 z4 hA
              obtain ⟨hca, hcb', z0, z1, z2, z3, z4, -, -, -⟩ := HKEEP.out wr v _ HST1.out
              go_wp2
              go_region_held3 (fun W1 => W1.cell? ⟨w1.heap.size + 1, j, none⟩ = some (.pointer (some ⟨G j, 0, none⟩)) ∧ W1.cell? ⟨w1.heap.size + 1 + 1, j, none⟩ = some (.slice (some ⟨q, off, none⟩) (L j) (cp j)) ∧ W1.cell? ⟨q, off + n * 5, none⟩ = some (.int .i64 e.pt.kind) ∧ W1.cell? ⟨q, off + n * 5 + 1, none⟩ = some (.int .u64 (e.pt.x : Int)) ∧ W1.cell? ⟨q, off + n * 5 + 2, none⟩ = some (.string e.pt.text) ∧ W1.cell? ⟨q, off + n * 5 + 3, none⟩ = some (.slice e.A e.pt.b.length e.c) ∧ W1.cell? ⟨q, off + n * 5 + 4, none⟩ = some (.slice e.A2 e.pt.l.length e.c2))
                (first
                  | exact ⟨hca, hcb', z0, z1, z2, z3, z4⟩
                  | exact ⟨HC2.out.1, HC2.out.2.1, HC2.out.2.2.1, HC2.out.2.2.2.1, HC2.out.2.2.2.2.1, HC2.out.2.2.2.2.2.1, HC2.out.2.2.2.2.2.2.1⟩)
                ((first
                  | (go_at_call 13; (with_reducible refine (HPUT.out _ (HST1.out.below (below_drew _))).mono ?_); rintro ee w2 ⟨Ar, cr, v', rfl, hs2, hrd2⟩
                     have HC2 := Lib.hid (HKEEP.out w2 _ _ hs2)
                     have HS2 := Lib.hid hs2
                     have HRD2 := Lib.hid hrd2
                     clear hs2 hrd2)))
              obtain ⟨x0, x1, -, -, -, -, -, x2, x3, hou⟩ := HC2.out
              have HOU := Lib.hid hou
              clear hou hca hcb' z0 z1 z2 z3 z4
              have HBL : Hid ((flat ((es j).take n)).length ≤ 35184372088832) := hfk
              have hNN : (flat ((es j).take n)).length + F.length ≤ 140737488355328 := by have := HBL.out; omega
              have HBF : Hid ((flat ((es j).take n) ++ F).length = (flat ((es j).take n)).length + F.length ∧ bc (flat ((es j).take n) ++ F) = bc (flat ((es j).take n)) ++ bc F) := ⟨List.length_append, bc_append _ _⟩
              have HBF1 : Hid ((bc F).length = F.length * 1) := by show _ = _; rw [bc_length, Nat.mul_one]
              generalize hfl : flat ((es j).take n) = Bs at *
              have HFLA := Lib.hid hfl
              clear hfl hfk
              obtain ⟨N, hN⟩ : ∃ N, Bs.length = N := ⟨_, rfl⟩
              rw [hN] at HOU HBF x2 HKEEP hNN HU
              obtain ⟨M, hM⟩ : ∃ M, F.length = M := ⟨_, rfl⟩
              rw [hM] at HRD2 HBF HBF1 hNN ⊢
              go_wp2_with (first
                | (at_builtin; refine wpList_append_rd _ rfl (.tmp 65) (.tmp 66) 29 rfl W.heap.size 5 i0 _ 1 1 Try.underlying29 hi0 hz0 hz1 hz2 rfl (by decide) _ N _ rfl HOU.out Ar M cr (bc F) rfl HBF1.out HRD2.out (bc_one F) (by simp only [maxLen]; omega) (by omega) HS2.out.bel.size ?_; intro v3 w3 ho3 hg3 hat3
                   have hgw := Grew.of_append hg3 hat3
                   have ho4 : w3.ownsRow W.heap.size 5 1 v3 (Bs ++ F).length (bc (Bs ++ F)) := by rw [HBF.out.1, HBF.out.2]; exact ho3
                   rw [← HU.out] at hgw
                   have hs4 := HS2.out.want HJ.out hgw ho4
                   obtain ⟨a3, c3, rfl, _, _⟩ := ownsRow_shape ho3
                   have hbk := (HS2.out.kw).grew hgw (own_bk_ne (HS2.out.ow j HJ.out) (HS2.out.kw) (by decide))
                   have x5 : w3.frozen? ⟨w1.heap.size + 1 + 1 + 1, j, none⟩ = false := hbk.frozen j
                   have x6 : w3.cell? ⟨w1.heap.size + 1 + 1 + 1, j, none⟩ = some (u j) := (hbk.cell j).trans (two_at u HJ.out)
                   have HS4 := Lib.hid hs4
                   clear ho3 hg3 hat3 hgw ho4 hs4 hbk))
              have hs5 : Ws W (w3.setCell ⟨w1.heap.size + 1 + 1 + 1, j, none⟩ (.slice a3 (N + M) c3)) (w1.heap.size + 1) (w1.heap.size + 1 + 1) (w1.heap.size + 1 + 1 + 1) G (upd v j v') (upd u j (.slice a3 (N + M) c3)) (fun i => .slice (As i) (L i) (cp i)) (fun i => flat ((es i).take (if i < j + 1 then n + 1 else n))) (fun i => flat ((es i).take (if i < j + 1 then n + 1 else n))) := by
                have hup : ∀ i, i < 2 → upd (fun i => flat ((es i).take (if i < j then n + 1 else n))) j (Bs ++ F) i = flat ((es i).take (if i < j + 1 then n + 1 else n)) := fun i hi => by
                  by_cases hij : i = j
                  · subst hij; rw [upd_same, if_pos (Nat.lt_succ_self _), HNXT.out]
                  · rw [upd_ne _ _ hij]
                    by_cases h1 : i < j
                    · rw [if_pos h1, if_pos (by omega)]
                    · rw [if_neg h1, if_neg (by omega)]
                exact HS4.out.congr hup hup
              have hlw := hs5.wr j HJ.out
              rw [upd_same, if_pos (Nat.lt_succ_self _)] at hlw
              obtain ⟨y1, -, y2, -⟩ := hs5.cells HJ.out
              rw [upd_same] at y2
              clear HS4 x0 x1 x2 x3 x5 x6
              generalize w3.setCell ⟨w1.heap.size + 1 + 1 + 1, j, none⟩ (.slice a3 (N + M) c3) = w5 at *
              have HLN : Hid (∀ w6, Below w5.heap.size w5 w6 → Calls Try.prog 14 #[.pointer (some ⟨G j, 0, none⟩)] w6 fun ee w' => ee = .returned (.int .i64 ((N + M : Nat) : Int)) ∧ w6 = w') := fun w6 hb6 => by
                have h := Len_any W.heap.size (G j) v' _ w6 (hlw.below hb6)
                rw [HNXT.out, HBF.out.1] at h
                exact h
              have HS5 := Lib.hid hs5
              clear hs5 hlw
              go_region_held3 (fun W1 => W1.cell? ⟨w1.heap.size + 1, j, none⟩ = some (.pointer (some ⟨G j, 0, none⟩)) ∧ W1.cell? ⟨w1.heap.size + 1 + 1 + 1, j, none⟩ = some (.slice a3 (N + M) c3))
                (first
                  | exact ⟨y1, y2⟩)
                ((first
                  | (go_at_call 14; (with_reducible refine (HLN.out _ (below_drew _)).mono ?_); rintro ee wn ⟨rfl, rfl⟩)))
              go_wp2
              go_roundw
              case rel => exact ⟨j + 1, _, _, by go_num, by omega, HS5.out.below (below_drew _)⟩
              case measure => simp [intOf]; omega

            · have hcb : wr.cell? ⟨w1.heap.size + 1 + 1, j, none⟩ = some (.slice (As j) (L j) (cp j)) := (hst.cells hj).2.1
              have hge : decide (L j ≤ n) = true := by simp; omega
              have hle : ∀ i, i < 2 → flat ((es i).take (if i < j then n + 1 else n)) = flat ((es i).take (if i < j + 1 then n + 1 else n)) := fun i hi => by
                by_cases h1 : i < j
                · rw [if_pos h1, if_pos (by omega)]
                · rw [if_neg h1]
                  by_cases h2 : i = j
                  · subst h2
                    rw [if_pos (by omega), List.take_of_length_le (by rw [HN.out i hi]; omega), List.take_of_length_le (by rw [HN.out i hi]; omega)]
                  · rw [if_neg (by omega)]
              have HLE := Lib.hid hle
              clear hst hle
              go_wp2
              go_roundw
              case rel => exact ⟨j + 1, v, u, by go_num, by omega, HST1.out.congr HLE.out HLE.out⟩
              case measure => simp [intOf]; omega
          · obtain rfl : j = 2 := by omega
            clear hst
            go_wp2
            go_roundw
            case rel => exact ⟨n + 1, v, u, by go_num, by omega, HST1.out.congr (fun i hi => by rw [if_pos hi]) (fun i hi => by rw [if_pos hi])⟩
            case measure => simp [intOf]; omega

      · go_wp2
        go_loopw [9] (fun k wr => ∃ (j : Nat) (v u : Nat → Value), k = .int .i64 j ∧ j ≤ 2 ∧ Ws W wr (w1.heap.size + 1) (w1.heap.size + 1 + 1) (w1.heap.size + 1 + 1 + 1) G v u (fun i => .slice (As i) (L i) (cp i)) (fun i => flat ((es i).take (if i < j then n + 1 else n))) (fun i => flat ((es i).take (if i < j then n + 1 else n)))) (fun k _ => 2 - (intOf k).toNat)
        case atStart => exact ⟨0, v, u, rfl, by decide, HST0.out.congr (fun i _ => by rw [if_neg (Nat.not_lt_zero _)]) (fun i _ => by rw [if_neg (Nat.not_lt_zero _)])⟩
        case round =>
          obtain ⟨j, v, u, rfl, hj2, hst⟩ := hrel
          have HST1 := Lib.hid hst
          by_cases hj : j < 2
          · have HJ := Lib.hid hj
            have hlj := HSZ.out j hj
            by_cases hin : n < L j
            · obtain ⟨e, hek⟩ : ∃ e, (es j)[n]? = some e := ⟨_, List.getElem?_eq_getElem (by rw [HN.out j hj]; exact hin)⟩
              have heok := HOK.out j hj e (List.mem_of_getElem? hek)
              have hflen := Pt.form_length heok.2.2.1 heok.2.2.2.1 (by have := heok.2.2.2.2; omega)
              have hps := heok.2.2.2.2
              have hfk := HFL.out j hj n
              have HNXT : Hid (flat ((es j).take (n + 1)) = flat ((es j).take n) ++ e.pt.form) := by show _ = _; rw [take_snoc_pe hek, flat_snoc]
              have hbj : flat ((es j).take (if j < j then n + 1 else n)) = flat ((es j).take n) := by rw [if_neg (Nat.lt_irrefl _)]
              have hbsz := hst.bel.size
              have hput : ∀ w', Ws W w' (w1.heap.size + 1) (w1.heap.size + 1 + 1) (w1.heap.size + 1 + 1 + 1) G v u (fun i => .slice (As i) (L i) (cp i)) (fun i => flat ((es i).take (if i < j then n + 1 else n))) (fun i => flat ((es i).take (if i < j then n + 1 else n))) →
                  Calls Try.prog 13 #[.pointer (some ⟨G j, 0, none⟩), .agg #[.int .i64 e.pt.kind, .int .u64 (e.pt.x : Int), .string e.pt.text, .slice e.A e.pt.b.length e.c, .slice e.A2 e.pt.l.length e.c2]] w' fun ee w2 => ∃ Ar cr v', ee = .returned (.tuple #[.slice Ar e.pt.form.length cr, .bool true]) ∧
                    Ws W w2 (w1.heap.size + 1) (w1.heap.size + 1 + 1) (w1.heap.size + 1 + 1 + 1) G (upd v j v') u (fun i => .slice (As i) (L i) (cp i)) (upd (fun i => flat ((es i).take (if i < j then n + 1 else n))) j (flat ((es j).take n) ++ e.pt.form)) (fun i => flat ((es i).take (if i < j then n + 1 else n))) ∧
                    Rd w2 (.slice Ar e.pt.form.length cr) e.pt.form.length (bc e.pt.form) := fun w' h => by
                have hwj := h.wr j hj
                simp only [hbj] at hwj
                refine (puts_any W W.heap.size (G j) (v j) _ (flat ((es j).take n)) e.pt w' hwj h.bel.size (by omega) h.bel (h.hg j hj) (Nat.le_refl _) heok.pv).mono ?_
                rintro ee w2 ⟨Ar, cr, v', rfl, h1, h2, h3⟩
                exact ⟨Ar, cr, v', rfl, h.put hj h1 h2, h3⟩
              have HPUT := Lib.hid hput
              obtain ⟨_, _, hv, -, -, hx⟩ := (HR.out j hj).below hst.bel
              cases hv
              obtain ⟨q, off, hA, hql, hx⟩ := hx (by omega)
              have hel := el_cells hx hek
              obtain ⟨z0, z1, z2, z3, z4⟩ := hel
              obtain ⟨hca, hcb, hcw, hfw⟩ := hst.cells hj
              have hcb' : wr.cell? ⟨w1.heap.size + 1 + 1, j, none⟩ = some (.slice (some ⟨q, off, none⟩) (L j) (cp j)) := by rw [hcb, ← hA]
              have HJ := Lib.hid hj
              clear hx heok hput hbj hst hcb hcw hfw
              generalize hFF : e.pt.form = F at *
              clear hFF
              have hjn : (j : Int) < 2 := by omega
              have hin2 : decide (L j ≤ n) = false := by simp; omega
              have hNB : ∀ w', Ws W w' (w1.heap.size + 1) (w1.heap.size + 1 + 1) (w1.heap.size + 1 + 1 + 1) G v u (fun i => .slice (As i) (L i) (cp i)) (fun i => flat ((es i).take (if i < j then n + 1 else n))) (fun i => flat ((es i).take (if i < j then n + 1 else n))) → w'.ownsRow W.heap.size 5 1 (u j) (flat ((es j).take n)).length (bc (flat ((es j).take n))) := fun w' h => by
                have h := h.ow j HJ.out
                rwa [if_neg (Nat.lt_irrefl _)] at h
              obtain ⟨ua, uc, hu, _, _⟩ := ownsRow_shape (hNB wr HST1.out)
              have HU := Lib.hid hu
              obtain ⟨i0, hi0, hz0, hz1, hz2⟩ := info_parts u8Info
              have HKEEP : Hid (∀ w2 v' bs', Ws W w2 (w1.heap.size + 1) (w1.heap.size + 1 + 1) (w1.heap.size + 1 + 1 + 1) G v' u (fun i => .slice (As i) (L i) (cp i)) bs' (fun i => flat ((es i).take (if i < j then n + 1 else n))) → w2.cell? ⟨w1.heap.size + 1, j, none⟩ = some (.pointer (some ⟨G j, 0, none⟩)) ∧ w2.cell? ⟨w1.heap.size + 1 + 1, j, none⟩ = some (.slice (some ⟨q, off, none⟩) (L j) (cp j)) ∧
                  w2.cell? ⟨q, off + n * 5, none⟩ = some (.int .i64 e.pt.kind) ∧ w2.cell? ⟨q, off + n * 5 + 1, none⟩ = some (.int .u64 (e.pt.x : Int)) ∧ w2.cell? ⟨q, off + n * 5 + 2, none⟩ = some (.string e.pt.text) ∧ w2.cell? ⟨q, off + n * 5 + 3, none⟩ = some (.slice e.A e.pt.b.length e.c) ∧ w2.cell? ⟨q, off + n * 5 + 4, none⟩ = some (.slice e.A2 e.pt.l.length e.c2) ∧
                  w2.cell? ⟨w1.heap.size + 1 + 1 + 1, j, none⟩ = some (.slice ua (flat ((es j).take n)).length uc) ∧ w2.frozen? ⟨w1.heap.size + 1 + 1 + 1, j, none⟩ = false ∧
                  w2.ownsRow W.heap.size 5 1 (.slice ua (flat ((es j).take n)).length uc) (flat ((es j).take n)).length (bc (flat ((es j).take n)))) := fun w2 v' bs' h => by
                obtain ⟨_, _, hv, -, -, hx⟩ := (HR.out j HJ.out).below h.bel
                rw [hA] at hv
                cases hv
                obtain ⟨q', off', hA', -, hx⟩ := hx (by omega)
                cases hA'
                obtain ⟨c1, c2, c3, c4, c5⟩ := el_cells hx hek
                obtain ⟨d1, d2, d3, d4⟩ := h.cells HJ.out
                have ho := h.ow j HJ.out
                rw [if_neg (Nat.lt_irrefl _)] at ho
                exact ⟨d1, by rw [d2, ← hA], c1, c2, c3, c4, c5, by rw [d3, HU.out], d4, by rw [← HU.out]; exact ho⟩
              have HEK := Lib.hid hek
              clear hNB hu hek hcb' hca z0 z1 z2 z3 z4 hA
              obtain ⟨hca, hcb', z0, z1, z2, z3, z4, -, -, -⟩ := HKEEP.out wr v _ HST1.out
              go_wp2
              go_region_held3 (fun W1 => W1.cell? ⟨w1.heap.size + 1, j, none⟩ = some (.pointer (some ⟨G j, 0, none⟩)) ∧ W1.cell? ⟨w1.heap.size + 1 + 1, j, none⟩ = some (.slice (some ⟨q, off, none⟩) (L j) (cp j)) ∧ W1.cell? ⟨q, off + n * 5, none⟩ = some (.int .i64 e.pt.kind) ∧ W1.cell? ⟨q, off + n * 5 + 1, none⟩ = some (.int .u64 (e.pt.x : Int)) ∧ W1.cell? ⟨q, off + n * 5 + 2, none⟩ = some (.string e.pt.text) ∧ W1.cell? ⟨q, off + n * 5 + 3, none⟩ = some (.slice e.A e.pt.b.length e.c) ∧ W1.cell? ⟨q, off + n * 5 + 4, none⟩ = some (.slice e.A2 e.pt.l.length e.c2))
                (first
                  | exact ⟨hca, hcb', z0, z1, z2, z3, z4⟩
                  | exact ⟨HC2.out.1, HC2.out.2.1, HC2.out.2.2.1, HC2.out.2.2.2.1, HC2.out.2.2.2.2.1, HC2.out.2.2.2.2.2.1, HC2.out.2.2.2.2.2.2.1⟩)
                ((first
                  | (go_at_call 13; (with_reducible refine (HPUT.out _ (HST1.out.below (below_drew _))).mono ?_); rintro ee w2 ⟨Ar, cr, v', rfl, hs2, hrd2⟩
                     have HC2 := Lib.hid (HKEEP.out w2 _ _ hs2)
                     have HS2 := Lib.hid hs2
                     have HRD2 := Lib.hid hrd2
                     clear hs2 hrd2)))
              obtain ⟨x0, x1, -, -, -, -, -, x2, x3, hou⟩ := HC2.out
              have HOU := Lib.hid hou
              clear hou hca hcb' z0 z1 z2 z3 z4
              have HBL : Hid ((flat ((es j).take n)).length ≤ 35184372088832) := hfk
              have hNN : (flat ((es j).take n)).length + F.length ≤ 140737488355328 := by have := HBL.out; omega
              have HBF : Hid ((flat ((es j).take n) ++ F).length = (flat ((es j).take n)).length + F.length ∧ bc (flat ((es j).take n) ++ F) = bc (flat ((es j).take n)) ++ bc F) := ⟨List.length_append, bc_append _ _⟩
              have HBF1 : Hid ((bc F).length = F.length * 1) := by show _ = _; rw [bc_length, Nat.mul_one]
              generalize hfl : flat ((es j).take n) = Bs at *
              have HFLA := Lib.hid hfl
              clear hfl hfk
              obtain ⟨N, hN⟩ : ∃ N, Bs.length = N := ⟨_, rfl⟩
              rw [hN] at HOU HBF x2 HKEEP hNN HU
              obtain ⟨M, hM⟩ : ∃ M, F.length = M := ⟨_, rfl⟩
              rw [hM] at HRD2 HBF HBF1 hNN ⊢
              go_wp2_with (first
                | (at_builtin; refine wpList_append_rd _ rfl (.tmp 65) (.tmp 66) 29 rfl W.heap.size 5 i0 _ 1 1 Try.underlying29 hi0 hz0 hz1 hz2 rfl (by decide) _ N _ rfl HOU.out Ar M cr (bc F) rfl HBF1.out HRD2.out (bc_one F) (by simp only [maxLen]; omega) (by omega) HS2.out.bel.size ?_; intro v3 w3 ho3 hg3 hat3
                   have hgw := Grew.of_append hg3 hat3
                   have ho4 : w3.ownsRow W.heap.size 5 1 v3 (Bs ++ F).length (bc (Bs ++ F)) := by rw [HBF.out.1, HBF.out.2]; exact ho3
                   rw [← HU.out] at hgw
                   have hs4 := HS2.out.want HJ.out hgw ho4
                   obtain ⟨a3, c3, rfl, _, _⟩ := ownsRow_shape ho3
                   have hbk := (HS2.out.kw).grew hgw (own_bk_ne (HS2.out.ow j HJ.out) (HS2.out.kw) (by decide))
                   have x5 : w3.frozen? ⟨w1.heap.size + 1 + 1 + 1, j, none⟩ = false := hbk.frozen j
                   have x6 : w3.cell? ⟨w1.heap.size + 1 + 1 + 1, j, none⟩ = some (u j) := (hbk.cell j).trans (two_at u HJ.out)
                   have HS4 := Lib.hid hs4
                   clear ho3 hg3 hat3 hgw ho4 hs4 hbk))
              have hs5 : Ws W (w3.setCell ⟨w1.heap.size + 1 + 1 + 1, j, none⟩ (.slice a3 (N + M) c3)) (w1.heap.size + 1) (w1.heap.size + 1 + 1) (w1.heap.size + 1 + 1 + 1) G (upd v j v') (upd u j (.slice a3 (N + M) c3)) (fun i => .slice (As i) (L i) (cp i)) (fun i => flat ((es i).take (if i < j + 1 then n + 1 else n))) (fun i => flat ((es i).take (if i < j + 1 then n + 1 else n))) := by
                have hup : ∀ i, i < 2 → upd (fun i => flat ((es i).take (if i < j then n + 1 else n))) j (Bs ++ F) i = flat ((es i).take (if i < j + 1 then n + 1 else n)) := fun i hi => by
                  by_cases hij : i = j
                  · subst hij; rw [upd_same, if_pos (Nat.lt_succ_self _), HNXT.out]
                  · rw [upd_ne _ _ hij]
                    by_cases h1 : i < j
                    · rw [if_pos h1, if_pos (by omega)]
                    · rw [if_neg h1, if_neg (by omega)]
                exact HS4.out.congr hup hup
              have hlw := hs5.wr j HJ.out
              rw [upd_same, if_pos (Nat.lt_succ_self _)] at hlw
              obtain ⟨y1, -, y2, -⟩ := hs5.cells HJ.out
              rw [upd_same] at y2
              clear HS4 x0 x1 x2 x3 x5 x6
              generalize w3.setCell ⟨w1.heap.size + 1 + 1 + 1, j, none⟩ (.slice a3 (N + M) c3) = w5 at *
              have HLN : Hid (∀ w6, Below w5.heap.size w5 w6 → Calls Try.prog 14 #[.pointer (some ⟨G j, 0, none⟩)] w6 fun ee w' => ee = .returned (.int .i64 ((N + M : Nat) : Int)) ∧ w6 = w') := fun w6 hb6 => by
                have h := Len_any W.heap.size (G j) v' _ w6 (hlw.below hb6)
                rw [HNXT.out, HBF.out.1] at h
                exact h
              have HS5 := Lib.hid hs5
              clear hs5 hlw
              go_region_held3 (fun W1 => W1.cell? ⟨w1.heap.size + 1, j, none⟩ = some (.pointer (some ⟨G j, 0, none⟩)) ∧ W1.cell? ⟨w1.heap.size + 1 + 1 + 1, j, none⟩ = some (.slice a3 (N + M) c3))
                (first
                  | exact ⟨y1, y2⟩)
                ((first
                  | (go_at_call 14; (with_reducible refine (HLN.out _ (below_drew _)).mono ?_); rintro ee wn ⟨rfl, rfl⟩)))
              go_wp2
              go_roundw
              case rel => exact ⟨j + 1, _, _, by go_num, by omega, HS5.out.below (below_drew _)⟩
              case measure => simp [intOf]; omega

            · have hcb : wr.cell? ⟨w1.heap.size + 1 + 1, j, none⟩ = some (.slice (As j) (L j) (cp j)) := (hst.cells hj).2.1
              have hge : decide (L j ≤ n) = true := by simp; omega
              have hle : ∀ i, i < 2 → flat ((es i).take (if i < j then n + 1 else n)) = flat ((es i).take (if i < j + 1 then n + 1 else n)) := fun i hi => by
                by_cases h1 : i < j
                · rw [if_pos h1, if_pos (by omega)]
                · rw [if_neg h1]
                  by_cases h2 : i = j
                  · subst h2
                    rw [if_pos (by omega), List.take_of_length_le (by rw [HN.out i hi]; omega), List.take_of_length_le (by rw [HN.out i hi]; omega)]
                  · rw [if_neg (by omega)]
              have HLE := Lib.hid hle
              clear hst hle
              go_wp2
              go_roundw
              case rel => exact ⟨j + 1, v, u, by go_num, by omega, HST1.out.congr HLE.out HLE.out⟩
              case measure => simp [intOf]; omega
          · obtain rfl : j = 2 := by omega
            clear hst
            go_wp2
            go_roundw
            case rel => exact ⟨n + 1, v, u, by go_num, by omega, HST1.out.congr (fun i hi => by rw [if_pos hi]) (fun i hi => by rw [if_pos hi])⟩
            case measure => simp [intOf]; omega

    · have h0 : ¬ n < L 0 := fun h => hgo (.inl h)
      have h1 : ¬ n < L 1 := fun h => hgo (.inr h)
      have d0 : decide (n < L 0) = false := by simpa using h0
      have d1 : decide (n < L 1) = false := by simpa using h1
      clear hgo
      have hta : ∀ i, i < 2 → flat ((es i).take n) = flat (es i) := fun i hi => by
        rw [List.take_of_length_le (by rw [HN.out i hi]; rcases (by omega : i = 0 ∨ i = 1) with rfl | rfl <;> omega)]
      have HST3 := Lib.hid (HST0.out.congr hta hta)
      have hlen : ∀ i, i < 2 → (flat (es i)).length ≤ 35184372088832 := fun i hi => by have := HFL.out i hi n; rwa [hta i hi] at this
      have HLEN := Lib.hid hlen
      clear hta hlen
      go_wp2
      go_loopw [12] (fun k wr => ∃ (j : Nat), k = .int .i64 j ∧ j ≤ 2 ∧ Ws W wr (w1.heap.size + 1) (w1.heap.size + 1 + 1) (w1.heap.size + 1 + 1 + 1) G v u (fun i => .slice (As i) (L i) (cp i)) (fun i => flat (es i)) (fun i => flat (es i))) (fun k _ => 2 - (intOf k).toNat)
      case atStart => exact ⟨0, rfl, by decide, HST3.out⟩
      case round =>
        generalize wr = wq at *
        obtain ⟨j, rfl, hj2, hst⟩ := hrel
        have HST2 := Lib.hid hst
        obtain ⟨i0, hi0, hz0, hz1, hz2⟩ := info_parts u8Info
        by_cases hj : j < 2
        · have hbl := HLEN.out j hj
          have hjn : (j : Int) < 2 := by omega
          obtain ⟨ua, uc, hu, _, _⟩ := ownsRow_shape (hst.ow j hj)
          have hby : ∀ w6, Below wq.heap.size wq w6 → Calls Try.prog 15 #[.pointer (some ⟨G j, 0, none⟩)] w6 fun e w' => ∃ A c, e = .returned (.slice A (flat (es j)).length c) ∧ Below w6.heap.size w6 w' ∧ w'.ownsRow w6.heap.size 5 1 (.slice A (flat (es j)).length c) (flat (es j)).length (bc (flat (es j))) := fun w6 hb6 => by
            refine (Bytes_any W.heap.size (G j) (v j) (flat (es j)) w6 ((hst.below hb6).wr j hj) (by omega)).mono ?_
            rintro e w' ⟨v', rfl, hb, ho⟩
            obtain ⟨A, c, rfl, _, _⟩ := ownsRow_shape ho
            exact ⟨A, c, rfl, hb, ho⟩
          have hsame : ∀ (A : Option Addr) (c : Nat) w6, Below wq.heap.size wq w6 → ∀ {Z : Nat}, w6.ownsRow Z 5 1 (.slice A (flat (es j)).length c) (flat (es j)).length (bc (flat (es j))) → Calls Try.prog 16 #[.slice A (flat (es j)).length c, .slice ua (flat (es j)).length uc] w6 fun e w' => e = .returned (.bool true) ∧ w6 = w' := fun A c w6 hb6 Z ho => by
            have ho2 := (hst.below hb6).ow j hj
            rw [hu] at ho2
            have h := Same_any w6 A ua _ _ c uc (flat (es j)) (flat (es j)) (Rd.of_owns ho) rfl (Rd.of_owns ho2) rfl
            rwa [show (flat (es j) == flat (es j)) = true from beq_self_eq_true _] at h
          obtain ⟨y1, -, y2, -⟩ := hst.cells hj
          rw [hu] at y2
          have HU := Lib.hid hu
          have HBY := Lib.hid hby
          have HSAME := Lib.hid hsame
          clear hst hby hsame hu
          generalize hfl : flat (es j) = Bj at *
          have HFLA := Lib.hid hfl
          clear hfl
          obtain ⟨K, hK⟩ : ∃ K, Bj.length = K := ⟨_, rfl⟩
          rw [hK] at HBY HSAME y2 hbl HU
          go_wp2
          go_region_held3 (fun W1 => W1.cell? ⟨w1.heap.size + 1, j, none⟩ = some (.pointer (some ⟨G j, 0, none⟩)))
            (first
              | exact y1
              | exact HC2.out
              | exact HC1.out)
            ((first
              | (go_at_call 15; (with_reducible refine (HBY.out _ HBF1.out).mono ?_); rintro ee wy ⟨a2, c2, rfl, hb2, ho2⟩
                 have hbf2 : Below wq.heap.size wq wy := HBF1.out.trans (hb2.mono HBF1.out.size)
                 have HBF := Lib.hid hbf2
                 have HO1 := Lib.hid (own_below HOA.out hb2)
                 have HO2 := Lib.hid (own_mono ho2 HBF1.out.size)
                 have HAP12 : Hid (Ap (.slice a1 K c1) (.slice a2 K c2)) := fun r e1 e2 => by have h1 := (own_lt HOA.out e1).2; have h2 := (own_lt ho2 e2).1; have : wx.heap.size ≤ r := h2; omega
                 have HAP21 := Lib.hid HAP12.out.symm
                 have HC2 := Lib.hid ((HST2.out.below hbf2).cells hj).1
                 clear hb2 ho2 hbf2)
              | (go_at_call 15; (with_reducible refine (HBY.out _ (HBF1.out.trans ((below_drew _).mono HBF1.out.size))).mono ?_); rintro ee wy ⟨a2, c2, rfl, hb2, ho2⟩
                 have hbf2 : Below wq.heap.size wq wy := HBF1.out.trans (((below_drew wx).trans hb2).mono HBF1.out.size)
                 have HBF := Lib.hid hbf2
                 have HO1 := Lib.hid (own_below HOA.out ((below_drew wx).trans hb2))
                 have HO2 := Lib.hid (own_mono ho2 HBF1.out.size)
                 have HAP12 : Hid (Ap (.slice a1 K c1) (.slice a2 K c2)) := fun r e1 e2 => by have h1 := (own_lt HOA.out e1).2; have h2 := (own_lt ho2 e2).1; have : wx.heap.size ≤ r := h2; omega
                 have HAP21 := Lib.hid HAP12.out.symm
                 have HC2 := Lib.hid ((HST2.out.below hbf2).cells hj).1
                 clear hb2 ho2 hbf2)
              | (go_at_call 15; (with_reducible refine (HBY.out _ (below_drew _)).mono ?_); rintro ee wx ⟨a1, c1, rfl, hb1, ho1⟩
                 have hbf1 : Below wq.heap.size wq wx := (below_drew wq).trans hb1
                 have HBF1 := Lib.hid hbf1
                 have HOA : Hid (wx.ownsRow wq.heap.size 5 1 (.slice a1 K c1) K (bc Bj)) := ho1
                 have HC1 := Lib.hid ((HST2.out.below hbf1).cells hj).1
                 clear hb1 ho1 hbf1)))
          have HOX := Lib.hid HO1.out
          have HOY := Lib.hid HO2.out
          have HAP := Lib.hid HAP12.out
          obtain ⟨-, -, yw, -⟩ := (HST2.out.below HBF.out).cells hj
          rw [HU.out] at yw
          go_wp2_with (first
            | (go_at_call 16; (with_reducible refine (HSAME.out _ _ _ HBF.out HO1.out).mono ?_); rintro ee wn ⟨rfl, rfl⟩))
          go_loopw [15] (fun k w6 => ∃ (k0 : Nat) (xs : List Value), k = .int .i64 k0 ∧ k0 ≤ K ∧ w6.ownsRow wq.heap.size 5 1 (.slice a1 K c1) K xs ∧ w6.ownsRow wq.heap.size 5 1 (.slice a2 K c2) K (bc Bj) ∧ Below wq.heap.size wq w6) (fun k _ => K - (intOf k).toNat)
          case atStart => exact ⟨0, _, rfl, Nat.zero_le _, HO1.out, HO2.out, HBF.out⟩
          case round =>
            generalize wr = w6 at *
            obtain ⟨k0, xs, rfl, hk0, hox, hoy, hbw⟩ := hrel
            have HX := Lib.hid hox
            have HY := Lib.hid hoy
            have HBW := Lib.hid hbw
            by_cases hkk : k0 < K
            · obtain ⟨qx, hqx, hqz, _, _, _, hcells, hfr⟩ := ownsRow_at hox (by omega)
              obtain ⟨u0, hu0⟩ := ownsRow_cell hox (j := k0) (by omega)
              subst hqx
              have zk : w6.cell? ⟨qx, k0, none⟩ = some u0 := hcells k0 u0 hu0
              have fk := hfr k0
              have HNE : Hid ((Value.slice a2 K c2).ownBlock ≠ some qx) := HAP.out qx rfl
              have HQZ := Lib.hid hqz
              clear hox hoy hbw hcells hfr hu0
              go_wp2
              go_roundw
              case rel => exact ⟨k0 + 1, _, by go_num, by omega, ownsRow_set HX.out _, ownsRow_setCell_other HY.out HNE.out _, HBW.out.setCell (p := ⟨qx, k0, none⟩) HQZ.out _⟩
              case measure => simp [intOf]; omega
            · obtain rfl : k0 = K := by omega
              clear hox hoy hbw
              go_wp2
              go_loopw [13, 16] (fun x i w7 => ∃ (i0 : Nat) (xv : Value) (xs : List Value), i = .int .i64 i0 ∧ x = xv ∧ i0 ≤ 20 ∧ w7.ownsRow wq.heap.size 5 1 xv (k0 + i0) xs ∧ w7.ownsRow wq.heap.size 5 1 (.slice a2 k0 c2) k0 (bc Bj) ∧ Ap xv (.slice a2 k0 c2) ∧ Below wq.heap.size wq w7) (fun _ i _ => 20 - (intOf i).toNat)
              case atStart => exact ⟨0, _, xs, rfl, rfl, by decide, HX.out, HY.out, HAP.out, HBW.out⟩
              case round =>
                generalize wr = w7 at *
                obtain ⟨i1, xv, xs1, rfl, rfl, hi1, hox, hoy, hap, hbw⟩ := hrel
                have HX1 := Lib.hid hox
                have HY1 := Lib.hid hoy
                have HAP1 := Lib.hid hap
                have HBW1 := Lib.hid hbw
                obtain ⟨xa, xc, rfl, _, hxm⟩ := ownsRow_shape hox
                by_cases hi20 : i1 < 20
                · have HRD := Lib.hid (rd_lit8 w7 #[.int .u8 99] 1 [99] (by decide) rfl rfl)
                  have HXA := Lib.hid (hox.alloc (.cells #[.int .u8 99] 5))
                  have HYA := Lib.hid (hoy.alloc (.cells #[.int .u8 99] 5))
                  have HBA := Lib.hid (hbw.alloc hbw.size (.cells #[.int .u8 99] 5))
                  have HSZ : Hid (wq.heap.size ≤ (w7.alloc (.cells #[.int .u8 99] 5)).heap.size) := HBA.out.size
                  clear hox hoy hap hbw
                  go_wp2_with (first
                    | (at_builtin; refine wpList_append_rd _ rfl (.tmp 113) (.tmp 114) 29 rfl wq.heap.size 5 i0 _ 1 1 Try.underlying29 hi0 hz0 hz1 hz2 rfl (by decide) _ (k0 + i1) _ rfl HXA.out (some ⟨w7.heap.size, 0, none⟩) 1 1 (bc [99]) rfl rfl HRD.out (bc_one _) (by simp only [maxLen]; omega) (by omega) HSZ.out ?_; intro v8 w8 ho8 hg8 hat8
                       have hgw := Grew.of_append hg8 hat8
                       have HO8 := Lib.hid ho8
                       have HY8 := Lib.hid (HYA.out.kept hg8 HAP1.out.symm.or)
                       have HAP8 : Hid (Ap v8 (.slice a2 k0 c2)) := fun r e1 e2 => by
                         rcases hgw.at_ r e1 with h | h
                         · exact HAP1.out r h e2
                         · have := (own_lt HYA.out e2).2; omega
                       have HB8 := Lib.hid (HBA.out.grown hg8 HSZ.out (fun r e => (own_lt HXA.out e).1))
                       clear ho8 hg8 hat8 hgw))
                  go_roundw
                  case rel => exact ⟨i1 + 1, v8, _, by go_num, rfl, by omega, by rw [← Nat.add_assoc]; exact HO8.out, HY8.out, HAP8.out, HB8.out⟩
                  case measure => simp [intOf]; omega
                · obtain rfl : i1 = 20 := by omega
                  have hw7 := HST2.out.below hbw
                  obtain ⟨r1, -, r2, -⟩ := hw7.cells hj
                  have r2' : w7.cell? ⟨w1.heap.size + 1 + 1 + 1, j, none⟩ = some (.slice ua k0 uc) := by rw [r2, HU.out]
                  have HS7 : Hid (Calls Try.prog 16 #[.slice a2 k0 c2, .slice ua k0 uc] w7.drew fun e w' => e = .returned (.bool true) ∧ w7.drew = w') := HSAME.out _ _ _ (hbw.trans ((below_drew w7).mono hbw.size)) hoy
                  have hx20 : decide (k0 + 20 < 20) = false := by simp
                  have HBW7 := Lib.hid hbw
                  clear hox hoy hap hbw hw7 r2
                  go_wp2
                  go_region_held3 (fun W1 => W1.cell? ⟨w1.heap.size + 1, j, none⟩ = some (.pointer (some ⟨G j, 0, none⟩)) ∧ W1.cell? ⟨w1.heap.size + 1 + 1 + 1, j, none⟩ = some (.slice ua k0 uc))
                    (first
                      | exact ⟨r1, r2'⟩
                      | exact HC9.out)
                    ((first
                      | (go_at_call 16; (with_reducible refine HS7.out.mono ?_); rintro ee wn ⟨rfl, rfl⟩)
                      | (go_at_call 15; (with_reducible refine (HBY.out _ (HBW7.out.trans ((below_drew w7).mono HBW7.out.size))).mono ?_); rintro ee w9 ⟨a9, c9, rfl, hb9, ho9⟩
                         have hb9' : Below wq.heap.size wq w9 := (HBW7.out.trans ((below_drew w7).mono HBW7.out.size)).trans (hb9.mono HBW7.out.size)
                         have hw9 := HST2.out.below hb9'
                         obtain ⟨t1, -, t2, -⟩ := hw9.cells hj
                         have HC9 : Hid (w9.cell? ⟨w1.heap.size + 1, j, none⟩ = some (.pointer (some ⟨G j, 0, none⟩)) ∧ w9.cell? ⟨w1.heap.size + 1 + 1 + 1, j, none⟩ = some (.slice ua k0 uc)) := ⟨t1, by rw [t2, HU.out]⟩
                         have HB9 := Lib.hid hb9'
                         have HS9 := Lib.hid (fun w' (hb : Below w9.heap.size w9 w') => HSAME.out _ _ w' (hb9'.trans (hb.mono hb9'.size)) (own_below ho9 hb))
                         clear hb9 hb9' hw9 t1 t2 ho9)
                      | (go_at_call 16; (with_reducible refine (HS9.out _ (Below.refl _ _)).mono ?_); rintro ee wn ⟨rfl, rfl⟩)))
                  go_wp2
                  go_roundw
                  case rel => exact ⟨j + 1, by go_num, by omega, HST2.out.below HB9.out⟩
                  case measure => simp [intOf]; omega
        · obtain rfl : j = 2 := by omega
          clear hst
          go_wp2_with (first
            | (go_at_call 11; (with_reducible refine (HKN.out _).mono ?_); rintro e w2 ⟨rfl, hb2⟩; have HB2 := Lib.hid hb2; clear hb2))
          go_ret
          exact ⟨rfl, HST2.out.bel.trans (HB2.out.mono HST2.out.bel.size)⟩

end Go.Proofs.Ytmcgagjjgomkeaa
