/- The walk of the document's Gaps. -/
import Derived.Test.YtjdfjaocidjhlaaUrg
namespace Go.Proofs.Ytjdfjaocidjhlaa
open Go.RowKit Go.Shelf

def vst (t : Sn) (l : List Sn) : Sn × List Sn := l.foldl (vstep 0 t) (t, [])
theorem vst_take {t : Sn} {l : List Sn} {k : Nat} {y : Sn} (h : l[k]? = some y) : vst t (l.take (k + 1)) = vstep 0 t (vst t (l.take k)) y := by
  rw [List.take_add_one, h]; simp [vst]
theorem vst_len (t : Sn) (l : List Sn) : (vst t l).2.length ≤ l.length := by
  suffices ∀ (q : List Sn) (a : Sn × List Sn), (q.foldl (vstep 0 t) a).2.length ≤ a.2.length + q.length by simpa [vst] using this l (t, [])
  intro q
  induction q with
  | nil => simp
  | cons y q ih =>
    intro a
    have h1 := ih (vstep 0 t a y)
    have h2 : (vstep 0 t a y).2.length ≤ a.2.length + 1 := by unfold vstep; split <;> simp
    simp only [List.foldl_cons, List.length_cons]; omega
theorem gin_eq (g : Int) (l : List Sn) (t : Int) : gin g l t = uput (vst ⟨t, t + g⟩ l).2 (vst ⟨t, t + g⟩ l).1 := rfl
theorem rGaps_len (g : Int) (p : List Int) : (rGaps g p).length ≤ p.length := by
  suffices ∀ (q : List Int) (l : List Sn), (q.foldl (gin g) l).length ≤ l.length + q.length by simpa [rGaps] using this p []
  intro q
  induction q with
  | nil => simp
  | cons t q ih =>
    intro l
    have h1 := ih (gin g l t)
    have h2 : (gin g l t).length ≤ l.length + 1 := by rw [gin_eq, uput_length]; have := vst_len ⟨t, t + g⟩ l; omega
    simp only [List.foldl_cons, List.length_cons]; omega
theorem rGaps_take {g : Int} {p : List Int} {k : Nat} {x : Int} (h : p[k]? = some x) : rGaps g (p.take (k + 1)) = gin g (rGaps g (p.take k)) x := by
  rw [List.take_add_one, h]; simp [rGaps]
/-- Where the inner loop stands: the span that grows, the time's own, the others. -/
structure Vs (t : Sn) (L : List Sn) (W0 W : World) (v9 : Value) (k : Nat) : Prop where
  le : k ≤ L.length
  below : Below W0.heap.size W0 W
  box : Bk W W0.heap.size 24 #[.int .i64 (vst t (L.take k)).1.s, .int .i64 (vst t (L.take k)).1.e]
  own : Bk W (W0.heap.size + 1) 24 #[.int .i64 t.s, .int .i64 t.e]
  row : W.ownsRow (W0.heap.size + 2) 24 2 v9 (vst t (L.take k)).2.length (scells (vst t (L.take k)).2)
theorem bk_drew {w : World} {g : Nat} {t : TypeId} {cs : Array Value} (h : Bk w g t cs) : Bk w.drew g t cs := h
def gd (t : Int) : Prop := -4611686018427387904 ≤ t ∧ t ≤ 4611686018427387904
set_option maxRecDepth 100000 in
set_option maxHeartbeats 8000000 in
theorem refGaps_any (sv : Value) (p : List Int) (G : Int) (hg : 1 ≤ G) (hg2 : G ≤ 1099511627776) (hlen : p.length ≤ 1000) (w : World) (hI : Nums w.heap.size w sv p) :
    Calls Try.prog 24 #[sv, .int .i64 G] w fun e w' => Below w.heap.size w w' ∧
      (((∀ t ∈ p, gd t) ∧ ∃ v, e = .returned (.tuple #[v, .int .i64 0]) ∧ w'.ownsRow w.heap.size 24 2 v (rGaps G p).length (scells (rGaps G p))) ∨
       ((¬ ∀ t ∈ p, gd t) ∧ e = .returned (.tuple #[.slice none 0 0, .int .i64 2]))) := by
  obtain ⟨iS, hiS, hS0, hS1, hS2⟩ := info_parts spanInfo
  obtain ⟨A, cp, rfl, hcell⟩ := id hI
  have HCE := Lib.hid hcell
  obtain ⟨n, hn⟩ : ∃ n, p.length = n := ⟨_, rfl⟩
  rw [hn] at HCE hlen ⊢
  have HN := Lib.hid hn
  clear hI hcell hn
  have d1 : decide (G < 1) = false := by simp; omega
  have d2 : decide (1099511627776 < G) = false := by simp; omega
  go_enter Try.func24, Try.ntmps24
  go_wp2
  go_loopw [6, 7] (fun v6 i wr => ∃ k : Nat, i = .int .i64 k ∧ k ≤ n ∧ Hid (∀ t ∈ p.take k, gd t) ∧ Below w.heap.size w wr ∧ wr.ownsRow w.heap.size 24 2 v6 (rGaps G (p.take k)).length (scells (rGaps G (p.take k)))) (fun _ i _ => n - (intOf i).toNat)
  case atStart => exact ⟨0, rfl, Nat.zero_le _, fun t ht => by simp at ht, Below.refl _ _, World.ownsRow_nil _ _ _ _⟩
  case round =>
    obtain ⟨k, rfl, hk, hgood, hb, hos⟩ := hrel
    by_cases hlt : k < n
    · obtain ⟨g, o, rfl, hgb, hx⟩ := HCE.out (by omega)
      obtain ⟨t, ht⟩ : ∃ t, p[k]? = some t := ⟨_, List.getElem?_eq_getElem (by have := HN.out; omega)⟩
      have c0 := (hb.cell (p := ⟨g, o + k, none⟩) hgb).trans (hx _ _ ht)
      have hgr : g < wr.heap.size := by have := hb.size; omega
      have HT := Lib.hid ht
      have HTK := Lib.hid (rGaps_take (g := G) ht)
      have hLL : (rGaps G (p.take k)).length ≤ k := Nat.le_trans (rGaps_len _ _) (by simp; omega)
      have HAP := Lib.hid (rGaps_un hg (p.take k)).ap.1
      clear ht hx
      generalize rGaps G (p.take k) = L at *
      have HBL := Lib.hid hb
      have hbs := hb.size
      by_cases hgt : gd t
      · obtain ⟨t1, t2⟩ := hgt
        have d3 : decide (t < -4611686018427387904) = false := by simp; omega
        have d4 : decide (4611686018427387904 < t) = false := by simp; omega
        obtain ⟨m, hm2⟩ : ∃ m, L.length = m := ⟨_, rfl⟩
        rw [hm2] at hos hLL
        obtain ⟨a3, c3, rfl, -, -⟩ := ownsRow_shape hos
        have HOS := Lib.hid hos
        have HM := Lib.hid hm2
        clear hos hb hm2
        obtain ⟨wo, hwo⟩ : ∃ wo, wo = wr := ⟨_, rfl⟩
        subst hwo
        go_wp2
        go_region
        all_goals go_wp2
        have VS0 : Hid (Vs ⟨t, t + G⟩ L wo (((wo.alloc (.cells #[.int .i64 t, .int .i64 (t + G)] 24)).alloc (.cells #[.int .i64 t, .int .i64 (t + G)] 24)).drew) (.slice none 0 0) 0) := ⟨Nat.zero_le _, ((below_alloc wo (.cells #[.int .i64 t, .int .i64 (t + G)] 24)).alloc (by simp) (.cells #[.int .i64 t, .int .i64 (t + G)] 24)).drew, (Bk.new wo _ _).alloc _, bk_drew (by have h := Bk.new (wo.alloc (.cells #[.int .i64 t, .int .i64 (t + G)] 24)) 24 #[.int .i64 t, .int .i64 (t + G)]; simpa using h), World.ownsRow_nil _ _ _ _⟩
        go_loopw [9, 11] (fun v9 i wr => ∃ j : Nat, i = .int .i64 j ∧ Vs ⟨t, t + G⟩ L wo wr v9 j) (fun _ i _ => m - (intOf i).toNat)
        case atStart => exact ⟨0, rfl, VS0.out⟩
        case round =>
          obtain ⟨j, rfl, hu⟩ := hrel
          have hjl := hu.le
          rw [HM.out] at hjl
          have HBE := Lib.hid hu.below
          have HBX := Lib.hid hu.box
          have HBY := Lib.hid hu.own
          have HRW := Lib.hid hu.row
          have hrl := Nat.le_trans (vst_len ⟨t, t + G⟩ (L.take j)) (show (L.take j).length ≤ j by simp; omega)
          have hbx := HBX.out.lt
          have hby := HBY.out.lt
          have hsz2 := HBE.out.size
          by_cases hjm : j < m
          · obtain ⟨q, rfl, -, hq, -, -, hcq, -⟩ := ownsRow_at HOS.out (by omega)
            obtain ⟨y, hy⟩ : ∃ y, L[j]? = some y := ⟨_, List.getElem?_eq_getElem (by have := HM.out; omega)⟩
            have e0 := (hu.below.cell (p := ⟨q, j * 2, none⟩) hq).trans (hcq _ _ (scells_get hy).1)
            have e1 := (hu.below.cell (p := ⟨q, j * 2 + 1, none⟩) hq).trans (hcq _ _ (scells_get hy).2)
            have hqr : q < wr.heap.size := by omega
            have HST := Lib.hid (vst_take (t := ⟨t, t + G⟩) hy)
            have hyn := HAP.out y (List.mem_of_getElem? hy)
            have y0 : wr.cell? ⟨wo.heap.size + 1, 0, none⟩ = some (.int .i64 t) := HBY.out.cell 0
            have y1 : wr.cell? ⟨wo.heap.size + 1, 1, none⟩ = some (.int .i64 (t + G)) := HBY.out.cell 1
            have hKS : Hid (∀ W, Below wr.heap.size wr W → Below wr.heap.size wr W ∧ W.cell? ⟨q, j * 2, none⟩ = some (.int .i64 y.s) ∧ W.cell? ⟨q, j * 2 + 1, none⟩ = some (.int .i64 y.e) ∧ W.cell? ⟨wo.heap.size + 1, 0, none⟩ = some (.int .i64 t) ∧ W.cell? ⟨wo.heap.size + 1, 1, none⟩ = some (.int .i64 (t + G))) := fun W hW => ⟨hW, (hW.cell (p := ⟨q, j * 2, none⟩) hqr).trans e0, (hW.cell (p := ⟨q, j * 2 + 1, none⟩) hqr).trans e1, (hW.cell (p := ⟨wo.heap.size + 1, 0, none⟩) hby).trans y0, (hW.cell (p := ⟨wo.heap.size + 1, 1, none⟩) hby).trans y1⟩
            clear hcq hy hu
            generalize vst ⟨t, t + G⟩ (L.take j) = st at *
            obtain ⟨⟨ss, se⟩, rest⟩ := st
            simp only at hrl
            obtain ⟨a6, c6, rfl, -, -⟩ := ownsRow_shape HRW.out
            by_cases htc : tch 0 ⟨t, t + G⟩ y = true
            · obtain ⟨k1, k2⟩ := tch_iff.1 htc
              simp only at k1 k2
              have hov : ovr y.s y.e t (t + G) = true := by unfold ovr; simp; omega
              have HNO : Hid (vstep 0 ⟨t, t + G⟩ ((⟨ss, se⟩ : Sn), rest) y = (hul ⟨ss, se⟩ y, rest)) := by unfold vstep; exact if_pos htc
              go_wp2
              go_region_held3 (fun W => Below wr.heap.size wr W ∧ W.cell? ⟨q, j * 2, none⟩ = some (.int .i64 y.s) ∧ W.cell? ⟨q, j * 2 + 1, none⟩ = some (.int .i64 y.e) ∧ W.cell? ⟨wo.heap.size + 1, 0, none⟩ = some (.int .i64 t) ∧ W.cell? ⟨wo.heap.size + 1, 1, none⟩ = some (.int .i64 (t + G)))
                (first
                  | exact hKS.out _ (below_drew wr)
                  | exact hKS.out _ hb7)
                ((go_at_call 17; (with_reducible refine (refOverlap_any _ _ _ _ _).mono ?_); rintro e w7 ⟨rfl, hb7'⟩; have hb7 : Below wr.heap.size wr w7 := below_trans (below_drew wr) hb7'))
              have HBX7 := Lib.hid (HBX.out.below hb7)
              have HBY7 := Lib.hid (HBY.out.below hb7)
              have HRW7 := Lib.hid (own_below HRW.out hb7)
              have HBE7 := Lib.hid (HBE.out.trans (hb7.mono hsz2))
              obtain ⟨-, e0', e1', -, -⟩ := hKS.out _ hb7
              have b0 := HBX7.out.cell 0
              have b1 := HBX7.out.cell 1
              have f0 := HBX7.out.frozen 0
              have f1 := HBX7.out.frozen 1
              simp only [List.getElem?_toArray, List.getElem?_cons_zero, List.getElem?_cons_succ] at b0 b1
              have hs7 := hb7.size
              have hbx7 := HBX7.out.lt
              have hqr7 : q < w7.heap.size := by omega
              have hne1 : ¬ q = wo.heap.size := by omega
              have hne2 : ¬ wo.heap.size = q := by omega
              clear hb7
              go_wp2
              go_region
              all_goals go_wp2
              all_goals go_region
              all_goals go_wp2
              all_goals go_roundw
              case rel =>
                have bk := Bk.set (Bk.set HBX7.out 0 (.int .i64 (min ss y.s))) 1 (.int .i64 (max se y.e))
                have byy := Bk.far (Bk.far HBY7.out (p := ⟨wo.heap.size, 0, none⟩) (by simp) (.int .i64 (min ss y.s))) (p := ⟨wo.heap.size, 1, none⟩) (by simp) (.int .i64 (max se y.e))
                have rw1 := ownsRow_setCell_below (ownsRow_setCell_below HRW7.out (a := ⟨wo.heap.size, 0, none⟩) (by simp) (.int .i64 (min ss y.s))) (a := ⟨wo.heap.size, 1, none⟩) (by simp) (.int .i64 (max se y.e))
                refine ⟨j + 1, by simp, ⟨by rw [HM.out]; exact hjm, (((HBE7.out.setCell (Nat.le_refl _) _).setCell (Nat.le_refl _) _).drew).drew, ?_, byy, ?_⟩⟩
                · rw [HST.out, HNO.out]; exact bk
                · rw [HST.out, HNO.out]; exact rw1
              case measure => simp [intOf]; omega
            · have hov : ovr y.s y.e t (t + G) = false := by
                have k1 : ¬ (y.s < t + G + 0 ∧ t < y.e + 0) := fun hc => htc (tch_iff.2 hc)
                unfold ovr; simp; omega
              have HNO : Hid (vstep 0 ⟨t, t + G⟩ ((⟨ss, se⟩ : Sn), rest) y = ((⟨ss, se⟩ : Sn), rest ++ [y])) := by unfold vstep; exact if_neg htc
              go_wp2
              go_region_held3 (fun W => Below wr.heap.size wr W ∧ W.cell? ⟨q, j * 2, none⟩ = some (.int .i64 y.s) ∧ W.cell? ⟨q, j * 2 + 1, none⟩ = some (.int .i64 y.e) ∧ W.cell? ⟨wo.heap.size + 1, 0, none⟩ = some (.int .i64 t) ∧ W.cell? ⟨wo.heap.size + 1, 1, none⟩ = some (.int .i64 (t + G)))
                (first
                  | exact hKS.out _ (below_drew wr)
                  | exact hKS.out _ hb7)
                ((go_at_call 17; (with_reducible refine (refOverlap_any _ _ _ _ _).mono ?_); rintro e w7 ⟨rfl, hb7'⟩; have hb7 : Below wr.heap.size wr w7 := below_trans (below_drew wr) hb7'))
              have HBX7 := Lib.hid (HBX.out.below hb7)
              have HBY7 := Lib.hid (HBY.out.below hb7)
              have HRW7 := Lib.hid (own_below HRW.out hb7)
              have HBE7 := Lib.hid (HBE.out.trans (hb7.mono hsz2))
              obtain ⟨-, e0', e1', -, -⟩ := hKS.out _ hb7
              have b0 := HBX7.out.cell 0
              have b1 := HBX7.out.cell 1
              have f0 := HBX7.out.frozen 0
              have f1 := HBX7.out.frozen 1
              simp only [List.getElem?_toArray, List.getElem?_cons_zero, List.getElem?_cons_succ] at b0 b1
              have hs7 := hb7.size
              have hbx7 := HBX7.out.lt
              have hqr7 : q < w7.heap.size := by omega
              have hne1 : ¬ q = wo.heap.size := by omega
              have hne2 : ¬ wo.heap.size = q := by omega
              clear hb7
              have HOA := Lib.hid (HRW7.out.alloc (.cells #[.int .i64 y.s, .int .i64 y.e] 24))
              have HBB := Lib.hid (HBX7.out.alloc (.cells #[.int .i64 y.s, .int .i64 y.e] 24))
              have HBC := Lib.hid (HBY7.out.alloc (.cells #[.int .i64 y.s, .int .i64 y.e] 24))
              have HBA := Lib.hid (HBE7.out.alloc HBE7.out.size (.cells #[.int .i64 y.s, .int .i64 y.e] 24))
              have HRO := Lib.hid (rd_two w7 y.s y.e)
              go_wp2_with (first
                | (at_builtin; refine wpList_append_rd _ rfl (.tmp 80) (.tmp 85) 51 rfl (wo.heap.size + 2) 24 iS _ 2 16 Try.underlying51 hiS hS0 hS1 hS2 rfl (by decide) _ _ _ rfl HOA.out _ 1 1 [.int .i64 y.s, .int .i64 y.e] rfl rfl HRO.out (by simp [Value.oneCell']) (by simp only [maxLen]; omega) (by omega) (by simp; omega) ?_; intro v7 w5 hos5 hg5 _
                   have HOS5 := Lib.hid hos5
                   have HBX5 := Lib.hid (HBB.out.grown hg5 (fun e => by have := (HOA.out.lt _ e).1; omega))
                   have HBY5 := Lib.hid (HBC.out.grown hg5 (fun e => by have := (HOA.out.lt _ e).1; omega))
                   have HBL5 := Lib.hid (HBA.out.grown hg5 (by simp; omega) (fun r e => by have := (HOA.out.lt r e).1; omega))
                   clear hos5 hg5))
              go_roundw
              case rel =>
                refine ⟨j + 1, by simp, ⟨by rw [HM.out]; exact hjm, HBL5.out, ?_, HBY5.out, ?_⟩⟩
                · rw [HST.out, HNO.out]; exact HBX5.out
                · rw [HST.out, HNO.out]
                  simp only [List.length_append, List.length_cons, List.length_nil]
                  rw [scells_snoc]
                  exact HOS5.out
              case measure => simp [intOf]; omega
          · obtain rfl : j = m := by omega
            rw [show L.take j = L by rw [← HM.out, List.take_length]] at HBX HRW hrl
            have HLm := HM.out
            have HPU := Lib.hid (put_any u9 (vst ⟨t, t + G⟩ L).2 (vst ⟨t, t + G⟩ L).1 wr (Rd.of_owns HRW.out) (by omega))
            have hgin := gin_eq G L t
            generalize vst ⟨t, t + G⟩ L = st at *
            obtain ⟨⟨ss, se⟩, rest⟩ := st
            have HGI := Lib.hid hgin
            have b0 := HBX.out.cell 0
            have b1 := HBX.out.cell 1
            simp only [List.getElem?_toArray, List.getElem?_cons_zero, List.getElem?_cons_succ] at b0 b1
            have HZ := Lib.hid HLm
            clear hu HLm hgin
            go_wp2_with (first
              | (go_at_call 43; (with_reducible refine HPU.out.mono ?_); rintro e w5 ⟨v5, rfl, ho5, hb5⟩
                 have HO5 := Lib.hid ho5
                 have HB5 := Lib.hid (HBL.out.trans ((HBE.out.mono hbs).trans (hb5.mono (by omega))))
                 clear ho5 hb5))
            go_roundw
            case rel =>
              refine ⟨k + 1, by simp, by omega, fun z hz => ?_, HB5.out, ?_⟩
              · rw [List.take_add_one, HT.out] at hz
                rcases List.mem_append.1 hz with h | h
                · exact hgood.out z h
                · simp at h; subst h; exact ⟨t1, t2⟩
              · rw [HTK.out, HGI.out]
                exact own_mono HO5.out (by omega)
            case measure => simp [intOf]; omega
      · have HB := Lib.hid hb
        have HNT : Hid (¬ ∀ t ∈ p, gd t) := fun hc => hgt (hc t (List.mem_of_getElem? HT.out))
        clear hb
        by_cases h1 : t < -4611686018427387904
        · have d3 : decide (t < -4611686018427387904) = true := by simp [h1]
          go_wp2
          go_ret2
          exact ⟨HB.out, .inr ⟨(by first | exact HNT.out | simpa using HNT.out), rfl⟩⟩
        · have d3 : decide (t < -4611686018427387904) = false := by simp; omega
          have d4 : decide (4611686018427387904 < t) = true := by
            simp only [decide_eq_true_eq]
            exact Classical.byContradiction fun hc => hgt ⟨by omega, by omega⟩
          go_wp2
          go_ret2
          exact ⟨HB.out, .inr ⟨(by first | exact HNT.out | simpa using HNT.out), rfl⟩⟩
    · obtain rfl : k = n := by omega
      have HB := Lib.hid hb
      rw [show p.take k = p by rw [← HN.out, List.take_length]] at hos hgood
      have HOS := Lib.hid hos
      clear hb hos
      go_wp2
      go_ret2
      exact ⟨HB.out, .inl ⟨hgood.out, _, rfl, HOS.out⟩⟩
end Go.Proofs.Ytjdfjaocidjhlaa
