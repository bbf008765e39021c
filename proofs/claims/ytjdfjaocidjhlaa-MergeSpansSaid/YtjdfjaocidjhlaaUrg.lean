/- The walk of the document's Union. -/
import Derived.Test.YtjdfjaocidjhlaaUrf
import Derived.OneCell
namespace Go.Proofs.Ytjdfjaocidjhlaa
open Go.RowKit Go.Shelf

def ust (d : Int) (t : Sn) (l : List Sn) : Sn × List Sn := l.foldl (ustep d) (t, [])
theorem ust_take {d : Int} {t : Sn} {l : List Sn} {k : Nat} {y : Sn} (h : l[k]? = some y) : ust d t (l.take (k + 1)) = ustep d (ust d t (l.take k)) y := by
  rw [List.take_add_one, h]; simp [ust]
theorem ust_len (d : Int) (t : Sn) (l : List Sn) : (ust d t l).2.length ≤ l.length := by
  suffices ∀ (q : List Sn) (a : Sn × List Sn), (q.foldl (ustep d) a).2.length ≤ a.2.length + q.length by simpa [ust] using this l (t, [])
  intro q
  induction q with
  | nil => simp
  | cons y q ih =>
    intro a
    have h1 := ih (ustep d a y)
    have h2 : (ustep d a y).2.length ≤ a.2.length + 1 := by unfold ustep; split <;> simp
    simp only [List.foldl_cons, List.length_cons]; omega
theorem uin_len (l : List Sn) (t : Sn) : (uin l t).length ≤ l.length + 1 := by
  unfold uin
  split
  · rw [uput_length]; have := ust_len 1 t l; unfold ust at this; omega
  · omega
theorem rUnion_len (p : List Sn) : (rUnion p).length ≤ p.length := by
  suffices ∀ (q l : List Sn), (q.foldl uin l).length ≤ l.length + q.length by simpa [rUnion] using this p []
  intro q
  induction q with
  | nil => simp
  | cons t q ih => intro l; have := ih (uin l t); have := uin_len l t; simp at *; omega
theorem rUnion_take {p : List Sn} {k : Nat} {x : Sn} (h : p[k]? = some x) : rUnion (p.take (k + 1)) = uin (rUnion (p.take k)) x := by
  rw [List.take_add_one, h]; simp [rUnion]
theorem uin_yes {l : List Sn} {t : Sn} (h : t.s < t.e) : uin l t = uput (ust 1 t l).2 (ust 1 t l).1 := by unfold uin; rw [if_pos h]; rfl
theorem uin_no {l : List Sn} {t : Sn} (h : ¬ t.s < t.e) : uin l t = l := by unfold uin; rw [if_neg h]
/-- Where the inner loop stands. -/
structure Us (d : Int) (t : Sn) (L : List Sn) (W0 W : World) (v6 : Value) (k : Nat) : Prop where
  le : k ≤ L.length
  below : Below W0.heap.size W0 W
  box : Bk W W0.heap.size 24 #[.int .i64 (ust d t (L.take k)).1.s, .int .i64 (ust d t (L.take k)).1.e]
  row : W.ownsRow (W0.heap.size + 1) 24 2 v6 (ust d t (L.take k)).2.length (scells (ust d t (L.take k)).2)
set_option maxRecDepth 100000 in
set_option maxHeartbeats 8000000 in
theorem refUnion_any (v : Value) (p : List Sn) (n : Nat) (hn : p.length = n) (hlen : n ≤ 1000) (w : World) (hr : Rd w v n (scells p)) :
    Calls Try.prog 23 #[v] w fun e w' => ∃ v', e = .returned v' ∧ w'.ownsRow w.heap.size 24 2 v' (rUnion p).length (scells (rUnion p)) ∧ Below w.heap.size w w' := by
  obtain ⟨iS, hiS, hS0, hS1, hS2⟩ := info_parts spanInfo
  obtain ⟨a, cap, rfl, hc, hm, hcell⟩ := id hr
  unfold maxLen at hm
  have HCE := Lib.hid hcell
  have HN := Lib.hid hn
  clear hr hn hcell
  go_enter Try.func23, Try.ntmps23
  go_wp2
  go_loopw [3, 4] (fun v3 i wr => ∃ k : Nat, i = .int .i64 k ∧ k ≤ n ∧ Below w.heap.size w wr ∧ wr.ownsRow w.heap.size 24 2 v3 (rUnion (p.take k)).length (scells (rUnion (p.take k)))) (fun _ i _ => n - (intOf i).toNat)
  case atStart => exact ⟨0, rfl, Nat.zero_le _, Below.refl _ _, World.ownsRow_nil _ _ _ _⟩
  case round =>
    obtain ⟨k, rfl, hk, hb, hos⟩ := hrel
    by_cases hlt : k < n
    · obtain ⟨g, o, rfl, hg, hx⟩ := HCE.out (by omega)
      obtain ⟨t, ht⟩ : ∃ t, p[k]? = some t := ⟨_, List.getElem?_eq_getElem (by have := HN.out; omega)⟩
      have c0 := (hb.cell (p := ⟨g, o + k * 2, none⟩) hg).trans (hx _ _ (scells_get ht).1)
      have c1 := (hb.cell (p := ⟨g, o + (k * 2 + 1), none⟩) hg).trans (hx _ _ (scells_get ht).2)
      rw [← Nat.add_assoc] at c1
      have hgr : g < wr.heap.size := by have := hb.size; omega
      have HTK := Lib.hid (rUnion_take ht)
      have hLL : (rUnion (p.take k)).length ≤ k := Nat.le_trans (rUnion_len _) (by simp; omega)
      clear ht hx
      generalize rUnion (p.take k) = L at *
      have HBL := Lib.hid hb
      have hbs := hb.size
      by_cases hne : t.s < t.e
      · have HUY := Lib.hid (uin_yes (l := L) hne)
        have hned : decide (t.e ≤ t.s) = false := by simp; omega
        obtain ⟨m, hm2⟩ : ∃ m, L.length = m := ⟨_, rfl⟩
        rw [hm2] at hos hLL
        obtain ⟨a3, c3, rfl, -, -⟩ := ownsRow_shape hos
        have HOS := Lib.hid hos
        have HM := Lib.hid hm2
        have US0 : Hid (Us 1 t L wr (wr.alloc (.cells #[.int .i64 t.s, .int .i64 t.e] 24)) (.slice none 0 0) 0) := ⟨Nat.zero_le _, below_alloc _ _, Bk.new wr _ _, World.ownsRow_nil _ _ _ _⟩
        clear hos hb hm2
        obtain ⟨wo, hwo⟩ : ∃ wo, wo = wr := ⟨_, rfl⟩
        subst hwo
        go_wp2
        go_loopw [6, 7] (fun v6 i wr2 => ∃ j : Nat, i = .int .i64 j ∧ Us 1 t L wo wr2 v6 j) (fun _ i _ => m - (intOf i).toNat)
        case atStart => exact ⟨0, rfl, US0.out⟩
        case round =>
          obtain ⟨j, rfl, hu⟩ := hrel
          have hjl := hu.le
          rw [HM.out] at hjl
          have HBE := Lib.hid hu.below
          have HBX := Lib.hid hu.box
          have HRW := Lib.hid hu.row
          have hrl := Nat.le_trans (ust_len 1 t (L.take j)) (show (L.take j).length ≤ j by simp; omega)
          have b0 := HBX.out.cell 0
          have b1 := HBX.out.cell 1
          have f0 := HBX.out.frozen 0
          have f1 := HBX.out.frozen 1
          have hbx := HBX.out.lt
          have hsz2 := HBE.out.size
          by_cases hjm : j < m
          · obtain ⟨q, rfl, -, hq, -, -, hcq, -⟩ := ownsRow_at HOS.out (by omega)
            obtain ⟨y, hy⟩ : ∃ y, L[j]? = some y := ⟨_, List.getElem?_eq_getElem (by have := HM.out; omega)⟩
            have e0 := (hu.below.cell (p := ⟨q, j * 2, none⟩) hq).trans (hcq _ _ (scells_get hy).1)
            have e1 := (hu.below.cell (p := ⟨q, j * 2 + 1, none⟩) hq).trans (hcq _ _ (scells_get hy).2)
            have hqr : q < wr.heap.size := by omega
            have hne1 : ¬ q = wo.heap.size := by omega
            have hne2 : ¬ wo.heap.size = q := by omega
            have HST := Lib.hid (ust_take (d := 1) (t := t) hy)
            clear hcq hy hu
            generalize ust 1 t (L.take j) = st at *
            obtain ⟨⟨ss, se⟩, rest⟩ := st
            simp only [List.getElem?_toArray, List.getElem?_cons_zero, List.getElem?_cons_succ] at b0 b1
            simp only at hrl
            obtain ⟨a6, c6, rfl, -, -⟩ := ownsRow_shape HRW.out
            by_cases h1 : y.s ≤ se
            · have h1d : decide (y.s ≤ se) = true := by simp [h1]
              by_cases h2 : ss ≤ y.e
              · have h2d : decide (ss ≤ y.e) = true := by simp [h2]
                have HNO : Hid (ustep 1 ((⟨ss, se⟩ : Sn), rest) y = (hul ⟨ss, se⟩ y, rest)) := by unfold ustep; exact if_pos (tch_iff.2 ⟨by show y.s < se + 1; omega, by show ss < y.e + 1; omega⟩)
                go_wp2
                go_quiet (fail)
                go_wp2
                go_region
                all_goals go_wp2
                all_goals go_region
                all_goals go_wp2
                all_goals go_roundw
                case rel =>
                  have bk := Bk.set (Bk.set (Bk.drewN HBX.out (nq + 1)) 0 (.int .i64 (min ss y.s))) 1 (.int .i64 (max se y.e))
                  have rw1 := ownsRow_setCell_below (ownsRow_setCell_below (w := wr.drewN (nq + 1)) HRW.out (a := ⟨wo.heap.size, 0, none⟩) (by simp) (.int .i64 (min ss y.s))) (a := ⟨wo.heap.size, 1, none⟩) (by simp) (.int .i64 (max se y.e))
                  refine ⟨j + 1, by simp, ⟨by rw [HM.out]; exact hjm, (((below_drewN HBE.out (nq + 1)).setCell (Nat.le_refl _) _).setCell (Nat.le_refl _) _).drew, ?_, ?_⟩⟩
                  · rw [HST.out, HNO.out]; exact bk
                  · rw [HST.out, HNO.out]; exact rw1
                case measure => simp [intOf]; omega
              · have h2d : decide (ss ≤ y.e) = false := by simp; omega
                have HNO : Hid (ustep 1 ((⟨ss, se⟩ : Sn), rest) y = ((⟨ss, se⟩ : Sn), rest ++ [y])) := by unfold ustep; exact if_neg fun hc => by have := tch_iff.1 hc; simp only at this; omega
                go_wp2
                go_quiet (fail)
                have HOA := Lib.hid (World.ownsRow.alloc (w := wr.drewN nq) HRW.out (.cells #[.int .i64 y.s, .int .i64 y.e] 24))
                have HBB := Lib.hid (Bk.alloc (w := wr.drewN nq) HBX.out (.cells #[.int .i64 y.s, .int .i64 y.e] 24))
                have HBA := Lib.hid ((below_drewN HBE.out nq).alloc (by have := HBE.out.size; simp at *; omega) (.cells #[.int .i64 y.s, .int .i64 y.e] 24))
                have HRO := Lib.hid (rd_two (wr.drewN nq) y.s y.e)
                go_wp2_with (first
                  | (at_builtin; refine wpList_append_rd _ rfl (.tmp 65) (.tmp 70) 51 rfl (wo.heap.size + 1) 24 iS _ 2 16 Try.underlying51 hiS hS0 hS1 hS2 rfl (by decide) _ _ _ rfl HOA.out _ 1 1 [.int .i64 y.s, .int .i64 y.e] rfl rfl HRO.out (by simp [Value.oneCell']) (by simp only [maxLen]; omega) (by omega) (by simp; omega) ?_; intro v7 w5 hos5 hg5 _
                     have HOS5 := Lib.hid hos5
                     have HBX5 := Lib.hid (HBB.out.grown hg5 (fun e => by have := (HOA.out.lt _ e).1; omega))
                     have HBL5 := Lib.hid (HBA.out.grown hg5 (by simp; omega) (fun r e => by have := (HOA.out.lt r e).1; omega))
                     clear hos5 hg5))
                go_roundw
                case rel =>
                  refine ⟨j + 1, by simp, ⟨by rw [HM.out]; exact hjm, HBL5.out, ?_, ?_⟩⟩
                  · rw [HST.out, HNO.out]; exact HBX5.out
                  · rw [HST.out, HNO.out]
                    simp only [List.length_append, List.length_cons, List.length_nil]
                    rw [scells_snoc]
                    exact HOS5.out
                case measure => simp [intOf]; omega
            · have h1d : decide (y.s ≤ se) = false := by simp; omega
              have HNO : Hid (ustep 1 ((⟨ss, se⟩ : Sn), rest) y = ((⟨ss, se⟩ : Sn), rest ++ [y])) := by unfold ustep; exact if_neg fun hc => by have := tch_iff.1 hc; simp only at this; omega
              go_wp2
              go_quiet (fail)
              have HOA := Lib.hid (World.ownsRow.alloc (w := wr.drewN nq) HRW.out (.cells #[.int .i64 y.s, .int .i64 y.e] 24))
              have HBB := Lib.hid (Bk.alloc (w := wr.drewN nq) HBX.out (.cells #[.int .i64 y.s, .int .i64 y.e] 24))
              have HBA := Lib.hid ((below_drewN HBE.out nq).alloc (by have := HBE.out.size; simp at *; omega) (.cells #[.int .i64 y.s, .int .i64 y.e] 24))
              have HRO := Lib.hid (rd_two (wr.drewN nq) y.s y.e)
              go_wp2_with (first
                | (at_builtin; refine wpList_append_rd _ rfl (.tmp 65) (.tmp 70) 51 rfl (wo.heap.size + 1) 24 iS _ 2 16 Try.underlying51 hiS hS0 hS1 hS2 rfl (by decide) _ _ _ rfl HOA.out _ 1 1 [.int .i64 y.s, .int .i64 y.e] rfl rfl HRO.out (by simp [Value.oneCell']) (by simp only [maxLen]; omega) (by omega) (by simp; omega) ?_; intro v7 w5 hos5 hg5 _
                   have HOS5 := Lib.hid hos5
                   have HBX5 := Lib.hid (HBB.out.grown hg5 (fun e => by have := (HOA.out.lt _ e).1; omega))
                   have HBL5 := Lib.hid (HBA.out.grown hg5 (by simp; omega) (fun r e => by have := (HOA.out.lt r e).1; omega))
                   clear hos5 hg5))
              go_roundw
              case rel =>
                refine ⟨j + 1, by simp, ⟨by rw [HM.out]; exact hjm, HBL5.out, ?_, ?_⟩⟩
                · rw [HST.out, HNO.out]; exact HBX5.out
                · rw [HST.out, HNO.out]
                  simp only [List.length_append, List.length_cons, List.length_nil]
                  rw [scells_snoc]
                  exact HOS5.out
              case measure => simp [intOf]; omega
          · obtain rfl : j = m := by omega
            rw [show L.take j = L by rw [← HM.out, List.take_length]] at HBX HRW hrl b0 b1
            have HLm := HM.out
            have HPU := Lib.hid (put_any u6 (ust 1 t L).2 (ust 1 t L).1 wr (Rd.of_owns HRW.out) (by omega))
            generalize ust 1 t L = st at *
            obtain ⟨⟨ss, se⟩, rest⟩ := st
            simp only [List.getElem?_toArray, List.getElem?_cons_zero, List.getElem?_cons_succ] at b0 b1
            have HZ := Lib.hid HLm
            clear hu HLm
            go_wp2_with (first
              | (go_at_call 43; (with_reducible refine HPU.out.mono ?_); rintro e w5 ⟨v5, rfl, ho5, hb5⟩
                 have HO5 := Lib.hid ho5
                 have HB5 := Lib.hid (HBL.out.trans ((HBE.out.mono hbs).trans (hb5.mono (by omega))))
                 clear ho5 hb5))
            go_roundw
            case rel =>
              refine ⟨k + 1, by simp, by omega, HB5.out, ?_⟩
              rw [HTK.out, HUY.out]
              exact own_mono HO5.out (by omega)
            case measure => simp [intOf]; omega
      · have HUN := Lib.hid (uin_no (l := L) hne)
        have hned : decide (t.e ≤ t.s) = true := by simp; omega
        have HOS := Lib.hid hos
        have HBX : Hid (Below w.heap.size w (wr.alloc (.cells #[.int .i64 t.s, .int .i64 t.e] 24))) := hb.alloc hbs _
        clear hos hb
        go_wp2
        go_roundw
        case rel =>
          refine ⟨k + 1, by simp, by omega, HBX.out, ?_⟩
          rw [HTK.out, HUN.out]
          exact HOS.out.alloc _
        case measure => simp [intOf]; omega
    · obtain rfl : k = n := by omega
      have HB := Lib.hid hb
      rw [show p.take k = p by rw [← HN.out, List.take_length]] at hos
      have HOS := Lib.hid hos
      clear hb hos
      go_wp2
      go_ret
      exact ⟨_, rfl, HOS.out, HB.out⟩
end Go.Proofs.Ytjdfjaocidjhlaa
