/- Things held against one another: keepsakekit.Bytes, Wins, Key. -/
import Derived.Test.YtaechgnjdjijkaaSame
import Derived.Test.YtaechgnjdjijkaaWn
import Derived.Test.YtaechgnjdjijkaaRow
import Derived.RegionTactic
namespace Go.Proofs.Ytaechgnjdjijkaa
open Go.RowKit Go.Lib

set_option maxRecDepth 100000 in
theorem kitBytes_any (W : World) (A1 A2 : Option Addr) (m1 m2 c1 c2 : Nat) (ps bs : List UInt8) (h1 : Rd W (.slice A1 m1 c1) m1 (bc ps)) (hm1 : ps.length = m1) (h2 : Rd W (.slice A2 m2 c2) m2 (bc bs)) (hm2 : bs.length = m2) :
    Calls Try.prog 20 #[.slice A1 m1 c1, .slice A2 m2 c2] W fun e w' => e = .returned (.bool (ps == bs)) ∧ W = w' := by
  have hA := conv_rd W A1 m1 c1 ps h1 hm1
  have hB := conv_rd W A2 m2 c2 bs h2 hm2
  clear h1 hm1 h2 hm2
  go_enter Try.func20, Try.ntmps20
  go_wp2
  go_ret
  exact ⟨rfl, rfl⟩
theorem wn_ne_cases {x y : Wn} (h : x ≠ y) : (¬ x.s = y.s) ∨ (x.s = y.s ∧ ¬ x.e = y.e) ∨ (x.s = y.s ∧ x.e = y.e ∧ ¬ x.h = y.h) ∨ (x.s = y.s ∧ x.e = y.e ∧ x.h = y.h ∧ ¬ x.c = y.c) ∨ (x.s = y.s ∧ x.e = y.e ∧ x.h = y.h ∧ x.c = y.c ∧ ¬ x.u = y.u) ∨ (x.s = y.s ∧ x.e = y.e ∧ x.h = y.h ∧ x.c = y.c ∧ x.u = y.u ∧ ¬ x.lo = y.lo) ∨ (x.s = y.s ∧ x.e = y.e ∧ x.h = y.h ∧ x.c = y.c ∧ x.u = y.u ∧ x.lo = y.lo ∧ ¬ x.hi = y.hi) ∨ (x.s = y.s ∧ x.e = y.e ∧ x.h = y.h ∧ x.c = y.c ∧ x.u = y.u ∧ x.lo = y.lo ∧ x.hi = y.hi ∧ ¬ x.si = y.si) ∨ (x.s = y.s ∧ x.e = y.e ∧ x.h = y.h ∧ x.c = y.c ∧ x.u = y.u ∧ x.lo = y.lo ∧ x.hi = y.hi ∧ x.si = y.si ∧ ¬ x.pa = y.pa) := by
  by_cases e0 : x.s = y.s
  · skip
    by_cases e1 : x.e = y.e
    · skip
      by_cases e2 : x.h = y.h
      · skip
        by_cases e3 : x.c = y.c
        · skip
          by_cases e4 : x.u = y.u
          · skip
            by_cases e5 : x.lo = y.lo
            · skip
              by_cases e6 : x.hi = y.hi
              · skip
                by_cases e7 : x.si = y.si
                · skip
                  by_cases e8 : x.pa = y.pa
                  · skip
                    exact absurd (by cases x; cases y; simp only at *; subst e0 e1 e2 e3 e4 e5 e6 e7 e8; rfl) h
                  · exact .inr (.inr (.inr (.inr (.inr (.inr (.inr (.inr (⟨e0, e1, e2, e3, e4, e5, e6, e7, e8⟩))))))))
                · exact .inr (.inr (.inr (.inr (.inr (.inr (.inr (.inl (⟨e0, e1, e2, e3, e4, e5, e6, e7⟩))))))))
              · exact .inr (.inr (.inr (.inr (.inr (.inr (.inl (⟨e0, e1, e2, e3, e4, e5, e6⟩)))))))
            · exact .inr (.inr (.inr (.inr (.inr (.inl (⟨e0, e1, e2, e3, e4, e5⟩))))))
          · exact .inr (.inr (.inr (.inr (.inl (⟨e0, e1, e2, e3, e4⟩)))))
        · exact .inr (.inr (.inr (.inl (⟨e0, e1, e2, e3⟩))))
      · exact .inr (.inr (.inl (⟨e0, e1, e2⟩)))
    · exact .inr (.inl (⟨e0, e1⟩))
  · exact .inl e0
set_option maxRecDepth 100000 in
set_option maxHeartbeats 2000000 in
theorem wins_row (A1 A2 : Option Addr) (c1 c2 n : Nat) (l m : List Wn) (w : World) (h1 : Rd w (.slice A1 n c1) n (wcells l)) (hl : l.length = n) (h2 : Rd w (.slice A2 n c2) n (wcells m)) (hm : m.length = n) :
    Calls Try.prog 49 #[.slice A1 n c1, .slice A2 n c2] w fun e w' => e = .returned (.bool (decide (l = m))) ∧ Below w.heap.size w w' := by
  obtain ⟨R, hR⟩ : ∃ R, decide (l = m) = R := ⟨_, rfl⟩
  rw [hR]
  have HR := Lib.hid hR
  have HL := Lib.hid hl
  have HM := Lib.hid hm
  have H1 := Lib.hid h1
  have H2 := Lib.hid h2
  obtain ⟨_, _, hv1, hc1, hb1, -⟩ := h1
  obtain ⟨_, _, hv2, hc2, hb2, -⟩ := h2
  cases hv1
  cases hv2
  unfold maxLen at hb1 hb2
  clear hR hl hm
  go_enter Try.func49, Try.ntmps49
  go_wp2
  go_loopw [5] (fun i wr => ∃ k : Nat, i = .int .i64 k ∧ k ≤ n ∧ Below w.heap.size w wr ∧ ∀ j, j < k → l[j]? = m[j]?) (fun i _ => n - (intOf i).toNat)
  case atStart => exact ⟨0, rfl, Nat.zero_le _, Below.refl _ _, fun j h => by omega⟩
  case round =>
    obtain ⟨k, rfl, hk, hb, hs⟩ := hrel
    have HS := Lib.hid hs
    clear hs
    by_cases hlt : k < n
    · obtain ⟨x, hx⟩ : ∃ x, l[k]? = some x := ⟨_, List.getElem?_eq_getElem (by have := HL.out; omega)⟩
      obtain ⟨y, hy⟩ : ∃ x, m[k]? = some x := ⟨_, List.getElem?_eq_getElem (by have := HM.out; omega)⟩
      obtain ⟨g1, o1, rfl, hg1, hx1⟩ := rd_win (H1.out.below hb) hx HL.out
      obtain ⟨g2, o2, rfl, hg2, hx2⟩ := rd_win (H2.out.below hb) hy HM.out
      obtain ⟨a0, a1, a2, a3, a4, a5, a6, a7, a8⟩ := hx1
      obtain ⟨b0, b1, b2, b3, b4, b5, b6, b7, b8⟩ := hx2
      by_cases hxy : x = y
      · subst hxy
        have HXY : Hid (∀ j, j < k + 1 → l[j]? = m[j]?) := Lib.hid fun j hj => by
          by_cases hjk : j < k
          · exact HS.out j hjk
          · obtain rfl : j = k := by omega
            rw [hx, hy]
        clear hx hy
        go_wp2
        go_region
        all_goals go_wp2
        all_goals go_roundw
        case rel => exact ⟨k + 1, by go_num, by omega, hb.drew, HXY.out⟩
        case measure => simp [intOf]; omega
      · have hno : Hid (R = false) := Lib.hid (HR.out.symm.trans (decide_eq_false fun h => by subst h; rw [hx] at hy; cases hy; exact hxy rfl))
        have hc := wn_ne_cases hxy
        clear hx hy hxy
        rcases hc with d | ⟨e0, d⟩ | ⟨e0, e1, d⟩ | ⟨e0, e1, e2, d⟩ | ⟨e0, e1, e2, e3, d⟩ | ⟨e0, e1, e2, e3, e4, d⟩ | ⟨e0, e1, e2, e3, e4, e5, d⟩ | ⟨e0, e1, e2, e3, e4, e5, e6, d⟩ | ⟨e0, e1, e2, e3, e4, e5, e6, e7, d⟩
        all_goals
          go_wp2
          go_region
          all_goals go_wp2
          all_goals go_ret
          all_goals exact ⟨ret_bool hno.out.symm, hb.drew⟩
    · obtain rfl : k = n := by omega
      have hyes : Hid (R = true) := Lib.hid (HR.out.symm.trans (decide_eq_true (List.ext_getElem? fun j => by
        by_cases hj : j < k
        · exact HS.out j hj
        · rw [List.getElem?_eq_none (by have := HL.out; omega), List.getElem?_eq_none (by have := HM.out; omega)])))
      go_wp2
      go_ret
      exact ⟨ret_bool hyes.out.symm, hb⟩
end Go.Proofs.Ytaechgnjdjijkaa
