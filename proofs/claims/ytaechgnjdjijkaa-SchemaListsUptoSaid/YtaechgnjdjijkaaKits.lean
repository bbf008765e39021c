/- Kits: Kit, Kit2. -/
import Derived.Test.YtaechgnjdjijkaaWire
import Derived.Test.YtaechgnjdjijkaaWins
import Derived.RegionTactic
import Derived.Deep.RegionWith
import Derived.Laws.Strings
/- Things held against one another: keepsakekit.Bytes, Wins, Key. -/
namespace Go.Proofs.Ytaechgnjdjijkaa
open Go.RowKit Go.Lib

set_option maxRecDepth 100000 in
theorem kitBytes_any (W : World) (A1 A2 : Option Addr) (m1 m2 c1 c2 : Nat) (ps bs : List UInt8) (h1 : Rd W (.slice A1 m1 c1) m1 (bc ps)) (hm1 : ps.length = m1) (h2 : Rd W (.slice A2 m2 c2) m2 (bc bs)) (hm2 : bs.length = m2) :
    Calls Try.prog 20 #[.slice A1 m1 c1, .slice A2 m2 c2] W fun e w' => e = .returned (.bool (ps == bs)) ∧ W = w' := by
  have hA := conv_rd W A1 m1 c1 ps h1 hm1
  have hB := conv_rd W A2 m2 c2 bs h2 hm2
  clear h1 hm1 h2 hm2
  go_enter Try.func20, Try.ntmps20
  go_wp2
  go_ret
  exact ⟨rfl, rfl⟩
theorem wn_ne_cases {x y : Wn} (h : x ≠ y) : (¬ x.s = y.s) ∨ (x.s = y.s ∧ ¬ x.e = y.e) ∨ (x.s = y.s ∧ x.e = y.e ∧ ¬ x.h = y.h) ∨ (x.s = y.s ∧ x.e = y.e ∧ x.h = y.h ∧ ¬ x.c = y.c) ∨ (x.s = y.s ∧ x.e = y.e ∧ x.h = y.h ∧ x.c = y.c ∧ ¬ x.u = y.u) ∨ (x.s = y.s ∧ x.e = y.e ∧ x.h = y.h ∧ x.c = y.c ∧ x.u = y.u ∧ ¬ x.lo = y.lo) ∨ (x.s = y.s ∧ x.e = y.e ∧ x.h = y.h ∧ x.c = y.c ∧ x.u = y.u ∧ x.lo = y.lo ∧ ¬ x.hi = y.hi) ∨ (x.s = y.s ∧ x.e = y.e ∧ x.h = y.h ∧ x.c = y.c ∧ x.u = y.u ∧ x.lo = y.lo ∧ x.hi = y.hi ∧ ¬ x.si = y.si) ∨ (x.s = y.s ∧ x.e = y.e ∧ x.h = y.h ∧ x.c = y.c ∧ x.u = y.u ∧ x.lo = y.lo ∧ x.hi = y.hi ∧ x.si = y.si ∧ ¬ x.pa = y.pa) := by
  by_cases e0 : x.s = y.s
  · skip
    by_cases e1 : x.e = y.e
    · skip
      by_cases e2 : x.h = y.h
      · skip
        by_cases e3 : x.c = y.c
        · skip
          by_cases e4 : x.u = y.u
          · skip
            by_cases e5 : x.lo = y.lo
            · skip
              by_cases e6 : x.hi = y.hi
              · skip
                by_cases e7 : x.si = y.si
                · skip
                  by_cases e8 : x.pa = y.pa
                  · skip
                    exact absurd (by cases x; cases y; simp only at *; subst e0 e1 e2 e3 e4 e5 e6 e7 e8; rfl) h
                  · exact .inr (.inr (.inr (.inr (.inr (.inr (.inr (.inr (⟨e0, e1, e2, e3, e4, e5, e6, e7, e8⟩))))))))
                · exact .inr (.inr (.inr (.inr (.inr (.inr (.inr (.inl (⟨e0, e1, e2, e3, e4, e5, e6, e7⟩))))))))
              · exact .inr (.inr (.inr (.inr (.inr (.inr (.inl (⟨e0, e1, e2, e3, e4, e5, e6⟩)))))))
            · exact .inr (.inr (.inr (.inr (.inr (.inl (⟨e0, e1, e2, e3, e4, e5⟩))))))
          · exact .inr (.inr (.inr (.inr (.inl (⟨e0, e1, e2, e3, e4⟩)))))
        · exact .inr (.inr (.inr (.inl (⟨e0, e1, e2, e3⟩))))
      · exact .inr (.inr (.inl (⟨e0, e1, e2⟩)))
    · exact .inr (.inl (⟨e0, e1⟩))
  · exact .inl e0
set_option maxRecDepth 100000 in
set_option maxHeartbeats 2000000 in
theorem wins_row (A1 A2 : Option Addr) (c1 c2 n : Nat) (l m : List Wn) (w : World) (h1 : Rd w (.slice A1 n c1) n (wcells l)) (hl : l.length = n) (h2 : Rd w (.slice A2 n c2) n (wcells m)) (hm : m.length = n) :
    Calls Try.prog 49 #[.slice A1 n c1, .slice A2 n c2] w fun e w' => e = .returned (.bool (decide (l = m))) ∧ Below w.heap.size w w' := by
  obtain ⟨R, hR⟩ : ∃ R, decide (l = m) = R := ⟨_, rfl⟩
  rw [hR]
  have HR := Lib.hid hR
  have HL := Lib.hid hl
  have HM := Lib.hid hm
  have H1 := Lib.hid h1
  have H2 := Lib.hid h2
  obtain ⟨_, _, hv1, hc1, hb1, -⟩ := h1
  obtain ⟨_, _, hv2, hc2, hb2, -⟩ := h2
  cases hv1
  cases hv2
  unfold maxLen at hb1 hb2
  clear hR hl hm
  go_enter Try.func49, Try.ntmps49
  go_wp2
  go_loopw [5] (fun i wr => ∃ k : Nat, i = .int .i64 k ∧ k ≤ n ∧ Below w.heap.size w wr ∧ ∀ j, j < k → l[j]? = m[j]?) (fun i _ => n - (intOf i).toNat)
  case atStart => exact ⟨0, rfl, Nat.zero_le _, Below.refl _ _, fun j h => by omega⟩
  case round =>
    obtain ⟨k, rfl, hk, hb, hs⟩ := hrel
    have HS := Lib.hid hs
    clear hs
    by_cases hlt : k < n
    · obtain ⟨x, hx⟩ : ∃ x, l[k]? = some x := ⟨_, List.getElem?_eq_getElem (by have := HL.out; omega)⟩
      obtain ⟨y, hy⟩ : ∃ x, m[k]? = some x := ⟨_, List.getElem?_eq_getElem (by have := HM.out; omega)⟩
      obtain ⟨g1, o1, rfl, hg1, hx1⟩ := rd_win (H1.out.below hb) hx HL.out
      obtain ⟨g2, o2, rfl, hg2, hx2⟩ := rd_win (H2.out.below hb) hy HM.out
      obtain ⟨a0, a1, a2, a3, a4, a5, a6, a7, a8⟩ := hx1
      obtain ⟨b0, b1, b2, b3, b4, b5, b6, b7, b8⟩ := hx2
      by_cases hxy : x = y
      · subst hxy
        have HXY : Hid (∀ j, j < k + 1 → l[j]? = m[j]?) := Lib.hid fun j hj => by
          by_cases hjk : j < k
          · exact HS.out j hjk
          · obtain rfl : j = k := by omega
            rw [hx, hy]
        clear hx hy
        go_wp2
        go_region
        all_goals go_wp2
        all_goals go_roundw
        case rel => exact ⟨k + 1, by go_num, by omega, hb.drew, HXY.out⟩
        case measure => simp [intOf]; omega
      · have hno : Hid (R = false) := Lib.hid (HR.out.symm.trans (decide_eq_false fun h => by subst h; rw [hx] at hy; cases hy; exact hxy rfl))
        have hc := wn_ne_cases hxy
        clear hx hy hxy
        rcases hc with d | ⟨e0, d⟩ | ⟨e0, e1, d⟩ | ⟨e0, e1, e2, d⟩ | ⟨e0, e1, e2, e3, d⟩ | ⟨e0, e1, e2, e3, e4, d⟩ | ⟨e0, e1, e2, e3, e4, e5, d⟩ | ⟨e0, e1, e2, e3, e4, e5, e6, d⟩ | ⟨e0, e1, e2, e3, e4, e5, e6, e7, d⟩
        all_goals
          go_wp2
          go_region
          all_goals go_wp2
          all_goals go_ret
          all_goals exact ⟨ret_bool hno.out.symm, hb.drew⟩
    · obtain rfl : k = n := by omega
      have hyes : Hid (R = true) := Lib.hid (HR.out.symm.trans (decide_eq_true (List.ext_getElem? fun j => by
        by_cases hj : j < k
        · exact HS.out j hj
        · rw [List.getElem?_eq_none (by have := HL.out; omega), List.getElem?_eq_none (by have := HM.out; omega)])))
      go_wp2
      go_ret
      exact ⟨ret_bool hyes.out.symm, hb⟩
end Go.Proofs.Ytaechgnjdjijkaa

/- Keys' states held against one another: keepsakekit.Key. -/
namespace Go.Proofs.Ytaechgnjdjijkaa
open Go.RowKit Go.Lib

theorem str_ne {S T : ByteArray} (h : ¬ S = T) : (S.toList == T.toList) = false := by
  rw [ByteArray.toList_eq, ByteArray.toList_eq]
  simp only [beq_eq_false_iff_ne, ne_eq]
  intro e
  apply h
  cases S; cases T
  simp only [ByteArray.mk.injEq]
  exact Array.toList_inj.1 e
set_option maxRecDepth 100000 in
theorem wins_len (A1 A2 : Option Addr) (c1 c2 n1 n2 : Nat) (w : World) (h : n1 ≠ n2) (_h1 : n1 ≤ maxLen) (_h2 : n2 ≤ maxLen) :
    Calls Try.prog 49 #[.slice A1 n1 c1, .slice A2 n2 c2] w fun e w' => e = .returned (.bool false) ∧ w = w' := by
  have d : ((n1 : Int) != (n2 : Int)) = true := by simp; omega
  have d' : (n1 != n2) = true := by simpa using h
  have d2 : ((n1 : Int) == (n2 : Int)) = false := by simp; omega
  unfold maxLen at _h1 _h2
  go_enter Try.func49, Try.ntmps49
  go_wp2
  go_ret
  exact ⟨rfl, rfl⟩
theorem wins_any (A1 A2 : Option Addr) (c1 c2 n1 n2 : Nat) (l m : List Wn) (w : World) (h1 : Rd w (.slice A1 n1 c1) n1 (wcells l)) (hl : l.length = n1) (h2 : Rd w (.slice A2 n2 c2) n2 (wcells m)) (hm : m.length = n2) :
    Calls Try.prog 49 #[.slice A1 n1 c1, .slice A2 n2 c2] w fun e w' => e = .returned (.bool (decide (l = m))) ∧ Below w.heap.size w w' := by
  by_cases h : n1 = n2
  · subst h
    exact wins_row A1 A2 c1 c2 n1 l m w h1 hl h2 hm
  · have e : decide (l = m) = false := decide_eq_false fun e => by subst e; omega
    rw [e]
    obtain ⟨_, _, hv1, ha1, hb1, -⟩ := h1
    obtain ⟨_, _, hv2, ha2, hb2, -⟩ := h2
    cases hv1; cases hv2
    exact (wins_len A1 A2 c1 c2 n1 n2 w h (by omega) (by omega)).mono fun _ _ ⟨h1, h2⟩ => ⟨h1, by subst h2; exact Below.refl _ _⟩
/-- Are keys' states the same? -/
def kEq (a b : Kn) : Bool := decide (a.key = b.key) && (a.dr == b.dr) && decide (a.ws = b.ws)
theorem kEq_iff {a b : Kn} : kEq a b = true ↔ a = b := by
  obtain ⟨s, d, l⟩ := a
  obtain ⟨s', d', l'⟩ := b
  unfold kEq
  simp [and_assoc]
set_option maxRecDepth 100000 in
set_option maxHeartbeats 1000000 in
theorem kitKey_any (a b : Kn) (va vb : Value) (w : World) (ha : Rk w va a) (hb : Rk w vb b) : Calls Try.prog 15 #[va, vb] w fun e w' => e = .returned (.bool (kEq a b)) ∧ Below w.heap.size w w' := by
  obtain ⟨A1, c1, rfl, h1⟩ := ha
  obtain ⟨A2, c2, rfl, h2⟩ := hb
  have HW : Hid (∀ w', Below w.heap.size w w' → Calls Try.prog 49 #[.slice A1 a.ws.length c1, .slice A2 b.ws.length c2] w' fun e w'' => e = .returned (.bool (decide (a.ws = b.ws))) ∧ Below w'.heap.size w' w'') := Lib.hid fun w' hb => wins_any A1 A2 c1 c2 _ _ _ _ w' (h1.below hb) rfl (h2.below hb) rfl
  obtain ⟨S, D, l⟩ := a
  obtain ⟨T, E, m⟩ := b
  simp only at HW ⊢
  unfold kEq
  simp only
  generalize l.length = n1 at *
  generalize m.length = n2 at *
  clear h1 h2
  obtain ⟨Q, hQ⟩ : ∃ Q, decide (l = m) = Q := ⟨_, rfl⟩
  rw [hQ] at HW ⊢
  clear hQ
  have HB0 := Lib.hid (((below_alloc w (.cells #[.string S, .int .i64 D, .slice A1 n1 c1] 29)).alloc (by simp) (.cells #[.string T, .int .i64 E, .slice A2 n2 c2] 29)))
  obtain ⟨R, hR⟩ : ∃ R, (decide (S = T) && (D == E) && Q) = R := ⟨_, rfl⟩
  rw [hR]
  have HR := Lib.hid hR
  clear hR
  by_cases hs : S = T
  · subst hs
    by_cases hd : D = E
    · subst hd
      go_enter Try.func15, Try.ntmps15
      go_wp2_with (first
        | (go_at_call 49; (with_reducible refine (HW.out _ HB0.out).mono ?_); rintro e w1 ⟨rfl, hb1⟩; have HB1 := Lib.hid hb1; clear hb1))
      go_ret
      exact ⟨ret_bool (by rw [← HR.out]; simp), HB0.out.trans (HB1.out.mono (by simp; omega))⟩
    · have d : (D == E) = false := by simpa using hd
      have HR2 : Hid (R = false) := Lib.hid (by rw [← HR.out, d]; simp)
      clear HR
      go_enter Try.func15, Try.ntmps15
      go_wp2
      go_ret
      exact ⟨ret_bool HR2.out.symm, HB0.out⟩
  · have d3 : decide (S = T) = false := by simpa using hs
    have HR2 : Hid (R = false) := Lib.hid (by rw [← HR.out, d3]; simp)
    have d4 := str_ne hs
    clear HR
    go_enter Try.func15, Try.ntmps15
    go_wp2
    go_ret
    exact ⟨ret_bool HR2.out.symm, HB0.out⟩
end Go.Proofs.Ytaechgnjdjijkaa
