/- Keys' states held against one another: keepsakekit.Key. -/
import Derived.Test.YtaechgnjdjijkaaKit
import Derived.Deep.RegionWith
import Derived.Laws.Strings
namespace Go.Proofs.Ytaechgnjdjijkaa
open Go.RowKit Go.Lib

theorem str_ne {S T : ByteArray} (h : ¬ S = T) : (S.toList == T.toList) = false := by
  rw [ByteArray.toList_eq, ByteArray.toList_eq]
  simp only [beq_eq_false_iff_ne, ne_eq]
  intro e
  apply h
  cases S; cases T
  simp only [ByteArray.mk.injEq]
  exact Array.toList_inj.1 e
set_option maxRecDepth 100000 in
theorem wins_len (A1 A2 : Option Addr) (c1 c2 n1 n2 : Nat) (w : World) (h : n1 ≠ n2) (_h1 : n1 ≤ maxLen) (_h2 : n2 ≤ maxLen) :
    Calls Try.prog 49 #[.slice A1 n1 c1, .slice A2 n2 c2] w fun e w' => e = .returned (.bool false) ∧ w = w' := by
  have d : ((n1 : Int) != (n2 : Int)) = true := by simp; omega
  have d' : (n1 != n2) = true := by simpa using h
  have d2 : ((n1 : Int) == (n2 : Int)) = false := by simp; omega
  unfold maxLen at _h1 _h2
  go_enter Try.func49, Try.ntmps49
  go_wp2
  go_ret
  exact ⟨rfl, rfl⟩
theorem wins_any (A1 A2 : Option Addr) (c1 c2 n1 n2 : Nat) (l m : List Wn) (w : World) (h1 : Rd w (.slice A1 n1 c1) n1 (wcells l)) (hl : l.length = n1) (h2 : Rd w (.slice A2 n2 c2) n2 (wcells m)) (hm : m.length = n2) :
    Calls Try.prog 49 #[.slice A1 n1 c1, .slice A2 n2 c2] w fun e w' => e = .returned (.bool (decide (l = m))) ∧ Below w.heap.size w w' := by
  by_cases h : n1 = n2
  · subst h
    exact wins_row A1 A2 c1 c2 n1 l m w h1 hl h2 hm
  · have e : decide (l = m) = false := decide_eq_false fun e => by subst e; omega
    rw [e]
    obtain ⟨_, _, hv1, ha1, hb1, -⟩ := h1
    obtain ⟨_, _, hv2, ha2, hb2, -⟩ := h2
    cases hv1; cases hv2
    exact (wins_len A1 A2 c1 c2 n1 n2 w h (by omega) (by omega)).mono fun _ _ ⟨h1, h2⟩ => ⟨h1, by subst h2; exact Below.refl _ _⟩
/-- Are keys' states the same? -/
def kEq (a b : Kn) : Bool := decide (a.key = b.key) && (a.dr == b.dr) && decide (a.ws = b.ws)
theorem kEq_iff {a b : Kn} : kEq a b = true ↔ a = b := by
  obtain ⟨s, d, l⟩ := a
  obtain ⟨s', d', l'⟩ := b
  unfold kEq
  simp [and_assoc]
set_option maxRecDepth 100000 in
set_option maxHeartbeats 1000000 in
theorem kitKey_any (a b : Kn) (va vb : Value) (w : World) (ha : Rk w va a) (hb : Rk w vb b) : Calls Try.prog 15 #[va, vb] w fun e w' => e = .returned (.bool (kEq a b)) ∧ Below w.heap.size w w' := by
  obtain ⟨A1, c1, rfl, h1⟩ := ha
  obtain ⟨A2, c2, rfl, h2⟩ := hb
  have HW : Hid (∀ w', Below w.heap.size w w' → Calls Try.prog 49 #[.slice A1 a.ws.length c1, .slice A2 b.ws.length c2] w' fun e w'' => e = .returned (.bool (decide (a.ws = b.ws))) ∧ Below w'.heap.size w' w'') := Lib.hid fun w' hb => wins_any A1 A2 c1 c2 _ _ _ _ w' (h1.below hb) rfl (h2.below hb) rfl
  obtain ⟨S, D, l⟩ := a
  obtain ⟨T, E, m⟩ := b
  simp only at HW ⊢
  unfold kEq
  simp only
  generalize l.length = n1 at *
  generalize m.length = n2 at *
  clear h1 h2
  obtain ⟨Q, hQ⟩ : ∃ Q, decide (l = m) = Q := ⟨_, rfl⟩
  rw [hQ] at HW ⊢
  clear hQ
  have HB0 := Lib.hid (((below_alloc w (.cells #[.string S, .int .i64 D, .slice A1 n1 c1] 29)).alloc (by simp) (.cells #[.string T, .int .i64 E, .slice A2 n2 c2] 29)))
  obtain ⟨R, hR⟩ : ∃ R, (decide (S = T) && (D == E) && Q) = R := ⟨_, rfl⟩
  rw [hR]
  have HR := Lib.hid hR
  clear hR
  by_cases hs : S = T
  · subst hs
    by_cases hd : D = E
    · subst hd
      go_enter Try.func15, Try.ntmps15
      go_wp2_with (first
        | (go_at_call 49; (with_reducible refine (HW.out _ HB0.out).mono ?_); rintro e w1 ⟨rfl, hb1⟩; have HB1 := Lib.hid hb1; clear hb1))
      go_ret
      exact ⟨ret_bool (by rw [← HR.out]; simp), HB0.out.trans (HB1.out.mono (by simp; omega))⟩
    · have d : (D == E) = false := by simpa using hd
      have HR2 : Hid (R = false) := Lib.hid (by rw [← HR.out, d]; simp)
      clear HR
      go_enter Try.func15, Try.ntmps15
      go_wp2
      go_ret
      exact ⟨ret_bool HR2.out.symm, HB0.out⟩
  · have d3 : decide (S = T) = false := by simpa using hs
    have HR2 : Hid (R = false) := Lib.hid (by rw [← HR.out, d3]; simp)
    have d4 := str_ne hs
    clear HR
    go_enter Try.func15, Try.ntmps15
    go_wp2
    go_ret
    exact ⟨ret_bool HR2.out.symm, HB0.out⟩
end Go.Proofs.Ytaechgnjdjijkaa
