/- keepsakekit.Keys: two lists of keys' states. -/
import Derived.Test.YtaechgnjdjijkaaBacks
import Derived.Test.YtaechgnjdjijkaaKits
import Derived.Deep.RegionHeld3
namespace Go.Proofs.Ytaechgnjdjijkaa
open Go.RowKit Go.Lib

instance : DecidableEq Kn := fun a b => if h : kEq a b = true then isTrue (kEq_iff.1 h) else isFalse (fun e => h (kEq_iff.2 e))
theorem keys_len (A1 A2 : Option Addr) (c1 c2 n1 n2 : Nat) (w : World) (h : n1 ≠ n2) (_h1 : n1 ≤ maxLen) (_h2 : n2 ≤ maxLen) :
    Calls Try.prog 31 #[.slice A1 n1 c1, .slice A2 n2 c2] w fun e w' => e = .returned (.bool false) ∧ w = w' := by
  go_enter Try.func31, Try.ntmps31
  go_wp2
  go_ret
  exact ⟨rfl, rfl⟩
set_option maxRecDepth 100000 in
set_option maxHeartbeats 1000000 in
theorem keys_any (A1 A2 : Option Addr) (c1 c2 n1 n2 : Nat) (l m : List Km) (w : World) (h1 : Rks w (.slice A1 n1 c1) n1 l) (h2 : Rks w (.slice A2 n2 c2) n2 m) :
    Calls Try.prog 31 #[.slice A1 n1 c1, .slice A2 n2 c2] w fun e w' => e = .returned (.bool (decide (l.map Km.k = m.map Km.k))) ∧ Below w.heap.size w w' := by
  have hc1 : n1 ≤ c1 ∧ c1 ≤ maxLen := by obtain ⟨_, _, hv, h1, h2, _⟩ := h1.rd; cases hv; exact ⟨h1, h2⟩
  have hc2 : n2 ≤ c2 ∧ c2 ≤ maxLen := by obtain ⟨_, _, hv, h1, h2, _⟩ := h2.rd; cases hv; exact ⟨h1, h2⟩
  by_cases hn : n1 = n2
  · subst hn
    obtain ⟨R, hR⟩ : ∃ R, decide (l.map Km.k = m.map Km.k) = R := ⟨_, rfl⟩
    rw [hR]
    have HR := Lib.hid hR
    have H1 := Lib.hid h1
    have H2 := Lib.hid h2
    unfold maxLen at hc1 hc2
    obtain ⟨hc11, hc12⟩ := hc1
    obtain ⟨hc21, hc22⟩ := hc2
    clear hR h1 h2
    go_enter Try.func31, Try.ntmps31
    go_wp2
    go_loopw [5] (fun q wr => ∃ i : Nat, q = .int .i64 i ∧ i ≤ n1 ∧ (l.take i).map Km.k = (m.take i).map Km.k ∧ Below w.heap.size w wr) (fun q _ => n1 - (intOf q).toNat)
    case atStart => exact ⟨0, rfl, Nat.zero_le _, by simp, Below.refl _ _⟩
    case round =>
      obtain ⟨i, rfl, hi, htk, hb⟩ := hrel
      have HTK := Lib.hid htk
      have HB := Lib.hid hb
      by_cases hin : i < n1
      · obtain ⟨x, hx⟩ : ∃ x, l[i]? = some x := ⟨_, List.getElem?_eq_getElem (by rw [H1.out.len]; exact hin)⟩
        obtain ⟨y, hy⟩ : ∃ y, m[i]? = some y := ⟨_, List.getElem?_eq_getElem (by rw [H2.out.len]; exact hin)⟩
        have HKE : Hid (∀ w2, Below wr.heap.size wr w2 → Calls Try.prog 15 #[.agg #[.string x.k.key, .int .i64 x.k.dr, .slice x.A x.k.ws.length x.cap], .agg #[.string y.k.key, .int .i64 y.k.dr, .slice y.A y.k.ws.length y.cap]] w2 fun e w' => e = .returned (.bool (kEq x.k y.k)) ∧ Below w2.heap.size w2 w') := Lib.hid fun w2 hb2 =>
          kitKey_any x.k y.k _ _ w2 ((H1.out.below (below_trans hb hb2)).ok x (List.mem_of_getElem? hx)).rk ((H2.out.below (below_trans hb hb2)).ok y (List.mem_of_getElem? hy)).rk
        have HST : Hid (∀ w2, Below wr.heap.size wr w2 → ∃ g1 o1 g2 o2, A1 = some ⟨g1, o1, none⟩ ∧ A2 = some ⟨g2, o2, none⟩) := Lib.hid fun w2 hb2 => by
          obtain ⟨g1, o1, hA1, -⟩ := rks_at (H1.out.below (below_trans hb hb2)) hx
          obtain ⟨g2, o2, hA2, -⟩ := rks_at (H2.out.below (below_trans hb hb2)) hy
          exact ⟨g1, o1, g2, o2, hA1, hA2⟩
        obtain ⟨g1, o1, g2, o2, rfl, rfl⟩ := HST.out wr (Below.refl _ _)
        have HFA : Hid (∀ w2, Below wr.heap.size wr w2 → (w2.cell? ⟨g1, o1 + i * 3, none⟩ = some (.string x.k.key) ∧ w2.cell? ⟨g1, o1 + i * 3 + 1, none⟩ = some (.int .i64 x.k.dr) ∧ w2.cell? ⟨g1, o1 + i * 3 + 2, none⟩ = some (.slice x.A x.k.ws.length x.cap)) ∧ (w2.cell? ⟨g2, o2 + i * 3, none⟩ = some (.string y.k.key) ∧ w2.cell? ⟨g2, o2 + i * 3 + 1, none⟩ = some (.int .i64 y.k.dr) ∧ w2.cell? ⟨g2, o2 + i * 3 + 2, none⟩ = some (.slice y.A y.k.ws.length y.cap))) := Lib.hid fun w2 hb2 => by
          obtain ⟨p1, q1, hA1, -, h11, h12, h13⟩ := rks_at (H1.out.below (below_trans hb hb2)) hx
          obtain ⟨p2, q2, hA2, -, h21, h22, h23⟩ := rks_at (H2.out.below (below_trans hb hb2)) hy
          cases hA1
          cases hA2
          exact ⟨⟨h11, h12, h13⟩, h21, h22, h23⟩
        have HTX : Hid ((l.take (i + 1)).map Km.k = (l.take i).map Km.k ++ [x.k]) := Lib.hid (by rw [List.take_add_one, hx]; simp)
        have HTY : Hid ((m.take (i + 1)).map Km.k = (m.take i).map Km.k ++ [y.k]) := Lib.hid (by rw [List.take_add_one, hy]; simp)
        have HNE : Hid (kEq x.k y.k = false → R = false) := Lib.hid fun h => by
          rw [← HR.out]
          refine decide_eq_false fun e => ?_
          have h2 := congrArg (·[i]?) e
          simp only [List.getElem?_map, hx, hy, Option.map_some, Option.some.injEq] at h2
          rw [kEq_iff.2 h2] at h
          cases h
        have HEQ : Hid (kEq x.k y.k = true → x.k = y.k) := Lib.hid fun h => kEq_iff.1 h
        obtain ⟨Z, hZ⟩ : ∃ Z, kEq x.k y.k = Z := ⟨_, rfl⟩
        rw [hZ] at HKE HNE HEQ
        obtain ⟨⟨S, D, ws⟩, Ax, cx⟩ := x
        obtain ⟨⟨S2, D2, ws2⟩, Ay, cy⟩ := y
        simp only at HKE HFA
        obtain ⟨nx, hnx⟩ : ∃ nx, ws.length = nx := ⟨_, rfl⟩
        obtain ⟨ny, hny⟩ : ∃ ny, ws2.length = ny := ⟨_, rfl⟩
        rw [hnx, hny] at HKE HFA
        have hin2 : decide (i < n1) = true := by simpa using hin
        have hi0 : (0 : Int) ≤ (i : Int) := by omega
        have hi1 : (i : Int) < (n1 : Int) := by omega
        clear htk hb hx hy HST hZ hnx hny
        go_wp2
        go_region_held3 (fun w2 => (w2.cell? ⟨g1, o1 + i * 3, none⟩ = some (.string S) ∧ w2.cell? ⟨g1, o1 + i * 3 + 1, none⟩ = some (.int .i64 D) ∧ w2.cell? ⟨g1, o1 + i * 3 + 2, none⟩ = some (.slice Ax nx cx)) ∧ (w2.cell? ⟨g2, o2 + i * 3, none⟩ = some (.string S2) ∧ w2.cell? ⟨g2, o2 + i * 3 + 1, none⟩ = some (.int .i64 D2) ∧ w2.cell? ⟨g2, o2 + i * 3 + 2, none⟩ = some (.slice Ay ny cy)))
          (first
            | exact HFA.out _ (below_drew wr)
            | exact HFA.out _ HB2.out)
          ((first
            | (go_at_call 15; (with_reducible refine (HKE.out _ (below_drew wr)).mono ?_); rintro e w2 ⟨rfl, hb2⟩; have HB2 := Lib.hid (below_trans (below_drew wr) hb2); clear hb2)))
        cases Z with
        | true =>
          have heq := HEQ.out rfl
          have HEQ2 := Lib.hid heq
          clear heq
          go_wp2
          go_roundw
          case rel => exact ⟨i + 1, by go_num, by omega, by rw [HTX.out, HTY.out, HTK.out, HEQ2.out], below_trans HB.out HB2.out⟩
          case measure => simp [intOf]; omega
        | false =>
          obtain rfl := HNE.out rfl
          go_wp2
          go_ret
          exact ⟨rfl, below_trans HB.out HB2.out⟩
      · obtain rfl : i = n1 := by omega
        have hT : R = true := by
          rw [← HR.out]
          have h := htk
          rw [List.take_of_length_le (by rw [H1.out.len]; omega), List.take_of_length_le (by rw [H2.out.len]; omega)] at h
          exact decide_eq_true h
        clear htk hb
        have hin2 : decide (i < i) = false := by simp
        go_wp2
        go_ret
        exact ⟨ret_bool hT.symm, HB.out⟩
  · have hne : decide (l.map Km.k = m.map Km.k) = false := decide_eq_false fun e => hn (by have := congrArg List.length e; rw [List.length_map, List.length_map, h1.len, h2.len] at this; exact this)
    rw [hne]
    exact (keys_len A1 A2 c1 c2 n1 n2 w hn (by omega) (by omega)).mono fun e w' ⟨a, b⟩ => ⟨a, by subst b; exact Below.refl _ _⟩
end Go.Proofs.Ytaechgnjdjijkaa
