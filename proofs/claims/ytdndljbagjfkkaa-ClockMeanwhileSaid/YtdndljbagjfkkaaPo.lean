/- A clock beside the document's, or none of both. -/
import Derived.Test.YtdndljbagjfkkaaPy
namespace Go.Proofs.Ytdndljbagjfkkaa
open Go.RowKit Go.Lib
set_option maxRecDepth 100000 in
set_option maxHeartbeats 1000000 in
theorem plays_no (w : World) (ki wh to sr lv tm : Int) (nm : ByteArray) :
    Calls Try.prog 21 #[.pointer none, .pointer none, .agg #[.int .i64 ki, .int .i64 wh, .int .i64 to, .int .i64 sr, .int .i64 lv, .string nm, .int .i64 tm]] w fun e w' => e = .returned (.bool true) ∧ Below w.heap.size w w' := by
  have hbb := below_alloc w (.cells #[.int .i64 ki, .int .i64 wh, .int .i64 to, .int .i64 sr, .int .i64 lv, .string nm, .int .i64 tm] 30)
  have HBB := Lib.hid hbb
  have HBK := Lib.hid (Bk.new w 30 #[.int .i64 ki, .int .i64 wh, .int .i64 to, .int .i64 sr, .int .i64 lv, .string nm, .int .i64 tm])
  have c0 := HBK.out.cell 0
  have HNO : Hid (∀ W, NoC W none) := fun W => .inl rfl
  clear hbb
  by_cases k1 : ki = 1
  · subst k1
    have c3 := HBK.out.cell 3
    have c6 := HBK.out.cell 6
    go_enter Try.func21, Try.ntmps21
    go_wp2_with (first
      | (go_at_call 13; (with_reducible refine (Set_noc (HNO.out _) _ _).mono ?_); rintro e wn ⟨rfl, rfl⟩)
      | (go_at_call 47; (with_reducible refine (rSet_noc _ _ _).mono ?_); rintro e wn ⟨rfl, rfl⟩)
      | (go_at_call 9; (with_reducible refine (num_any _ _).mono ?_); rintro e wn ⟨rfl, rfl⟩))
    go_ret
    exact ⟨rfl, HBB.out⟩
  · by_cases k2 : ki = 2
    · subst k2
      clear k1
      go_enter Try.func21, Try.ntmps21
      go_wp2
      go_region_held3 (fun W1 => W1.cell? ⟨w.heap.size, 5, none⟩ = some (.string nm) ∧ W1.cell? ⟨w.heap.size, 6, none⟩ = some (.int .i64 tm))
        (exact ⟨HBK.out.cell 5, HBK.out.cell 6⟩)
        (first
          | (go_at_call 15; (with_reducible refine (Hold_noc (HNO.out _) _ _).mono ?_); rintro e wn ⟨rfl, rfl⟩)
          | (go_at_call 18; (with_reducible refine (rHold_noc _ _ _).mono ?_); rintro e wn ⟨rfl, rfl⟩)
          | (go_at_call 9; (with_reducible refine (num_any _ _).mono ?_); rintro e wn ⟨rfl, rfl⟩))
      all_goals go_simp
      all_goals go_wp2
      all_goals go_ret
      all_goals exact ⟨rfl, HBB.out.drew⟩
    · by_cases k3 : ki = 3
      · subst k3
        clear k1 k2
        go_enter Try.func21, Try.ntmps21
        go_wp2
        go_region_held3 (fun W1 => W1.cell? ⟨w.heap.size, 5, none⟩ = some (.string nm))
          (exact HBK.out.cell 5)
          (first
            | (go_at_call 14; (with_reducible refine (Free_noc (HNO.out _) _).mono ?_); rintro e wn ⟨rfl, rfl⟩)
            | (go_at_call 42; (with_reducible refine (rFree_noc _ _).mono ?_); rintro e wn ⟨rfl, rfl⟩))
        all_goals go_simp
        all_goals go_wp2
        all_goals go_ret
        all_goals exact ⟨rfl, HBB.out.drew⟩
      · have d1 : (ki == 1) = false := beq_eq_false_iff_ne.2 k1
        have d2 : (ki == 2) = false := beq_eq_false_iff_ne.2 k2
        have d3 : (ki == 3) = false := beq_eq_false_iff_ne.2 k3
        clear k1 k2 k3
        by_cases k4 : ki = 4
        · subst k4
          have HTE := Lib.hid (tells_no (w := w.alloc (.cells #[.int .i64 4, .int .i64 wh, .int .i64 to, .int .i64 sr, .int .i64 lv, .string nm, .int .i64 tm] 30)) (HNO.out _))
          go_enter Try.func21, Try.ntmps21
          go_wp2_with (first
            | (go_at_call 22; (with_reducible refine HTE.out.mono ?_); rintro e w1 ⟨rfl, hb⟩; have HB := Lib.hid (HBB.out.trans (hb.mono HBB.out.size)); clear hb))
          go_ret
          exact ⟨rfl, HB.out⟩
        · have d4 : (ki == 4) = false := beq_eq_false_iff_ne.2 k4
          clear k4
          by_cases k5 : ki = 5
          · subst k5
            have c4 := HBK.out.cell 4
            have HTE := Lib.hid (goes_no (w := w.alloc (.cells #[.int .i64 5, .int .i64 wh, .int .i64 to, .int .i64 sr, .int .i64 lv, .string nm, .int .i64 tm] 30)) (HNO.out _) lv)
            go_enter Try.func21, Try.ntmps21
            go_wp2_with (first
              | (go_at_call 23; (with_reducible refine HTE.out.mono ?_); rintro e w1 ⟨rfl, hb⟩; have HB := Lib.hid (HBB.out.trans (hb.mono HBB.out.size)); clear hb))
            go_ret
            exact ⟨rfl, HB.out⟩
          · have d5 : (ki == 5) = false := beq_eq_false_iff_ne.2 k5
            clear k5
            go_enter Try.func21, Try.ntmps21
            go_wp2
            go_ret
            exact ⟨rfl, HBB.out⟩
/-- No clock, or a clock and the document's. -/
def PO (w : World) (X : Nat → Prop) (p r : Option Addr) (B : Nat) : Prop :=
  (p = none ∧ r = none) ∨ ∃ c d nb L H, p = some ⟨c, 0, none⟩ ∧ r = some ⟨d, 0, none⟩ ∧ PrS w X c d nb L H B ∧ allT L = true
theorem allT_iff {L : List Int} : allT L = true ↔ ∀ x ∈ L, isTime x = true := by unfold allT; rw [List.all_eq_true]
theorem isTime_iff {t : Int} : isTime t = true ↔ -4611686018427387904 ≤ t ∧ t ≤ 4611686018427387904 := by unfold isTime; simp
theorem allT_setL {L : List Int} (h : allT L = true) (s t : Int) : allT (setL L s t) = true := by
  rw [allT_iff] at h ⊢
  intro x hx
  obtain ⟨i, hi⟩ := List.getElem?_of_mem hx
  rw [setL_at] at hi
  rcases hL : L[i]? with _ | y
  · rw [hL] at hi; cases hi
  · rw [hL] at hi
    have hy := h y (List.mem_of_getElem? hL)
    simp only [Option.map_some, Option.some.injEq] at hi
    rw [isTime_iff] at hy
    split at hi
    · rename_i ht
      have := isTime_iff.1 ht.2
      subst hi
      exact isTime_iff.2 ⟨by omega, by omega⟩
    · subst hi
      exact isTime_iff.2 hy
section
variable {w w' : World} {X Y : Nat → Prop} {p r : Option Addr} {B : Nat}
theorem PO.keep (h : PO w X p r B) (ho : Only Y w w') (hd : ∀ k, X k → ¬ Y k) : PO w' X p r B :=
  h.imp id fun ⟨c, d, nb, L, H, h1, h2, h3, h4⟩ => ⟨c, d, nb, L, H, h1, h2, h3.keep ho hd, h4⟩
theorem PO.below (h : PO w X p r B) (hb : Below w.heap.size w w') : PO w' X p r B := h.keep (Only.of_below (X := fun _ => False) hb) fun _ _ h => h
theorem PO.more {B' : Nat} (h : PO w X p r B) (hb : B ≤ B') : PO w X p r B' :=
  h.imp id fun ⟨c, d, nb, L, H, h1, h2, h3, h4⟩ => ⟨c, d, nb, L, H, h1, h2, h3.more hb, h4⟩
theorem PO.plays (h : PO w X p r B) (s : Sp) (hs : s.name.size ≤ maxLen) (hB : B ≤ 4398046511102) :
    Calls Try.prog 21 #[.pointer p, .pointer r, .agg s.cells.toArray] w fun e w' => e = .returned (.bool true) ∧ PO w' (Xt X w w') p r (B + 2) ∧ Only X w w' := by
  rcases h with ⟨rfl, rfl⟩ | ⟨c, d, nb, L, H, rfl, rfl, h3, h4⟩
  · refine (plays_no w s.kind s.who s.to_ s.src s.leave s.tm s.name).mono ?_
    rintro e w' ⟨he, hb⟩
    exact ⟨he, .inl ⟨rfl, rfl⟩, Only.of_below hb⟩
  · refine (plays_yes h3 s hs hB).mono ?_
    rintro e w' ⟨he, hq, ho⟩
    refine ⟨he, .inr ⟨c, d, nb, _, _, rfl, rfl, hq, ?_⟩, ho⟩
    unfold stM
    split
    · exact allT_setL h4 _ _
    · exact h4
theorem PO.tells (h : PO w X p r B) : Calls Try.prog 22 #[.pointer p, .pointer r] w fun e w' => e = .returned (.bool true) ∧ Below w.heap.size w w' := by
  rcases h with ⟨rfl, rfl⟩ | ⟨c, d, nb, L, H, rfl, rfl, h3, h4⟩
  · exact tells_no (.inl rfl)
  · exact tells_yes h3
theorem PO.goes (h : PO w X p r B) (hB : B ≤ 4398046511104) (lv : Int) : Calls Try.prog 23 #[.pointer p, .pointer r, .int .i64 lv] w fun e w' => e = .returned (.bool true) ∧ Below w.heap.size w w' := by
  rcases h with ⟨rfl, rfl⟩ | ⟨c, d, nb, L, H, rfl, rfl, h3, h4⟩
  · exact goes_no (.inl rfl) lv
  · obtain ⟨T, ht, Xc, Xr, n, hc, hr, h1, h2, _⟩ := h3.ex
    exact goes_yes hc hr ht (by omega) (fun x hx => (h3.ok x hx).1) lv
end
end Go.Proofs.Ytdndljbagjfkkaa
