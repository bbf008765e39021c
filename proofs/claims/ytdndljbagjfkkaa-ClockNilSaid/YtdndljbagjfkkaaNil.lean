/- The law ClockNil. -/
import Derived.Test.YtdndljbagjfkkaaTe
namespace Go.Proofs.Ytdndljbagjfkkaa
open Go.RowKit Go.Lib
set_option maxRecDepth 100000 in
set_option maxHeartbeats 4000000 in
theorem nothing_any {w : World} {p : Option Addr} (h : NoC w p) : Calls Try.prog 30 #[.pointer p] w fun e w' => e = .returned (.bool true) ∧ Below w.heap.size w w' := by
  have HS := Lib.hid (Set_noc h 0 1)
  have HH := Lib.hid (Hold_noc h ⟨#[97]⟩ 1)
  have HFR := Lib.hid (Free_noc h ⟨#[97]⟩)
  have HF := Lib.hid (First_no h)
  have HMS := Lib.hid (Marks_no h)
  have HM := Lib.hid (Mark_no h)
  have HL := Lib.hid (Len_no h)
  have HO := Lib.hid (Outward_no h)
  have HC := Lib.hid (Copy_no h)
  have HG := Lib.hid (goes_no h 0)
  clear h
  go_enter Try.func30, Try.ntmps30
  go_wp2_with (first
    | (go_at_call 13; (with_reducible refine HS.out.mono ?_); rintro e wn ⟨rfl, rfl⟩)
    | (go_at_call 31; (with_reducible refine HF.out.mono ?_); rintro e wn ⟨rfl, rfl⟩))
  go_wp2_with (first
    | (go_at_call 9; (with_reducible refine (num_any _ _).mono ?_); rintro e wn ⟨rfl, rfl⟩)
    | (go_at_call 15; (with_reducible refine HH.out.mono ?_); rintro e wn ⟨rfl, rfl⟩)
    | (go_at_call 14; (with_reducible refine HFR.out.mono ?_); rintro e wn ⟨rfl, rfl⟩)
    | (go_at_call 12; (with_reducible refine HMS.out.mono ?_); rintro e wn ⟨rfl, rfl⟩)
    | (go_at_call 10; (with_reducible refine HM.out.mono ?_); rintro e wn ⟨rfl, rfl⟩)
    | (go_at_call 32; (with_reducible refine HL.out.mono ?_); rintro e wn ⟨rfl, rfl⟩)
    | (go_at_call 11; (with_reducible refine HO.out.mono ?_); rintro e wn ⟨rfl, rfl⟩)
    | (go_at_call 29; (with_reducible refine HC.out.mono ?_); rintro e wn ⟨rfl, rfl⟩)
    | (go_at_call 23; (with_reducible refine HG.out.mono ?_); rintro e w1 ⟨rfl, hb⟩; have HB := Lib.hid hb; clear hb))
  go_ret
  exact ⟨rfl, HB.out⟩
set_option maxRecDepth 100000 in
set_option maxHeartbeats 4000000 in
theorem clockNil_any (w : World) : Calls Try.prog 6 #[] w fun e w' => e = .returned (.bool true) ∧ Below w.heap.size w w' := by
  have HN64 := Lib.hid (show Calls Try.prog 8 #[.int .i64 64] w _ from New_ok 64 w (by decide) (by decide))
  have HN65 := Lib.hid (fun W => New_bad 65 W (.inr (by decide)))
  have HOK := Lib.hid (fun (W : World) => Of_ok (some ⟨W.heap.size, 0, none⟩) 1 1 [4611686018427387904] (W.alloc (.cells #[.int .i64 4611686018427387904] 2)) (rd_lit W _ _ 1 (by decide)) rfl ⟨by decide, by decide, by decide⟩)
  have HBAD := Lib.hid (fun (W : World) => Of_bad (some ⟨W.heap.size, 0, none⟩) 1 1 [4611686018427387905] (W.alloc (.cells #[.int .i64 4611686018427387905] 2)) (rd_lit W _ _ 1 (by decide)) rfl (fun h => absurd h.2.2 (by decide)))
  go_enter Try.func6, Try.ntmps6
  go_wp2_with (first
    | (go_at_call 8; (with_reducible refine HN64.out.mono ?_); rintro e w1 ⟨c, rfl, -, hb⟩; have HB1 := Lib.hid hb; clear hb)
    | (go_at_call 8; (with_reducible refine (HN65.out _).mono ?_); rintro e wn ⟨rfl, rfl⟩)
    | (go_at_call 25; (with_reducible refine (HOK.out _).mono ?_); rintro e w2 ⟨c2, rfl, -, hb⟩
       have HB2 := Lib.hid (HB1.out.trans (((below_alloc w1 _).trans (hb.mono (by simp))).mono HB1.out.size))
       have HB3 := Lib.hid (HB2.out.alloc HB2.out.size (.cells #[.int .i64 4611686018427387905] 2))
       clear hb)
    | (go_at_call 25; (with_reducible refine (HBAD.out _).mono ?_); rintro e wn ⟨rfl, rfl⟩))
  have HN := Lib.hid (nothing_any (w := w2.alloc (.cells #[.int .i64 4611686018427387905] 2)) (p := none) (.inl rfl))
  have HZ : Hid (∀ W : World, Calls Try.prog 30 #[.pointer (some ⟨W.heap.size, 0, none⟩)] (W.alloc (.cells #[.slice none 0 0, .slice none 0 0, .map none] 70)) fun e w' => e = .returned (.bool true) ∧ Below (W.alloc (.cells #[.slice none 0 0, .slice none 0 0, .map none] 70)).heap.size (W.alloc (.cells #[.slice none 0 0, .slice none 0 0, .map none] 70)) w') := fun W => nothing_any (.inr ⟨_, rfl, (Bk.new W _ _).cell 2⟩)
  go_wp2_with (first
    | (go_at_call 9; (with_reducible refine (num_any _ _).mono ?_); rintro e wn ⟨rfl, rfl⟩)
    | (go_at_call 30; (with_reducible refine HN.out.mono ?_); rintro e w4 ⟨rfl, hb⟩; have HB4 := Lib.hid (HB3.out.trans (hb.mono HB3.out.size)); clear hb)
    | (go_at_call 30; (with_reducible refine (HZ.out _).mono ?_); rintro e w5 ⟨rfl, hb⟩; have HB5 := Lib.hid (HB4.out.trans (((below_alloc w4 _).trans (hb.mono (by simp))).mono HB4.out.size)); clear hb)
    | (go_at_call 7; (with_reducible refine (known_any _).mono ?_); rintro e w6 ⟨rfl, hb⟩; have HB6 := Lib.hid (HB5.out.trans (hb.mono HB5.out.size)); clear hb))
  go_ret
  exact ⟨rfl, HB6.out⟩
end Go.Proofs.Ytdndljbagjfkkaa
