/- The walk of known. -/
import Derived.Test.YtmcgagjjgomkeaaKnown2
namespace Go.Proofs.Ytmcgagjjgomkeaa
open Go.RowKit Go.Lib

theorem KText : (⟨#[97, 98]⟩ : ByteArray).data.toList = [97, 98] ∧ (⟨#[97, 98]⟩ : ByteArray).size = 2 := ⟨rfl, rfl⟩

set_option maxRecDepth 100000 in
set_option maxHeartbeats 2000000 in
theorem known_any (W : World) : Calls Try.prog 11 #[] W fun e w' => e = .returned (.bool true) ∧ Below W.heap.size W w' := by
  have HNW := Lib.hid (NewWriter2 W)
  have HNUM := Lib.hid num_any
  go_enter Try.func11, Try.ntmps11
  go_wp2_with (first
    | (go_at_call 12; (with_reducible refine HNW.out.mono ?_); rintro e w1 ⟨g, rfl, hb1, hg, hz1, hw1⟩
       have HB1 := Lib.hid hb1
       have HW1 := Lib.hid hw1
       have HG := Lib.hid hg
       have HNR := Lib.hid (NewReader_lit w1 #[.int .u8 172, .int .u8 2, .int .u8 128] 3 [172, 2, 128] (by decide) rfl rfl rfl)
       clear hb1 hw1 hg hz1)
    | (go_at_call 17; (with_reducible refine HNR.out.mono ?_); rintro e w2 ⟨gr, vr, rfl, hb2, hgr, hr2⟩
       have HS2 := Lib.hid (St_new HB1.out HG.out HW1.out hb2 hgr hr2)
       have HN3 := Lib.hid (St_Number HS2.out 300 300 rfl (by decide) (by decide))
       clear hb2 hgr hr2)
    | (go_at_call 20; (with_reducible refine (HNUM.out _ _).mono ?_); rintro e w ⟨rfl, rfl⟩)
    | (go_at_call 21; (with_reducible refine HN3.out.mono ?_); rintro e w3 ⟨rfl, v3, hs3⟩
       have HS3 := Lib.hid hs3
       have HN4 := Lib.hid (St_Signed hs3 (-1) (by decide) (by decide) (by rw [n300]; decide))
       clear hs3)
    | (go_at_call 33; (with_reducible refine HN4.out.mono ?_); rintro e w4 ⟨rfl, v4, hs4⟩
       have HS4 := Lib.hid hs4
       have HN5 := Lib.hid (St_Text hs4 ⟨#[97, 98]⟩ (by rw [n300, zig_1]; decide))
       clear hs4)
    | (go_at_call 23; (with_reducible refine HN5.out.mono ?_); rintro e w5 ⟨rfl, v5, hs5⟩
       have e5 : [] ++ num7 300 ++ num7 (zig (-1)) ++ (num7 (⟨#[97, 98]⟩ : ByteArray).size ++ (⟨#[97, 98]⟩ : ByteArray).data.toList) = [172, 2, 1, 2, 97, 98] := by rw [n300, zig_1, KText.1, KText.2, n_2]; rfl
       rw [e5] at hs5
       have HS5 := Lib.hid hs5
       have HN6 := Lib.hid ((St_Rising (hs5.step (below_alloc w5 (.cells #[.int .i64 (-1), .int .i64 0, .int .i64 5] 2))) 3 3 (some ⟨w5.heap.size, 0, none⟩) [-1, 0, 5] (rd_lit64 w5 _ 3 _ (by decide) rfl rfl) rfl hs5.lit (by intro x hx; simp at hx; unfold I64; omega) (by decide)).mono (fun e w' h => h.1 rises_known))
       clear hs5 e5)
    | (go_at_call 25; (with_reducible refine HN6.out.mono ?_); rintro e w6 ⟨rfl, v6, hs6⟩
       have e6 : [172, 2, 1, 2, 97, 98] ++ ris [-1, 0, 5] = [172, 2, 1, 2, 97, 98, 3, 1, 0, 4] := by rw [ris_known]; rfl
       rw [e6] at hs6
       have HS6 := Lib.hid hs6
       have HN7 := Lib.hid ((St_Rising (hs6.step (below_alloc w6 (.cells #[.int .i64 1, .int .i64 1] 2))) 2 2 (some ⟨w6.heap.size, 0, none⟩) [1, 1] (rd_lit64 w6 _ 2 _ (by decide) rfl rfl) rfl hs6.lit (by intro x hx; simp at hx; unfold I64; omega) (by decide)).mono (fun e w' h => h.2 not_rises_known))
       clear hs6 e6)
    | (go_at_call 25; (with_reducible refine HN7.out.mono ?_); rintro e w7 ⟨rfl, hs7⟩
       have HS7 := Lib.hid hs7
       have HN8 := Lib.hid (St_RNumber hs7 300 2 0 300 0 rd_known1 rfl rfl (by decide) (by decide))
       clear hs7)
    | (go_at_call 19; (with_reducible refine HN8.out.mono ?_); rintro e w8 ⟨rfl, hs8⟩
       have HS8 := Lib.hid hs8
       have HN9 := Lib.hid (St_RNumber hs8 0 0 110 0 110 rd_known2 rfl rfl (by decide) (by decide))
       clear hs8)
    | (go_at_call 19; (with_reducible refine HN9.out.mono ?_); rintro e w9 ⟨rfl, hs9⟩
       have HS9 := Lib.hid hs9
       have HN10 := Lib.hid (St_Place hs9 2 rfl)
       have HN11 := Lib.hid (St_Left hs9 1 rfl)
       clear hs9)
    | (go_at_call 26; (with_reducible refine HN10.out.mono ?_); rintro e w ⟨rfl, rfl⟩)
    | (go_at_call 28; (with_reducible refine HN11.out.mono ?_); rintro e w10 ⟨rfl, hs10⟩
       have HS10 := Lib.hid hs10
       have HN12 := Lib.hid (St_Bytes hs10 (by decide))
       clear hs10)
    | (go_at_call 15; (with_reducible refine HN12.out.mono ?_); rintro e w11 ⟨A, c, rfl, hs11, ho11⟩
       have hl := below_alloc w11 (.cells #[.int .u8 172, .int .u8 2, .int .u8 1, .int .u8 2, .int .u8 97, .int .u8 98, .int .u8 3, .int .u8 1, .int .u8 0, .int .u8 4] 5)
       have HS11 := Lib.hid (hs11.step hl)
       have HN13 := Lib.hid (Same_any _ A (some ⟨w11.heap.size, 0, none⟩) 10 10 c 10 [172, 2, 1, 2, 97, 98, 3, 1, 0, 4] [172, 2, 1, 2, 97, 98, 3, 1, 0, 4] ((Rd.of_owns ho11).below hl) rfl (rd_lit8 w11 #[.int .u8 172, .int .u8 2, .int .u8 1, .int .u8 2, .int .u8 97, .int .u8 98, .int .u8 3, .int .u8 1, .int .u8 0, .int .u8 4] 10 _ (by decide) rfl rfl) rfl)
       have HN14 := Lib.hid (St_Len HS11.out 10 rfl)
       clear hs11 ho11 hl)
    | (go_at_call 16; (with_reducible refine HN13.out.mono ?_); rintro e w ⟨rfl, rfl⟩)
    | (go_at_call 14; (with_reducible refine HN14.out.mono ?_); rintro e w ⟨rfl, rfl⟩))
  go_ret
  exact ⟨rfl, HS11.out.bel⟩
end Go.Proofs.Ytmcgagjjgomkeaa
