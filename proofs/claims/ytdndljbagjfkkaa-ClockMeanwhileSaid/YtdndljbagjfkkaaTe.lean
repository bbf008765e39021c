/- tells: what a clock tells of itself, and the document's. -/
import Derived.Test.YtdndljbagjfkkaaCp
namespace Go.Proofs.Ytdndljbagjfkkaa
open Go.RowKit Go.Lib
section
variable {w w' : World} {X : Nat → Prop} {c : Nat} {L : List Int} {n : Nat} {T : ByteArray → Option Int} {H : List Hd}
theorem First_c (h : Ck w X c L n T) : Calls Try.prog 31 #[.pointer (some ⟨c, 0, none⟩)] w fun e w' => (∃ s t b, e = .returned (.tuple #[.string s, .int .i64 t, .bool b]) ∧ IsFirst n T s t b) ∧ Below w.heap.size w w' := by
  cases n with
  | zero =>
    refine (First_none h).mono ?_
    rintro e w' ⟨rfl, rfl⟩
    exact ⟨⟨_, _, _, rfl, .inl ⟨rfl, rfl, rfl, rfl⟩⟩, Below.refl _ _⟩
  | succ n =>
    refine (First_some h).mono ?_
    rintro e w' ⟨⟨s, t, rfl, hf⟩, hb⟩
    exact ⟨⟨s, t, true, rfl, hf⟩, hb⟩
theorem rFirst_c (h : Rc w X c L H) (ht : HT H T) : Calls Try.prog 48 #[.pointer (some ⟨c, 0, none⟩)] w fun e w' => (∃ s t b, e = .returned (.tuple #[.string s, .int .i64 t, .bool b]) ∧ IsFirst H.length T s t b) ∧ Below w.heap.size w w' := by
  cases H with
  | nil =>
    refine (rFirst_none h).mono ?_
    rintro e w' ⟨rfl, rfl⟩
    exact ⟨⟨_, _, _, rfl, .inl ⟨rfl, rfl, rfl, rfl⟩⟩, Below.refl _ _⟩
  | cons y H =>
    refine (rFirst_some h ht.asc (by simp)).mono ?_
    rintro e w' ⟨⟨b, rfl, hf⟩, hb⟩
    exact ⟨⟨_, _, _, rfl, ht.first hf⟩, hb⟩
end
theorem only_one {q : Nat} {w W : World} {B : Nat} (ho : Only (fun k => k = q) w W) (hq : B ≤ q) (hB : B ≤ w.heap.size) : Below B w W := ho.below (fun b e => by cases e; exact hq) hB
set_option maxRecDepth 100000 in
set_option maxHeartbeats 4000000 in
theorem tells_yes {w : World} {X : Nat → Prop} {c d nb : Nat} {L : List Int} {H : List Hd} {B : Nat} (h : PrS w X c d nb L H B) :
    Calls Try.prog 22 #[.pointer (some ⟨c, 0, none⟩), .pointer (some ⟨d, 0, none⟩)] w fun e w' => e = .returned (.bool true) ∧ Below w.heap.size w w' := by
  obtain ⟨T, ht, Xc, Xr, n, hc, hr, -, -, -, -, -, -, -⟩ := h.ex
  obtain ⟨_, _, _, _, _, _, hHn, _⟩ := hc.table ht
  rw [← hHn] at hc
  have hl0 := hc.ln
  have hl64 := hc.lm
  have HF1 : Hid (∀ W, Below w.heap.size w W → Calls Try.prog 31 #[.pointer (some ⟨c, 0, none⟩)] W fun e w' => (∃ s t b, e = .returned (.tuple #[.string s, .int .i64 t, .bool b]) ∧ IsFirst H.length T s t b) ∧ Below W.heap.size W w') := fun W hW => First_c (hc.below hW)
  have HF2 : Hid (∀ W, Below w.heap.size w W → Calls Try.prog 48 #[.pointer (some ⟨d, 0, none⟩)] W fun e w' => (∃ s t b, e = .returned (.tuple #[.string s, .int .i64 t, .bool b]) ∧ IsFirst H.length T s t b) ∧ Below W.heap.size W w') := fun W hW => rFirst_c (hr.below hW) ht
  have HM1 : Hid (∀ W, Below w.heap.size w W → Calls Try.prog 12 #[.pointer (some ⟨c, 0, none⟩)] W fun e w' => ∃ v', e = .returned v' ∧ Below W.heap.size W w' ∧ w'.ownsRow W.heap.size 2 1 v' L.length (ic L)) := fun W hW => Marks_any (hc.below hW)
  have HM2 : Hid (∀ W, Below w.heap.size w W → Calls Try.prog 52 #[.pointer (some ⟨d, 0, none⟩)] W fun e w' => (∃ A cap, e = .returned (.slice A L.length cap) ∧ Rd W (.slice A L.length cap) L.length (ic L)) ∧ W = w') := fun W hW => rMarks_any (hr.below hW)
  have HK1 : Hid (∀ W, Below w.heap.size w W → Calls Try.prog 10 #[.pointer (some ⟨c, 0, none⟩)] W fun e w' => e = .returned (.int .i64 (mnL L)) ∧ W = w') := fun W hW => Mark_any (hc.below hW)
  have HK2 : Hid (∀ W, Below w.heap.size w W → Calls Try.prog 49 #[.pointer (some ⟨d, 0, none⟩)] W fun e w' => e = .returned (.int .i64 (mnL L)) ∧ W = w') := fun W hW => rMark_any (hr.below hW)
  have HN1 : Hid (∀ W, Below w.heap.size w W → Calls Try.prog 32 #[.pointer (some ⟨c, 0, none⟩)] W fun e w' => e = .returned (.int .i64 (H.length : Int)) ∧ W = w') := fun W hW => Len_any (hc.below hW)
  have HN2 : Hid (∀ W, Below w.heap.size w W → Calls Try.prog 50 #[.pointer (some ⟨d, 0, none⟩)] W fun e w' => e = .returned (.int .i64 (H.length : Int)) ∧ W = w') := fun W hW => rLen_any (hr.below hW)
  have HO1 : Hid (∀ W, Below w.heap.size w W → Calls Try.prog 11 #[.pointer (some ⟨c, 0, none⟩)] W fun e w' => (∃ o, e = .returned (.int .i64 o) ∧ IsOut L T o) ∧ Below W.heap.size W w') := fun W hW => Outward_any (hc.below hW)
  have HO2 : Hid (∀ W, Below w.heap.size w W → Calls Try.prog 51 #[.pointer (some ⟨d, 0, none⟩)] W fun e w' => (∃ o, e = .returned (.int .i64 o) ∧ IsOut L T o) ∧ Below W.heap.size W w') := fun W hW => rOut_any (hr.below hW) ht
  have HLL : Hid (decide (L = L) = true) := by show _ = _; simp
  clear h ht hc hr hHn
  generalize mnL L = M at *
  generalize H.length = hn at *
  obtain ⟨m, hm⟩ : ∃ m, L.length = m := ⟨_, rfl⟩
  have HLm := Lib.hid hm
  rw [hm] at HM1 HM2 hl0 hl64
  clear hm
  obtain ⟨iI, hiI, hI0, hI1, hI2⟩ := info_parts i64Info
  go_enter Try.func22, Try.ntmps22
  go_wp2_with (first
    | (go_at_call 31; (with_reducible refine (HF1.out _ (Below.refl _ _)).mono ?_); rintro e w1 ⟨⟨s, t, b, rfl, hf⟩, hb⟩
       have HFF := Lib.hid hf
       have HB1 := Lib.hid hb
       clear hf hb)
    | (go_at_call 48; (with_reducible refine (HF2.out _ HB1.out).mono ?_); rintro e w2 ⟨⟨s', t', b', rfl, hf⟩, hb⟩
       obtain ⟨rfl, rfl, rfl⟩ := HFF.out.uniq hf
       have HB2 := Lib.hid (HB1.out.trans (hb.mono HB1.out.size))
       clear hf hb)
    | (go_at_call 12; (with_reducible refine (HM1.out _ HB2.out).mono ?_); rintro e w3 ⟨v3, rfl, hb, ho⟩
       obtain ⟨a3, c3, rfl, _, _⟩ := ownsRow_shape ho
       obtain ⟨q, rfl, hq1, hq2, _, _, _, _⟩ := ownsRow_at ho hl0
       have HO3 := Lib.hid ho
       have HB3 := Lib.hid (HB2.out.trans (hb.mono HB2.out.size))
       clear hb ho)
    | (go_at_call 12; (with_reducible refine (HM1.out _ HB3.out).mono ?_); rintro e w4 ⟨v4, rfl, hb, ho⟩
       obtain ⟨a4, c4, rfl, _, _⟩ := ownsRow_shape ho
       have HO4 := Lib.hid ho
       have HO34 := Lib.hid (own_below HO3.out hb)
       have HB4 := Lib.hid (HB3.out.trans (hb.mono HB3.out.size))
       clear hb ho)
    | (go_at_call 10; (with_reducible refine (HK1.out _ HB4.out).mono ?_); rintro e wn ⟨rfl, rfl⟩)
    | (go_at_call 49; (with_reducible refine (HK2.out _ HB4.out).mono ?_); rintro e wn ⟨rfl, rfl⟩)
    | (go_at_call 32; (with_reducible refine (HN1.out _ HB4.out).mono ?_); rintro e wn ⟨rfl, rfl⟩)
    | (go_at_call 50; (with_reducible refine (HN2.out _ HB4.out).mono ?_); rintro e wn ⟨rfl, rfl⟩)
    | (go_at_call 11; (with_reducible refine (HO1.out _ HB4.out).mono ?_); rintro e w5 ⟨⟨o, rfl, ho⟩, hb⟩
       have HOO := Lib.hid ho
       have HO35 := Lib.hid (own_below HO34.out hb)
       have HO45 := Lib.hid (own_below HO4.out hb)
       have HB5 := Lib.hid (HB4.out.trans (hb.mono HB4.out.size))
       clear hb ho)
    | (go_at_call 51; (with_reducible refine (HO2.out _ HB5.out).mono ?_); rintro e w6 ⟨⟨o', rfl, ho⟩, hb⟩
       obtain rfl := HOO.out.uniq ho
       have HO36 := Lib.hid (own_below HO35.out hb)
       have HO46 := Lib.hid (own_below HO45.out hb)
       have HB6 := Lib.hid (HB5.out.trans (hb.mono HB5.out.size))
       clear hb ho)
    | (go_at_call 52; (with_reducible refine (HM2.out _ HB6.out).mono ?_); rintro e wn ⟨⟨A6, c6, rfl, hr⟩, rfl⟩
       have HR6 := Lib.hid hr
       clear hr)
    | (go_at_call 16; (with_reducible refine (Ints_any _ _ m m c3 c6 L L _ (Rd.of_owns HO36.out) HR6.out HLm.out HLm.out).mono ?_); rintro e w7 ⟨rfl, hb⟩
       have HO37 := Lib.hid (own_mono (own_below HO36.out hb) (Nat.zero_le _))
       have HO47 := Lib.hid (own_below HO46.out hb)
       have HB7 := Lib.hid (HB6.out.trans (hb.mono HB6.out.size))
       clear hb))
  have hs3 := HB3.out.size
  have hq7 : q < w7.heap.size := (HO37.out.lt q rfl).2
  have hqw : w.heap.size ≤ q := by have := HB2.out.size; omega
  have H4q : Hid (∀ r, (Value.slice a4 m c4).ownBlock = some r → ¬ r = q) := fun r e h => by have := (HO4.out.lt r e).1; omega
  go_loopw [13] (fun iv wr => ∃ k : Nat, iv = .int .i64 (k : Int) ∧ k ≤ m ∧ Only (fun k => k = q) w7 wr ∧ ∃ xs, wr.ownsRow 0 2 1 (.slice (some ⟨q, 0, none⟩) m c3) m xs) (fun iv _ => m - (intOf iv).toNat)
  case atStart => exact ⟨0, rfl, Nat.zero_le _, Only.refl _ _, _, HO37.out⟩
  case round =>
    obtain ⟨k, rfl, hk, hon, xs, hxs⟩ := hrel
    have HN := Lib.hid hon
    have HX := Lib.hid hxs
    clear hon hxs
    by_cases hkm : k < m
    · obtain ⟨_, eg, -, hgl, -, -, hcell, hfz⟩ := ownsRow_at HX.out (by omega)
      cases eg
      obtain ⟨u0, hu0⟩ := ownsRow_cell HX.out (j := k) (by omega)
      have d0 := hcell _ _ hu0
      have f0 := hfz k
      have hki : (k : Int) < (m : Int) := by omega
      clear hcell hfz hu0
      go_wp2
      go_roundw
      case rel => exact ⟨k + 1, by go_num, by omega, HN.out.then (Only.set (X := fun k => k = q) ⟨q, k, none⟩ _ rfl wr), _, ownsRow_set HX.out _⟩
      case measure => simp [intOf]; omega
    · obtain rfl : k = m := by omega
      obtain ⟨w8, rfl⟩ : ∃ w8 : World, w8 = wr := ⟨_, rfl⟩
      go_wp2
      go_loopw [11, 14] (fun v iv wr => ∃ (j : Nat) (xs : List Value), iv = .int .i64 (j : Int) ∧ j ≤ 20 ∧ Only (fun k => k = q) w7 wr ∧ wr.ownsRow 0 2 1 v (k + j) xs ∧ ∀ g, v.ownBlock = some g → g = q ∨ w7.heap.size ≤ g) (fun _ iv _ => 20 - (intOf iv).toNat)
      case atStart => exact ⟨0, _, rfl, Nat.zero_le _, HN.out, HX.out, fun g e => by cases e; exact .inl rfl⟩
      case round =>
        obtain ⟨j, ys, rfl, hj, hon, hxs, hgq⟩ := hrel
        have HN2 := Lib.hid hon
        have HX2 := Lib.hid hxs
        have HGQ := Lib.hid hgq
        clear hon hxs hgq
        by_cases hj20 : j < 20
        · have HRD := Lib.hid (rd_lit wr #[.int .i64 99] 2 1 (by decide))
          have hji : (j : Int) < 20 := by omega
          obtain ⟨a9, c9, rfl, _, _⟩ := ownsRow_shape HX2.out
          go_wp2_with (first
            | (at_builtin; refine wpList_append_rd _ rfl (.tmp 85) (.tmp 86) 32 rfl 0 2 iI _ 1 8 Try.underlying32 hiI hI0 hI1 hI2 rfl (by decide) _ (k + j) _ rfl (HX2.out.alloc _) _ 1 1 [.int .i64 99] rfl rfl HRD.out (by simp [Value.oneCell']) (by simp only [maxLen]; omega) (by omega) (Nat.zero_le _) ?_; intro v1 w1 ho1 hg1 hat1
               have hon1 : Only (fun k => k = q) w7 w1 := (HN2.out.then (Only.of_below (below_alloc wr _))).trans (Only.of_grown (X := fun k => k = q ∨ w7.heap.size ≤ k) hg1 (fun b e => .inl (HGQ.out b e))) (fun b h => h)
               have HN3 := Lib.hid hon1
               have HX3 := Lib.hid ho1
               have HG3 : Hid (∀ g, v1.ownBlock = some g → g = q ∨ w7.heap.size ≤ g) := fun g e => by
                 rcases hat1 with h | h
                 · exact HGQ.out g (h.symm.trans e)
                 · rw [h] at e; cases e; right; have := HN2.out.size; simp; omega
               clear hon1 ho1 hg1 hat1))
          go_roundw
          case rel => exact ⟨j + 1, _, by go_num, by omega, HN3.out, HX3.out, HG3.out⟩
          case measure => simp [intOf]; omega
        · obtain rfl : j = 20 := by omega
          obtain ⟨a9, c9, rfl, _, _⟩ := ownsRow_shape HX2.out
          have HBW : Hid (Below w.heap.size w wr) := HB7.out.trans (only_one HN2.out hqw HB7.out.size)
          have HO48 := Lib.hid (own_only HO47.out HN2.out H4q.out)
          obtain ⟨N, hN⟩ : ∃ N, k + 20 = N := ⟨_, rfl⟩
          have hN20 : decide ((20 : Int) ≤ (N : Int)) = true := by simp; omega
          have hN20' : decide (20 ≤ N) = true := by simp; omega
          rw [hN]
          clear hN
          go_wp2_with (first
            | (go_at_call 52; (with_reducible refine (HM2.out _ HBW.out).mono ?_); rintro e wn ⟨⟨A9, c10, rfl, hr⟩, rfl⟩
               have HR9 := Lib.hid hr
               clear hr)
            | (go_at_call 16; (with_reducible refine (Ints_any _ _ k k c4 c10 L L _ (Rd.of_owns HO48.out) HR9.out HLm.out HLm.out).mono ?_); rintro e w9 ⟨rfl, hb⟩
               have HBX := Lib.hid (HBW.out.trans (hb.mono HBW.out.size))
               clear hb)
            | (go_at_call 12; (with_reducible refine (HM1.out _ HBX.out).mono ?_); rintro e w10 ⟨v10, rfl, hb, ho⟩
               obtain ⟨a10, c11, rfl, _, _⟩ := ownsRow_shape ho
               have HO10 := Lib.hid ho
               have HBY := Lib.hid (HBX.out.trans (hb.mono HBX.out.size))
               clear hb ho)
            | (go_at_call 52; (with_reducible refine (HM2.out _ HBY.out).mono ?_); rintro e wn ⟨⟨A11, c12, rfl, hr⟩, rfl⟩
               have HR11 := Lib.hid hr
               clear hr)
            | (go_at_call 16; (with_reducible refine (Ints_any _ _ k k c11 c12 L L _ (Rd.of_owns HO10.out) HR11.out HLm.out HLm.out).mono ?_); rintro e w12 ⟨rfl, hb⟩
               have HBZ := Lib.hid (HBY.out.trans (hb.mono HBY.out.size))
               clear hb))
          go_ret
          exact ⟨ret_bool (by simp), HBZ.out⟩
theorem rd_nil (W : World) (t : List Value) : Rd W (.slice none 0 0) 0 t := ⟨none, 0, rfl, Nat.le_refl _, by decide, fun h => absurd h (by omega)⟩
set_option maxRecDepth 100000 in
set_option maxHeartbeats 4000000 in
theorem tells_no {w : World} {p : Option Addr} (h : NoC w p) : Calls Try.prog 22 #[.pointer p, .pointer none] w fun e w' => e = .returned (.bool true) ∧ Below w.heap.size w w' := by
  have HF := Lib.hid (fun W hW => First_no (h.below (w' := W) hW))
  have HMS := Lib.hid (fun W hW => Marks_no (h.below (w' := W) hW))
  have HM := Lib.hid (fun W hW => Mark_no (h.below (w' := W) hW))
  have HL := Lib.hid (fun W hW => Len_no (h.below (w' := W) hW))
  have HO := Lib.hid (fun W hW => Outward_no (h.below (w' := W) hW))
  obtain ⟨iI, hiI, hI0, hI1, hI2⟩ := info_parts i64Info
  have hrr := Lib.hid (Below.refl w.heap.size w)
  clear h
  go_enter Try.func22, Try.ntmps22
  go_wp2_with (first
    | (go_at_call 31; (with_reducible refine (HF.out _ hrr.out).mono ?_); rintro e wn ⟨rfl, rfl⟩)
    | (go_at_call 48; (with_reducible refine (rFirst_no _).mono ?_); rintro e wn ⟨rfl, rfl⟩)
    | (go_at_call 12; (with_reducible refine (HMS.out _ hrr.out).mono ?_); rintro e wn ⟨rfl, rfl⟩)
    | (go_at_call 52; (with_reducible refine (rMarks_no _).mono ?_); rintro e wn ⟨rfl, rfl⟩)
    | (go_at_call 10; (with_reducible refine (HM.out _ hrr.out).mono ?_); rintro e wn ⟨rfl, rfl⟩)
    | (go_at_call 49; (with_reducible refine (rMark_no _).mono ?_); rintro e wn ⟨rfl, rfl⟩)
    | (go_at_call 32; (with_reducible refine (HL.out _ hrr.out).mono ?_); rintro e wn ⟨rfl, rfl⟩)
    | (go_at_call 50; (with_reducible refine (rLen_no _).mono ?_); rintro e wn ⟨rfl, rfl⟩)
    | (go_at_call 11; (with_reducible refine (HO.out _ hrr.out).mono ?_); rintro e wn ⟨rfl, rfl⟩)
    | (go_at_call 51; (with_reducible refine (rOut_no _).mono ?_); rintro e wn ⟨rfl, rfl⟩)
    | (go_at_call 16; (with_reducible refine (Ints_any none none 0 0 0 0 [] [] _ (rd_nil _ _) (rd_nil _ _) rfl rfl).mono ?_); rintro e w7 ⟨rfl, hb⟩
       have HB7 := Lib.hid hb
       clear hb))
  go_loopw [13] (fun iv wr => iv = .int .i64 0 ∧ wr = w7) (fun iv _ => 0)
  case atStart => exact ⟨rfl, rfl⟩
  case round =>
    obtain ⟨rfl, rfl⟩ := hrel
    obtain ⟨wo, rfl⟩ : ∃ wo : World, wo = wr := ⟨_, rfl⟩
    go_wp2
    go_loopw [11, 14] (fun v iv W => ∃ (j : Nat) (xs : List Value), iv = .int .i64 (j : Int) ∧ j ≤ 20 ∧ Below w.heap.size w W ∧ W.ownsRow w.heap.size 2 1 v j xs) (fun _ iv _ => 20 - (intOf iv).toNat)
    case atStart => exact ⟨0, [], rfl, Nat.zero_le _, HB7.out, World.ownsRow_nil _ _ _ _⟩
    case round =>
      obtain ⟨j, ys, rfl, hj, hb, hxs⟩ := hrel
      have HB := Lib.hid hb
      have HX2 := Lib.hid hxs
      obtain ⟨a9, c9, rfl, _, _⟩ := ownsRow_shape HX2.out
      clear hb hxs
      by_cases hj20 : j < 20
      · have HRD := Lib.hid (rd_lit wr #[.int .i64 99] 2 1 (by decide))
        have hji : (j : Int) < 20 := by omega
        have hsz := HB.out.size
        go_wp2_with (first
          | (at_builtin; refine wpList_append_rd _ rfl (.tmp 85) (.tmp 86) 32 rfl w.heap.size 2 iI _ 1 8 Try.underlying32 hiI hI0 hI1 hI2 rfl (by decide) _ j _ rfl (HX2.out.alloc _) _ 1 1 [.int .i64 99] rfl rfl HRD.out (by simp [Value.oneCell']) (by simp only [maxLen]; omega) (by omega) (by simp; omega) ?_; intro v1 w1 ho1 hg1 _
             have HOA := Lib.hid (HX2.out.alloc (.cells #[.int .i64 99] 2))
             have HB1 := Lib.hid ((HB.out.alloc hsz (.cells #[.int .i64 99] 2)).grown hg1 (by simp; omega) (fun r e => (HOA.out.lt r e).1))
             have HX3 := Lib.hid ho1
             clear ho1 hg1))
        go_roundw
        case rel => exact ⟨j + 1, _, by go_num, by omega, HB1.out, HX3.out⟩
        case measure => simp [intOf]; omega
      · obtain rfl : j = 20 := by omega
        have hN20 : decide ((20 : Int) ≤ ((20 : Nat) : Int)) = true := by simp
        go_wp2_with (first
          | (go_at_call 52; (with_reducible refine (rMarks_no _).mono ?_); rintro e wn ⟨rfl, rfl⟩)
          | (go_at_call 16; (with_reducible refine (Ints_any none none 0 0 0 0 [] [] wr (rd_nil _ _) (rd_nil _ _) rfl rfl).mono ?_); rintro e w9 ⟨rfl, hb⟩
             have HB9 := Lib.hid (HB.out.trans (hb.mono HB.out.size))
             clear hb)
          | (go_at_call 12; (with_reducible refine (HMS.out _ HB9.out).mono ?_); rintro e wn ⟨rfl, rfl⟩)
          | (go_at_call 16; (with_reducible refine (Ints_any none none 0 0 0 0 [] [] w9 (rd_nil _ _) (rd_nil _ _) rfl rfl).mono ?_); rintro e w10 ⟨rfl, hb⟩
             have HB10 := Lib.hid (HB9.out.trans (hb.mono HB9.out.size))
             clear hb))
        go_ret
        exact ⟨ret_bool (by simp), HB10.out⟩
end Go.Proofs.Ytdndljbagjfkkaa
