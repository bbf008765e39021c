/- ClockTells, walked. -/
import Derived.Test.YtdndljbagjfkkaaTl1
namespace Go.Proofs.Ytdndljbagjfkkaa
open Go.RowKit Go.Lib

theorem sources_n (src : Int) : ∃ n : Nat, wrap64 ((wrap64 (src.tmod 64 + 64)).tmod 64 + 1) = (n : Int) ∧ 0 < n ∧ n ≤ 64 := by
  have h1 := Int.tmod_lt_of_pos src (show (0 : Int) < 64 by decide)
  have h2 := Int.lt_tmod_of_pos src (show (0 : Int) < 64 by decide)
  have e1 : wrap64 (src.tmod 64 + 64) = src.tmod 64 + 64 := by unfold wrap64; omega
  rw [e1]
  have h3 := Int.tmod_eq_emod_of_nonneg (a := src.tmod 64 + 64) (b := 64) (by omega)
  rw [h3]
  have e2 : wrap64 ((src.tmod 64 + 64) % 64 + 1) = (src.tmod 64 + 64) % 64 + 1 := by unfold wrap64; omega
  rw [e2]
  exact ⟨((src.tmod 64 + 64) % 64 + 1).toNat, by omega, by omega, by omega⟩
theorem Ks.start {W w0 w1 w2 w3 : World} {c d hi : Nat} {L : List Int} (hb0 : Below W.heap.size W w0) (h1 : Ck w1 (Nw w0 w1) c L 0 (fun _ => none)) (b1 : Below w0.heap.size w0 w1) (h2 : Ck w2 (Nw w1 w2) d L 0 (fun _ => none)) (b2 : Below w1.heap.size w1 w2)
    (h3 : Ck w3 (Nw w2 w3) hi L 0 (fun _ => none)) (b3 : Below w2.heap.size w2 w3) : Ks W w3 (Nw W w3) c d hi L L L (fun _ => none) (fun _ => none) 0 := by
  have s0 := hb0.size
  have s1 := b1.size
  have s2 := b2.size
  have s3 := b3.size
  refine ⟨⟨Nw w0 w1, Nw w1 w2, Nw w2 w3, 0, 0, (h1.below b2).below b3, h2.below b3, h3, Nat.le_refl _, Nat.le_refl _, ?_, ?_, ?_, ?_, ?_, ?_⟩, fun k hk => hk, ((hb0.trans (b1.mono s0)).trans (b2.mono (by omega))).trans (b3.mono (by omega)), by decide⟩ <;>
  · unfold Nw
    intro k h
    omega
theorem fold_take {L0 : List Int} {l : List Sp} {k : Nat} {s : Sp} (h : l[k]? = some s) : (l.take (k + 1)).foldl stM L0 = stM ((l.take k).foldl stM L0) s := by
  have hk := (List.getElem?_eq_some_iff.1 h).1
  have he : l[k] = s := by rw [List.getElem?_eq_getElem hk] at h; exact Option.some.inj h
  rw [List.take_succ_eq_append_getElem hk, List.foldl_append, he]
  rfl
theorem IsOut.holdLow {L : List Int} {T : ByteArray → Option Int} {o o' : Int} {s : ByteArray} {t : Int} (hT : T s = none) (h : IsOut L T o) (h' : IsOut L (holdT T s t) o') : o' ≤ o := by
  unfold holdT at h'
  split at h'
  · exact h.held hT h'
  · exact Int.le_of_eq (h'.uniq h)
theorem IsOut.holdHigh {L : List Int} {T : ByteArray → Option Int} {o o' : Int} {s : ByteArray} {t : Int} (h : IsOut L T o) (h' : IsOut L (holdT T s t) o') (ht : mnL L ≤ t) : o ≤ o' := by
  unfold holdT at h'
  split at h'
  · exact h.high h' ht
  · exact Int.le_of_eq (h.uniq h')
/-- What the first loop keeps. -/
def Lp (W : World) (c d hi : Nat) (L0 : List Int) (l : List Sp) (k : Nat) (w : World) : Prop := ∃ M Lh Tc Th, Ks W w M c d hi ((l.take k).foldl stM L0) L0 Lh Tc Th (2 * k)
/-- What the second loop keeps. -/
def Lq (W : World) (c d hi : Nat) (L0 : List Int) (l : List Sp) (j : Nat) (w : World) : Prop := ∃ M Lh Tc Th, Ks W w M c d hi ((l.take 400).foldl stM L0) (((l.take 400).drop j).foldr (fun s L => stM L s) L0) Lh Tc Th 800
theorem fold_lt {L0 : List Int} {l : List Sp} {i : Nat} {s : Sp} (h : l[i]? = some s) (hi : i < 400) : ((l.take 400).drop i).foldr (fun s L => stM L s) L0 = stM (((l.take 400).drop (i + 1)).foldr (fun s L => stM L s) L0) s := by
  have h2 : (l.take 400)[i]? = some s := by rw [List.getElem?_take_of_lt hi]; exact h
  have hk := (List.getElem?_eq_some_iff.1 h2).1
  have he : (l.take 400)[i] = s := by rw [List.getElem?_eq_getElem hk] at h2; exact Option.some.inj h2
  rw [List.drop_eq_getElem_cons hk, he, List.foldr_cons]
theorem fold_ge {L0 : List Int} {l : List Sp} {i : Nat} (hi : 400 ≤ i) : ((l.take 400).drop i).foldr (fun s L => stM L s) L0 = ((l.take 400).drop (i + 1)).foldr (fun s L => stM L s) L0 := by
  rw [List.drop_eq_nil_of_le (by simp; omega), List.drop_eq_nil_of_le (by simp; omega)]
theorem Lq.start {W w : World} {c d hi k : Nat} {L0 : List Int} {l : List Sp} (h : Lp W c d hi L0 l k w) (hk : k ≤ 400) (he : k = l.length ∨ k = 400) : Lq W c d hi L0 l l.length w := by
  obtain ⟨M, Lh, Tc, Th, h⟩ := h
  refine ⟨M, Lh, Tc, Th, ?_⟩
  have e1 : l.take 400 = l.take k := by
    rcases he with rfl | rfl
    · rw [List.take_of_length_le hk, List.take_of_length_le (Nat.le_refl _)]
    · rfl
  rw [e1, List.drop_eq_nil_of_le (by simp; omega)]
  exact h.more (by omega) (by omega)
set_option maxRecDepth 100000 in
set_option maxHeartbeats 4000000 in
theorem clockTells_any (src : Int) (A : Option Addr) (len cap : Nat) (l : List Sp) (W : World) (hr : Rd W (.slice A len cap) len (spc l)) (hl : l.length = len) (hs : ∀ s ∈ l, s.name.size ≤ maxLen) :
    Calls Try.prog 3 #[.int .i64 src, .slice A len cap] W fun e w' => e = .returned (.bool true) ∧ Below W.heap.size W w' := by
  have HKN := Lib.hid (known_any W)
  have HNUM := Lib.hid num_any
  obtain ⟨n, hn, hn0, hn64⟩ := sources_n src
  have HN0 := Lib.hid hn0
  have HN64 := Lib.hid hn64
  have hlm : len ≤ maxLen := by obtain ⟨_, _, hv, h1, h2, _⟩ := hr; cases hv; omega
  unfold maxLen at hlm
  have HR := Lib.hid hr
  have HL := Lib.hid hl
  have HS := Lib.hid hs
  clear hn0 hn64 hr hl hs
  obtain ⟨L0, hL0⟩ : ∃ L0, List.replicate n (-4611686018427387904 : Int) = L0 := ⟨_, rfl⟩
  have HNW : Hid (∀ w : World, Calls Try.prog 8 #[.int .i64 (n : Int)] w fun e w' => ∃ c, e = .returned (.tuple #[.pointer (some ⟨c, 0, none⟩), .int .i64 0]) ∧ Ck w' (Nw w w') c L0 0 (fun _ => none) ∧ Below w.heap.size w w') := fun w => by rw [← hL0]; exact New_ok n w HN0.out HN64.out
  clear hL0
  go_enter Try.func3, Try.ntmps3
  go_wp2_with (first
    | (go_at_call 7; (with_reducible refine HKN.out.mono ?_); rintro e w0 ⟨rfl, hb0⟩; have HB0 := Lib.hid hb0; clear hb0)
    | (go_at_call 9; (with_reducible refine (HNUM.out _ _).mono ?_); rintro e wn ⟨rfl, rfl⟩)
    | (have HX := HC2; go_at_call 8; (with_reducible refine (HNW.out _).mono ?_); rintro e w3 ⟨hi, rfl, h3, b3⟩
       have HK := Lib.hid (Ks.start HB0.out HC1.out HB1.out HC2.out HB2.out h3 b3)
       clear HX h3 b3)
    | (have HX := HC1; go_at_call 8; (with_reducible refine (HNW.out _).mono ?_); rintro e w2 ⟨d, rfl, h2, b2⟩
       have HC2 := Lib.hid h2; have HB2 := Lib.hid b2; clear HX h2 b2)
    | (go_at_call 8; (with_reducible refine (HNW.out _).mono ?_); rintro e w1 ⟨c, rfl, h1, b1⟩
       have HC1 := Lib.hid h1; have HB1 := Lib.hid b1; clear h1 b1))
  go_loopw [12] (fun iv wr => ∃ k : Nat, iv = .int .i64 k ∧ k ≤ len ∧ k ≤ 400 ∧ Lp W c d hi L0 l k wr) (fun iv _ => 400 - (intOf iv).toNat)
  case atStart => exact ⟨0, rfl, Nat.zero_le _, Nat.zero_le _, _, _, _, _, HK.out⟩
  case round =>
    obtain ⟨k, rfl, hkl, hk4, hlp⟩ := hrel
    have HLP := Lib.hid hlp
    clear HK HNW hlp
    by_cases hgo : k < len ∧ k < 400
    · obtain ⟨h1, h2⟩ := hgo
      have d1 : decide (k < len) = true := by simpa using h1
      have d2 : decide (k < 400) = true := by simpa using h2
      obtain ⟨M, Lh, Tc, Th, hk⟩ := HLP.out
      obtain ⟨s, hsk⟩ : ∃ s, l[k]? = some s := ⟨_, List.getElem?_eq_getElem (by rw [HL.out]; exact h1)⟩
      have HSK := Lib.hid hsk
      have hrr := HR.out.below hk.bl
      obtain ⟨_, _, hv, _, _, hrr⟩ := hrr
      cases hv
      obtain ⟨g, off, rfl, _, hcell⟩ := hrr (by omega)
      have y0 := hcell _ _ (spc_at hsk 0 _ rfl)
      have y1 := hcell _ _ (spc_at hsk 1 _ rfl)
      have y2 := hcell _ _ (spc_at hsk 2 _ rfl)
      have y3 := hcell _ _ (spc_at hsk 3 _ rfl)
      have y4 := hcell _ _ (spc_at hsk 4 _ rfl)
      have y5 := hcell _ _ (spc_at hsk 5 _ rfl)
      have y6 := hcell _ _ (spc_at hsk 6 _ rfl)
      simp only [Nat.add_zero, ← Nat.add_assoc] at y0 y1 y2 y3 y4 y5 y6
      have hnm := HS.out s (List.mem_of_getElem? hsk)
      have HNM := Lib.hid hnm
      have HK := Lib.hid hk
      clear hsk hcell hnm hk hrr
      obtain ⟨wz, rfl⟩ : ∃ wz, wz = wr := ⟨_, rfl⟩
      have HNL : Hid (¬ M wz.heap.size) := fun h => by have := (HK.out.inM _ h).2; omega
      have hbz := below_alloc wz (.cells #[.int .i64 s.kind, .int .i64 s.who, .int .i64 s.to_, .int .i64 s.src, .int .i64 s.leave, .string s.name, .int .i64 s.tm] 30)
      have hrs : Rs W (wz.alloc (.cells #[.int .i64 s.kind, .int .i64 s.who, .int .i64 s.to_, .int .i64 s.src, .int .i64 s.leave, .string s.name, .int .i64 s.tm] 30)) M wz.heap.size s c d hi ((l.take k).foldl stM L0) L0 Lh Tc Th (2 * k) := ⟨HK.out.next hbz, Bk.new _ _ _, HNL.out⟩
      obtain ⟨wa, hwa⟩ : ∃ wa, wz.alloc (.cells #[.int .i64 s.kind, .int .i64 s.who, .int .i64 s.to_, .int .i64 s.src, .int .i64 s.leave, .string s.name, .int .i64 s.tm] 30) = wa := ⟨_, rfl⟩
      rw [hwa] at hrs
      have HWA := Lib.hid hwa
      replace HK := Lib.hid hrs
      have HFT := Lib.hid (fold_take (L0 := L0) HSK.out)
      obtain ⟨Lc, hLc⟩ : ∃ Lc, (l.take k).foldl stM L0 = Lc := ⟨_, rfl⟩
      rw [hLc] at HK HFT
      have HLN := Lib.hid HK.out.ks.len.1.1
      have HLM := Lib.hid HK.out.ks.len.1.2
      have HLH := Lib.hid HK.out.ks.len.2.2.1
      have z0 := HK.out.c0
      have z3 := HK.out.c3
      have z5 := HK.out.c5
      have z6 := HK.out.c6
      clear HNL hbz hrs hwa hLc
      by_cases hk1 : s.kind = 1
      · have k1 : (s.kind == 1) = true := by simpa using hk1
        have hstM : stM Lc s = setL Lc s.src s.tm := by unfold stM; rw [if_pos hk1]
        have HST := Lib.hid hstM
        have hdm : decide (mnL (setL Lc s.src s.tm) < mnL Lc) = false := by have := mnL_setL HLN.out s.src s.tm; simpa using this
        obtain ⟨m, hm⟩ : ∃ m, Lc.length = m := ⟨_, rfl⟩
        have HM := Lib.hid hm
        have hm64 : m ≤ 64 := by rw [← hm]; exact HLM.out
        clear hk1 hstM hm
        go_wp2_with (first
          | (have HX := HW3; go_at_call 12; (with_reducible refine (HK.out.ks.marksc).mono ?_); rintro e wf ⟨v2, rfl, hb, ho⟩
             rw [setL_length, HM.out] at ho
             obtain ⟨A2, c2, rfl, _, _⟩ := ownsRow_shape ho
             have HNOW := Lib.hid (Rd.of_owns ho)
             have HWAS := Lib.hid (Rd.of_owns (own_below HW3.out hb))
             replace HK := Lib.hid (HK.out.next hb)
             clear HX ho hb)
          | (go_at_call 12; (with_reducible refine (HK.out.ks.marksc).mono ?_); rintro e wd ⟨v1, rfl, hb, ho⟩
             rw [HM.out] at ho
             obtain ⟨A1, c1, rfl, hc1, hc2⟩ := ownsRow_shape ho
             have HW1 := Lib.hid ho
             have HWN : Hid (∀ r, (Value.slice A1 m c1).ownBlock = some r → ¬ M r) := fun r e hm => by have h1 := (HW1.out.lt r e).1; have h2 := (HK.out.ks.inM r hm).2; omega
             replace HK := Lib.hid (HK.out.next hb)
             replace z0 := HK.out.c0
             replace z3 := HK.out.c3
             replace z5 := HK.out.c5
             replace z6 := HK.out.c6
             clear ho hb)
          | (go_at_call 13; (with_reducible refine (HK.out.ks.setc _ _).mono ?_); rintro e wd ⟨⟨vs, rfl⟩, hk, ho⟩
             have HW2 := Lib.hid (own_only HW1.out ho HWN.out)
             replace HK := Lib.hid (HK.out.on ho hk)
             replace z0 := HK.out.c0
             replace z3 := HK.out.c3
             replace z5 := HK.out.c5
             replace z6 := HK.out.c6
             clear hk ho)
          | (go_at_call 13; (with_reducible refine (HK.out.ks.seth _ _).mono ?_); rintro e we ⟨⟨vt, rfl⟩, hk, ho⟩
             have HW3 := Lib.hid (own_only HW2.out ho HWN.out)
             replace HK := Lib.hid (HK.out.on ho hk)
             replace z0 := HK.out.c0
             replace z3 := HK.out.c3
             replace z5 := HK.out.c5
             replace z6 := HK.out.c6
             clear hk ho)
          | (go_at_call 10; rw [HWA.out]; (with_reducible refine (HK.out.ks.markc).mono ?_); rintro e wn ⟨rfl, rfl⟩; clear y0 y1 y2 y3 y4 y5 y6)
          | (go_at_call 10; (with_reducible refine (HK.out.ks.markc).mono ?_); rintro e wn ⟨rfl, rfl⟩)
          | (go_at_call 11; (with_reducible refine (HK.out.ks.outc).mono ?_); rintro e wb ⟨⟨oc, rfl, ho⟩, hb⟩
             have HO1 := Lib.hid ho
             replace HK := Lib.hid (HK.out.next hb)
             replace z0 := HK.out.c0
             replace z3 := HK.out.c3
             replace z5 := HK.out.c5
             replace z6 := HK.out.c6
             clear ho hb)
          | (go_at_call 11; (with_reducible refine (HK.out.ks.outh).mono ?_); rintro e wc ⟨⟨oh, rfl, ho⟩, hb⟩
             have HO2 := Lib.hid ho
             replace HK := Lib.hid (HK.out.next hb)
             replace z0 := HK.out.c0
             replace z3 := HK.out.c3
             replace z5 := HK.out.c5
             replace z6 := HK.out.c6
             clear ho hb))
        have HHI : Hid (∀ o, IsOut (setL Lh s.src s.tm) Th o → oh ≤ o) := fun o ho => HO2.out.set_mono ho (mnL_setL HLH.out _ _)
        obtain ⟨LC, hLC⟩ : ∃ LC, setL Lc s.src s.tm = LC := ⟨_, rfl⟩
        have HLE : Hid (∀ (j : Nat) (x y : Int), Lc[j]? = some x → LC[j]? = some y → x ≤ y) := fun j x y hx hy => by rw [← hLC] at hy; exact setL_le hx hy
        have HLC : Hid (LC.length = m) := by show _ = _; rw [← hLC, setL_length]; exact HM.out
        rw [hLC] at hdm HK HNOW HST
        clear hLC
        go_loopw [19] (fun jv wr => ∃ j : Nat, jv = .int .i64 j ∧ j ≤ m ∧ Below wf.heap.size wf wr) (fun jv _ => m - (intOf jv).toNat)
        case atStart => exact ⟨0, rfl, Nat.zero_le _, Below.refl _ _⟩
        case round =>
          obtain ⟨j, rfl, hj, hbj⟩ := hrel
          have HBJ := Lib.hid hbj
          by_cases hjm : j < m
          · have e1 : decide (j < m) = true := by simpa using hjm
            have hji : (j : Int) < (m : Int) := by omega
            obtain ⟨x, hx⟩ : ∃ x, Lc[j]? = some x := ⟨_, List.getElem?_eq_getElem (by have := HM.out; omega)⟩
            obtain ⟨y, hy⟩ : ∃ y, LC[j]? = some y := ⟨_, List.getElem?_eq_getElem (by have := HLC.out; omega)⟩
            have hxy := HLE.out j x y hx hy
            have dxy : decide (y < x) = false := by simpa using hxy
            have ra := HWAS.out.below hbj
            have rb := HNOW.out.below hbj
            obtain ⟨_, _, hva, _, _, ra⟩ := ra
            cases hva
            obtain ⟨_, _, hvb, _, _, rb⟩ := rb
            cases hvb
            obtain ⟨qa, oa, rfl, _, ra⟩ := ra (by omega)
            obtain ⟨qb, ob, rfl, _, rb⟩ := rb (by omega)
            have za := ra j _ (ic_at hx)
            have zb := rb j _ (ic_at hy)
            clear ra rb hx hy hbj hxy
            go_wp2
            go_region
            all_goals go_outline
            go_wp2
            go_roundw
            case rel => exact ⟨j + 1, by go_num, by omega, HBJ.out.drew⟩
            case measure => simp [intOf]; omega
          · obtain rfl : j = m := by omega
            have e1 : decide (j < j) = false := by simp
            replace HK := Lib.hid (HK.out.next hbj)
            clear hbj
            go_wp2_with (first
              | (go_at_call 10; rw [HWA.out]; (with_reducible refine (HK.out.ks.markc).mono ?_); rintro e wn ⟨rfl, rfl⟩; clear y0 y1 y2 y3 y4 y5 y6)
              | (go_at_call 10; (with_reducible refine (HK.out.ks.markc).mono ?_); rintro e wn ⟨rfl, rfl⟩)
              | (go_at_call 11; (with_reducible refine (HK.out.ks.outc).mono ?_); rintro e wg ⟨⟨oe, rfl, ho⟩, hb⟩
                 have hd1 : decide (mnL LC < oe) = false := by have := ho.le; simpa using this
                 replace HK := Lib.hid (HK.out.next hb)
                 replace z0 := HK.out.c0
                 replace z3 := HK.out.c3
                 replace z5 := HK.out.c5
                 replace z6 := HK.out.c6
                 clear ho hb)
              | (go_at_call 11; (with_reducible refine (HK.out.ks.outh).mono ?_); rintro e wj ⟨⟨of, rfl, ho⟩, hb⟩
                 have hd2 : decide (of < oh) = false := by have := HHI.out of ho; simpa using this
                 replace HK := Lib.hid (HK.out.next hb)
                 replace z0 := HK.out.c0
                 replace z3 := HK.out.c3
                 replace z5 := HK.out.c5
                 replace z6 := HK.out.c6
                 clear ho hb))
            go_roundw
            case rel => exact ⟨k + 1, by go_num, by omega, by omega, _, _, _, _, by rw [HFT.out, HST.out]; exact HK.out.ks.more (by omega) (by omega)⟩
            case measure => simp [intOf]; omega
      · by_cases hk2 : s.kind = 2
        · have k1 : (s.kind == 1) = false := by simpa using hk1
          have k2 : (s.kind == 2) = true := by simpa using hk2
          have HST : Hid (stM Lc s = Lc) := by show _ = _; unfold stM; rw [if_neg hk1]
          clear hk1 hk2
          go_wp2_with (first
            | (have HX := HHC; go_at_call 11; (with_reducible refine (HK.out.ks.outc).mono ?_); rintro e wk2 ⟨⟨oe, rfl, ho⟩, hb⟩
               have hd3 : decide (od < oe) = false := by have := HO3.out.holdLow (updT_same _ _ _) ho; simpa using this
               clear HX
               replace HK := Lib.hid (HK.out.next hb)
               replace z0 := HK.out.c0
               replace z3 := HK.out.c3
               replace z5 := HK.out.c5
               replace z6 := HK.out.c6
               clear ho hb)
            | (have HX := HFR; go_at_call 11; (with_reducible refine (HK.out.ks.outc).mono ?_); rintro e wk1 ⟨⟨od, rfl, ho⟩, hb⟩
               have hd0 : decide (od < oc) = false := by have := HO1.out.freed ho; simpa using this
               have HO3 := Lib.hid ho
               clear HX
               replace HK := Lib.hid (HK.out.next hb)
               replace z0 := HK.out.c0
               replace z3 := HK.out.c3
               replace z5 := HK.out.c5
               replace z6 := HK.out.c6
               clear ho hb)
            | (have HX := HFH; go_at_call 11; (with_reducible refine (HK.out.ks.outh).mono ?_); rintro e wk3 ⟨⟨o6, rfl, ho⟩, hb⟩
               have hd5 : decide (o6 < oh) = false := by have := HO2.out.freed ho; simpa using this
               have HO6 := Lib.hid ho
               clear HX
               replace HK := Lib.hid (HK.out.next hb)
               replace z0 := HK.out.c0
               replace z3 := HK.out.c3
               replace z5 := HK.out.c5
               replace z6 := HK.out.c6
               clear ho hb)
            | (go_at_call 14; (with_reducible refine (HK.out.ks.freec _ HNM.out).mono ?_); rintro e wd ⟨rfl, hk, ho⟩
               replace HK := Lib.hid (HK.out.on ho hk)
               have HFR : Hid (1 = 1) := rfl
               replace z0 := HK.out.c0
               replace z3 := HK.out.c3
               replace z5 := HK.out.c5
               replace z6 := HK.out.c6
               clear hk ho)
            | (go_at_call 14; (with_reducible refine (HK.out.ks.freeh _ HNM.out).mono ?_); rintro e wd2 ⟨rfl, hk, ho⟩
               replace HK := Lib.hid (HK.out.on ho hk)
               have HFH : Hid (1 = 1) := rfl
               replace z0 := HK.out.c0
               replace z3 := HK.out.c3
               replace z5 := HK.out.c5
               replace z6 := HK.out.c6
               clear hk ho)
            | (go_at_call 15; (with_reducible refine (HK.out.ks.holdc _ _ HNM.out (by omega)).mono ?_); rintro e we ⟨⟨vh, rfl⟩, hk, ho⟩
               replace HK := Lib.hid (HK.out.onX ho hk)
               have HHC : Hid (1 = 1) := rfl
               replace z0 := HK.out.c0
               replace z3 := HK.out.c3
               replace z5 := HK.out.c5
               replace z6 := HK.out.c6
               clear hk ho)
            | (go_at_call 10; rw [HWA.out]; (with_reducible refine (HK.out.ks.markc).mono ?_); rintro e wn ⟨rfl, rfl⟩; clear y0 y1 y2 y3 y4 y5 y6)
            | (go_at_call 10; (with_reducible refine (HK.out.ks.markc).mono ?_); rintro e wn ⟨rfl, rfl⟩)
            | (go_at_call 11; (with_reducible refine (HK.out.ks.outc).mono ?_); rintro e wb ⟨⟨oc, rfl, ho⟩, hb⟩
               have HO1 := Lib.hid ho
               replace HK := Lib.hid (HK.out.next hb)
               replace z0 := HK.out.c0
               replace z3 := HK.out.c3
               replace z5 := HK.out.c5
               replace z6 := HK.out.c6
               clear ho hb)
            | (go_at_call 11; (with_reducible refine (HK.out.ks.outh).mono ?_); rintro e wc ⟨⟨oh, rfl, ho⟩, hb⟩
               have HO2 := Lib.hid ho
               replace HK := Lib.hid (HK.out.next hb)
               replace z0 := HK.out.c0
               replace z3 := HK.out.c3
               replace z5 := HK.out.c5
               replace z6 := HK.out.c6
               clear ho hb))
          all_goals
            clear hd0 hd3 z0 z3
            go_region_held3 (fun W1 => W1.cell? ⟨wz.heap.size, 5, none⟩ = some (.string s.name) ∧ W1.cell? ⟨wz.heap.size, 6, none⟩ = some (.int .i64 s.tm))
              (first
                | exact ⟨z5, z6⟩
                | exact ⟨HK.out.c5, HK.out.c6⟩)
              (first
                | (go_at_call 10; (with_reducible refine ((HK.out.next (below_drew _)).ks.markh).mono ?_); rintro e wn ⟨rfl, rfl⟩)
                | (go_at_call 15; (with_reducible refine ((HK.out.next (below_drew _)).ks.holdh _ _ HNM.out (by omega)).mono ?_); rintro e wh ⟨⟨vi, rfl⟩, hk, ho⟩
                   replace HK := Lib.hid ((HK.out.next (below_drew _)).onX ho hk)
                   clear hk ho))
            go_wp2_with (first
              | (go_at_call 10; rw [HWA.out]; (with_reducible refine (HK.out.ks.markc).mono ?_); rintro e wn ⟨rfl, rfl⟩; clear y0 y1 y2 y3 y4 y5 y6)
              | (go_at_call 10; (with_reducible refine (HK.out.ks.markc).mono ?_); rintro e wn ⟨rfl, rfl⟩)
              | (go_at_call 11; (with_reducible refine (HK.out.ks.outc).mono ?_); rintro e wg ⟨⟨og, rfl, ho⟩, hb⟩
                 have hd1 : decide (mnL Lc < og) = false := by have := ho.le; simpa using this
                 replace HK := Lib.hid (HK.out.next hb)
                 replace z0 := HK.out.c0
                 replace z3 := HK.out.c3
                 replace z5 := HK.out.c5
                 replace z6 := HK.out.c6
                 clear ho hb)
              | (go_at_call 11; (with_reducible refine (HK.out.ks.outh).mono ?_); rintro e wj ⟨⟨of, rfl, ho⟩, hb⟩
                 have hd2 : decide (of < o6) = false := by have := HO6.out.holdHigh ho (by omega); simpa using this
                 replace HK := Lib.hid (HK.out.next hb)
                 replace z0 := HK.out.c0
                 replace z3 := HK.out.c3
                 replace z5 := HK.out.c5
                 replace z6 := HK.out.c6
                 clear ho hb))
            go_roundw
            case rel => exact ⟨k + 1, by go_num, by omega, by omega, _, _, _, _, by rw [HFT.out, HST.out]; exact HK.out.ks.more (by omega) (by omega)⟩
            case measure => simp [intOf]; omega
        · by_cases hk3 : s.kind = 3
          · have k1 : (s.kind == 1) = false := by simpa using hk1
            have k2 : (s.kind == 2) = false := by simpa using hk2
            have k3 : (s.kind == 3) = true := by simpa using hk3
            have HST : Hid (stM Lc s = Lc) := by show _ = _; unfold stM; rw [if_neg hk1]
            clear hk1 hk2 hk3
            go_wp2_with (first
              | (have HX := HFR; have HY := HO3; go_at_call 11; (with_reducible refine (HK.out.ks.outc).mono ?_); rintro e wk2 ⟨⟨oe, rfl, ho⟩, hb⟩
                 have hd1 : decide (mnL Lc < oe) = false := by have := ho.le; simpa using this
                 clear HX HY
                 replace HK := Lib.hid (HK.out.next hb)
                 replace z0 := HK.out.c0
                 replace z3 := HK.out.c3
                 replace z5 := HK.out.c5
                 replace z6 := HK.out.c6
                 clear ho hb)
              | (have HX := HFR; go_at_call 11; (with_reducible refine (HK.out.ks.outc).mono ?_); rintro e wk1 ⟨⟨od, rfl, ho⟩, hb⟩
                 have hd0 : decide (od < oc) = false := by have := HO1.out.freed ho; simpa using this
                 have HO3 := Lib.hid ho
                 clear HX
                 replace HK := Lib.hid (HK.out.next hb)
                 replace z0 := HK.out.c0
                 replace z3 := HK.out.c3
                 replace z5 := HK.out.c5
                 replace z6 := HK.out.c6
                 clear ho hb)
              | (have HX := HO2; go_at_call 11; (with_reducible refine (HK.out.ks.outh).mono ?_); rintro e wj ⟨⟨of, rfl, ho⟩, hb⟩
                 have hd2 : decide (of < oh) = false := by have := HO2.out.set_mono ho (Int.le_refl _); simpa using this
                 clear HX
                 replace HK := Lib.hid (HK.out.next hb)
                 replace z0 := HK.out.c0
                 replace z3 := HK.out.c3
                 replace z5 := HK.out.c5
                 replace z6 := HK.out.c6
                 clear ho hb)
              | (go_at_call 14; (with_reducible refine (HK.out.ks.freec _ HNM.out).mono ?_); rintro e wd ⟨rfl, hk, ho⟩
                 replace HK := Lib.hid (HK.out.on ho hk)
                 have HFR : Hid (1 = 1) := rfl
                 replace z0 := HK.out.c0
                 replace z3 := HK.out.c3
                 replace z5 := HK.out.c5
                 replace z6 := HK.out.c6
                 clear hk ho)
              | (go_at_call 10; rw [HWA.out]; (with_reducible refine (HK.out.ks.markc).mono ?_); rintro e wn ⟨rfl, rfl⟩; clear y0 y1 y2 y3 y4 y5 y6)
              | (go_at_call 10; (with_reducible refine (HK.out.ks.markc).mono ?_); rintro e wn ⟨rfl, rfl⟩)
              | (go_at_call 11; (with_reducible refine (HK.out.ks.outc).mono ?_); rintro e wb ⟨⟨oc, rfl, ho⟩, hb⟩
                 have HO1 := Lib.hid ho
                 replace HK := Lib.hid (HK.out.next hb)
                 replace z0 := HK.out.c0
                 replace z3 := HK.out.c3
                 replace z5 := HK.out.c5
                 replace z6 := HK.out.c6
                 clear ho hb)
              | (go_at_call 11; (with_reducible refine (HK.out.ks.outh).mono ?_); rintro e wc ⟨⟨oh, rfl, ho⟩, hb⟩
                 have HO2 := Lib.hid ho
                 replace HK := Lib.hid (HK.out.next hb)
                 replace z0 := HK.out.c0
                 replace z3 := HK.out.c3
                 replace z5 := HK.out.c5
                 replace z6 := HK.out.c6
                 clear ho hb))
            go_roundw
            case rel => exact ⟨k + 1, by go_num, by omega, by omega, _, _, _, _, by rw [HFT.out, HST.out]; exact HK.out.ks.more (by omega) (by omega)⟩
            case measure => simp [intOf]; omega
          · have k1 : (s.kind == 1) = false := by simpa using hk1
            have k2 : (s.kind == 2) = false := by simpa using hk2
            have k3 : (s.kind == 3) = false := by simpa using hk3
            have HST : Hid (stM Lc s = Lc) := by show _ = _; unfold stM; rw [if_neg hk1]
            clear hk1 hk2 hk3
            go_wp2_with (first
              | (have HX := HO1; go_at_call 11; (with_reducible refine (HK.out.ks.outc).mono ?_); rintro e wk2 ⟨⟨oe, rfl, ho⟩, hb⟩
                 have hd1 : decide (mnL Lc < oe) = false := by have := ho.le; simpa using this
                 clear HX
                 replace HK := Lib.hid (HK.out.next hb)
                 replace z0 := HK.out.c0
                 replace z3 := HK.out.c3
                 replace z5 := HK.out.c5
                 replace z6 := HK.out.c6
                 clear ho hb)
              | (have HX := HO2; go_at_call 11; (with_reducible refine (HK.out.ks.outh).mono ?_); rintro e wj ⟨⟨of, rfl, ho⟩, hb⟩
                 have hd2 : decide (of < oh) = false := by have := HO2.out.set_mono ho (Int.le_refl _); simpa using this
                 clear HX
                 replace HK := Lib.hid (HK.out.next hb)
                 replace z0 := HK.out.c0
                 replace z3 := HK.out.c3
                 replace z5 := HK.out.c5
                 replace z6 := HK.out.c6
                 clear ho hb)
              | (go_at_call 10; rw [HWA.out]; (with_reducible refine (HK.out.ks.markc).mono ?_); rintro e wn ⟨rfl, rfl⟩; clear y0 y1 y2 y3 y4 y5 y6)
              | (go_at_call 10; (with_reducible refine (HK.out.ks.markc).mono ?_); rintro e wn ⟨rfl, rfl⟩)
              | (go_at_call 11; (with_reducible refine (HK.out.ks.outc).mono ?_); rintro e wb ⟨⟨oc, rfl, ho⟩, hb⟩
                 have HO1 := Lib.hid ho
                 replace HK := Lib.hid (HK.out.next hb)
                 replace z0 := HK.out.c0
                 replace z3 := HK.out.c3
                 replace z5 := HK.out.c5
                 replace z6 := HK.out.c6
                 clear ho hb)
              | (go_at_call 11; (with_reducible refine (HK.out.ks.outh).mono ?_); rintro e wc ⟨⟨oh, rfl, ho⟩, hb⟩
                 have HO2 := Lib.hid ho
                 replace HK := Lib.hid (HK.out.next hb)
                 replace z0 := HK.out.c0
                 replace z3 := HK.out.c3
                 replace z5 := HK.out.c5
                 replace z6 := HK.out.c6
                 clear ho hb))
            go_roundw
            case rel => exact ⟨k + 1, by go_num, by omega, by omega, _, _, _, _, by rw [HFT.out, HST.out]; exact HK.out.ks.more (by omega) (by omega)⟩
            case measure => simp [intOf]; omega
    · have HLQ := Lib.hid (Lq.start HLP.out hk4 (by rw [HL.out]; omega))
      rw [HL.out] at HLQ
      have hend : (decide (k < len) = true ∧ decide ((400 : Int) < (len : Int)) = true ∧ k = 400) ∨ (decide (k < len) = false) := by
        by_cases h : k < len
        · exact .inl ⟨by simpa using h, by simp; omega, by omega⟩
        · exact .inr (by simpa using h)
      have hw0 : wrap64 ((len : Int) - 1) = (len : Int) - 1 := by unfold wrap64; omega
      have HCELL : Hid (∀ (i : Nat) (s : Sp) (w : World), l[i]? = some s → Below W.heap.size W w → ∃ g off, A = some ⟨g, off, none⟩ ∧ w.cell? ⟨g, off + i * 7, none⟩ = some (.int .i64 s.kind) ∧ w.cell? ⟨g, off + i * 7 + 3, none⟩ = some (.int .i64 s.src) ∧ w.cell? ⟨g, off + i * 7 + 6, none⟩ = some (.int .i64 s.tm)) := fun i s w hsi hb => by
        have hrr := HR.out.below hb
        obtain ⟨_, _, hv, _, _, hrr⟩ := hrr
        cases hv
        obtain ⟨g, off, rfl, _, hcell⟩ := hrr (by have := HL.out; have := (List.getElem?_eq_some_iff.1 hsi).1; omega)
        exact ⟨g, off, rfl, hcell _ _ (spc_at hsi 0 _ rfl), hcell _ _ (spc_at hsi 3 _ rfl), hcell _ _ (spc_at hsi 6 _ rfl)⟩
      clear HLP HKN HN0 HN64 hn hkl hk4
      obtain ⟨wz, rfl⟩ : ∃ wz, wz = wr := ⟨_, rfl⟩
      rcases hend with ⟨d1, d2, rfl⟩ | d1
      all_goals
        clear hgo
        go_wp2
        go_loopw [22] (fun iv wr => ∃ (j : Nat) (x : Int), iv = .int .i64 x ∧ x = (j : Int) - 1 ∧ j ≤ len ∧ Lq W c d hi L0 l j wr) (fun iv _ => (intOf iv + 1).toNat)
        case atStart => exact ⟨len, _, rfl, rfl, Nat.le_refl _, HLQ.out⟩
        case round =>
          obtain ⟨j, x, rfl, hx, hj, hlq⟩ := hrel
          have HQ := Lib.hid hlq
          clear HLQ hlq
          rcases j with _ | i
          · obtain rfl : x = -1 := by omega
            have hq := HQ.out
            obtain ⟨M, Lh, Tc, Th, hk⟩ := hq
            rw [List.drop_zero, ← foldlr] at hk
            obtain ⟨LC, hLC⟩ : ∃ LC, (l.take 400).foldl stM L0 = LC := ⟨_, rfl⟩
            rw [hLC] at hk
            have HK := Lib.hid hk
            obtain ⟨m, hm⟩ : ∃ m, LC.length = m := ⟨_, rfl⟩
            have HM := Lib.hid hm
            clear hx hj HQ hLC hk hm
            go_wp2_with (first
              | (go_at_call 10; (with_reducible refine (HK.out.markd).mono ?_); rintro e wn ⟨rfl, rfl⟩)
              | (go_at_call 10; (with_reducible refine (HK.out.markc).mono ?_); rintro e wn ⟨rfl, rfl⟩)
              | (go_at_call 12; (with_reducible refine (HK.out.marksd).mono ?_); rintro e wb ⟨v1, rfl, hb, ho⟩
                 rw [HM.out] at ho
                 obtain ⟨A1, c1, rfl, _, _⟩ := ownsRow_shape ho
                 have HW1 := Lib.hid ho
                 replace HK := Lib.hid (HK.out.next hb)
                 clear hb ho)
              | (go_at_call 12; (with_reducible refine (HK.out.marksc).mono ?_); rintro e wc ⟨v2, rfl, hb, ho⟩
                 rw [HM.out] at ho
                 obtain ⟨A2, c2, rfl, _, _⟩ := ownsRow_shape ho
                 have HI := Lib.hid (Ints_any A1 A2 m m c1 c2 LC LC wc (Rd.of_owns (own_below HW1.out hb)) (Rd.of_owns ho) HM.out HM.out)
                 replace HK := Lib.hid (HK.out.next hb)
                 clear hb ho)
              | (go_at_call 16; (with_reducible refine HI.out.mono ?_); rintro e wd ⟨rfl, hb⟩
                 replace HK := Lib.hid (HK.out.next hb)
                 clear hb))
            go_ret
            exact ⟨ret_bool (by simp), HK.out.bl⟩
          · obtain rfl : x = (i : Int) := by omega
            have hw1 : wrap64 ((i : Int) - 1) = (i : Int) - 1 := by unfold wrap64; omega
            obtain ⟨s, hsi⟩ : ∃ s, l[i]? = some s := ⟨_, List.getElem?_eq_getElem (by rw [HL.out]; omega)⟩
            have hq := HQ.out
            obtain ⟨M, Lh, Tc, Th, hk⟩ := hq
            obtain ⟨g, off, rfl, y0, y3, y6⟩ := HCELL.out i s wr hsi hk.bl
            have HSI := Lib.hid hsi
            have HK := Lib.hid hk
            have hil : (i : Int) < (len : Int) := by omega
            clear hx hk hsi
            by_cases hk1 : s.kind = 1
            · have k1 : (s.kind == 1) = true := by simpa using hk1
              by_cases hi4 : i < 400
              · have d4 : decide (i < 400) = true := by simpa using hi4
                have HF : Hid (((l.take 400).drop i).foldr (fun s L => stM L s) L0 = setL (((l.take 400).drop (i + 1)).foldr (fun s L => stM L s) L0) s.src s.tm) := by
                  show _ = _
                  rw [fold_lt HSI.out hi4]; unfold stM; rw [if_pos hk1]
                clear hk1 HQ
                go_wp2
                go_region_held3 (fun W1 => W1.cell? ⟨g, off + i * 7 + 3, none⟩ = some (.int .i64 s.src) ∧ W1.cell? ⟨g, off + i * 7 + 6, none⟩ = some (.int .i64 s.tm))
                  (first
                    | exact ⟨y3, y6⟩
                    | exact HS2.out)
                  ((go_at_call 13; (with_reducible refine ((HK.out.next (below_drew _)).setd _ _).mono ?_); rintro e wd ⟨⟨vs, rfl⟩, hk, ho⟩
                    have HS2 : Hid (wd.cell? ⟨g, off + i * 7 + 3, none⟩ = some (.int .i64 s.src) ∧ wd.cell? ⟨g, off + i * 7 + 6, none⟩ = some (.int .i64 s.tm)) := by
                      obtain ⟨g', off', e, -, a, b⟩ := HCELL.out i s wd HSI.out hk.bl
                      cases e
                      exact ⟨a, b⟩
                    replace HK := Lib.hid hk
                    clear hk ho))
                go_simp
                go_wp2
                go_roundw
                all_goals first
                  | exact ⟨⟨i, _, rfl, rfl, by omega, _, _, _, _, by rw [HF.out]; exact HK.out⟩, by simp [intOf]; omega⟩
                  | exact ⟨⟨i, _, rfl, rfl, by omega, _, _, _, _, by rw [HF.out]; exact HK.out⟩, by simp [intOf]⟩
                  | exact ⟨i, _, rfl, rfl, by omega, _, _, _, _, by rw [HF.out]; exact HK.out⟩
                  | (simp [intOf]; omega; done)
                  | (simp [intOf]; exact ⟨i, rfl, by omega, _, _, _, _, by rw [HF.out]; exact HK.out⟩)
                  | (simp [intOf]; done)
              · have d4 : decide (i < 400) = false := by simpa using hi4
                have HF := Lib.hid (fold_ge (L0 := L0) (l := l) (i := i) (by omega))
                clear hk1 HQ
                go_wp2
                go_roundw
                case rel => exact ⟨i, _, by go_num, rfl, by omega, _, _, _, _, by rw [HF.out]; exact HK.out⟩
                case measure => first | (simp [intOf]; omega; done) | (simp [intOf]; done)
            · have k1 : (s.kind == 1) = false := by simpa using hk1
              have HF : Hid (((l.take 400).drop i).foldr (fun s L => stM L s) L0 = ((l.take 400).drop (i + 1)).foldr (fun s L => stM L s) L0) := by
                show _ = _
                by_cases hi4 : i < 400
                · rw [fold_lt HSI.out hi4]; unfold stM; rw [if_neg hk1]
                · exact fold_ge (by omega)
              clear hk1 HQ
              go_wp2
              go_roundw
              case rel => exact ⟨i, _, by go_num, rfl, by omega, _, _, _, _, by rw [HF.out]; exact HK.out⟩
              case measure => first | (simp [intOf]; omega; done) | (simp [intOf]; done)
end Go.Proofs.Ytdndljbagjfkkaa
