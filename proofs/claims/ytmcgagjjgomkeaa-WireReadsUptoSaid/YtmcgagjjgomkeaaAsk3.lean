/- The walk of WireReads. -/
import Derived.Test.YtmcgagjjgomkeaaAsk2
import Derived.Test.YtmcgagjjgomkeaaKnown3
import Derived.Test.YtmcgagjjgomkeaaRef2
namespace Go.Proofs.Ytmcgagjjgomkeaa
open Go.RowKit Go.Lib

section
variable {W0 w w' : World} {g d : Nat} {v : Value} {A : Option Addr} {m cap : Nat} {bs : List UInt8} {at_ a b : Nat}
theorem Tw.row {q : Nat} (h : Tw W0 w g d v A m cap bs a b) (hg : w.grownBy w' (some q)) (hq : W0.heap.size ≤ q) (h1 : q ≠ g) (h2 : q ≠ d) (h3 : v.ownBlock ≠ some q) : Tw W0 w' g d v A m cap bs a b :=
  ⟨⟨h.r.blk.grown hg (fun e => by cases e; exact h1 rfl), h.r.own.kept hg (.inr h3), h.r.le⟩, h.d.grown hg (fun x e => by cases e; exact ⟨hq, h2⟩), h.hg⟩
set_option maxRecDepth 100000 in
theorem asks_else (kind n : Int) (h : Tw W0 w g d v A m cap bs at_ at_) (h1 : kind ≠ 1) (h2 : kind ≠ 2) (h3 : kind ≠ 3) (h4 : kind ≠ 4) (h5 : kind ≠ 5) (h6 : kind ≠ 6) (h7 : kind ≠ 7) :
    Calls Try.prog 30 #[.pointer (some ⟨g, 0, none⟩), .pointer (some ⟨d, 0, none⟩), .agg #[.int .i64 kind, .int .i64 n]] w (AskD W0 g d v A m cap bs) := by
  have HT := Lib.hid (h.below (below_alloc w (.cells #[.int .i64 kind, .int .i64 n] 67)))
  have k1 : (kind == 1) = false := by simpa using h1
  have k2 : (kind == 2) = false := by simpa using h2
  have k3 : (kind == 3) = false := by simpa using h3
  have k4 : (kind == 4) = false := by simpa using h4
  have k5 : (kind == 5) = false := by simpa using h5
  have k6 : (kind == 6) = false := by simpa using h6
  have k7 : (kind == 7) = false := by simpa using h7
  clear h h1 h2 h3 h4 h5 h6 h7
  go_enter Try.func30, Try.ntmps30
  go_wp2
  go_ret
  exact ⟨rfl, at_, HT.out⟩
theorem asks_any (kind n : Int) (hn : n ≤ 9223372036854775807) (hm : bs.length ≤ 1099511627776) (h : Tw W0 w g d v A m cap bs at_ at_) :
    Calls Try.prog 30 #[.pointer (some ⟨g, 0, none⟩), .pointer (some ⟨d, 0, none⟩), .agg #[.int .i64 kind, .int .i64 n]] w (AskD W0 g d v A m cap bs) := by
  by_cases h1 : kind = 1
  · subst h1; exact asks_1 n h hm
  by_cases h2 : kind = 2
  · subst h2; exact asks_2 n h hm
  by_cases h3 : kind = 3
  · subst h3; exact asks_3 n h hm
  by_cases h4 : kind = 4
  · subst h4; exact asks_4 n h hm hn
  by_cases h5 : kind = 5
  · subst h5; exact asks_5 n h hm
  by_cases h6 : kind = 6
  · subst h6; exact asks_6 n h hm hn
  by_cases h7 : kind = 7
  · subst h7; exact asks_7 n h hm
  exact asks_else kind n h h1 h2 h3 h4 h5 h6 h7
end
/-- Questions qs cells. -/
def ac (l : List (Int × Int)) : List Value := l.flatMap fun x => [.int .i64 x.1, .int .i64 x.2]
theorem ac_at {l : List (Int × Int)} {k : Nat} {x : Int × Int} (h : l[k]? = some x) : (ac l)[k * 2 + 0]? = some (.int .i64 x.1) ∧ (ac l)[k * 2 + 1]? = some (.int .i64 x.2) :=
  ⟨flat_at _ 2 (fun _ => rfl) l k x h 0 _ rfl, flat_at _ 2 (fun _ => rfl) l k x h 1 _ rfl⟩
theorem ac_length (l : List (Int × Int)) : (ac l).length = l.length * 2 := flat_length _ 2 (fun _ => rfl) l
set_option maxRecDepth 100000 in
set_option maxHeartbeats 2000000 in
theorem wireReads_any (A A2 : Option Addr) (m cap l c2 : Nat) (bs : List UInt8) (qs : List (Int × Int)) (W : World) (hr : Rd W (.slice A m cap) m (bc bs)) (hm : bs.length = m) (hmax : m ≤ 1048576)
    (hr2 : Rd W (.slice A2 l c2) l (ac qs)) (hl : qs.length = l) (hok : ∀ x ∈ qs, x.2 ≤ 9223372036854775807) :
    Calls Try.prog 7 #[.slice A m cap, .slice A2 l c2] W fun e w' => e = .returned (.bool true) ∧ Below W.heap.size W w' := by
  have HLENT := Lib.hid (lent_any A m cap bs W hr hm (by omega))
  have HR := Lib.hid hr
  have HM := Lib.hid hm
  have HR2 := Lib.hid hr2
  have HL := Lib.hid hl
  have HOK := Lib.hid hok
  have HKN := Lib.hid known_any
  have hcm : l ≤ c2 ∧ c2 ≤ maxLen := by obtain ⟨_, _, hv, h1, h2, _⟩ := hr2; cases hv; exact ⟨h1, h2⟩
  obtain ⟨hcm1, hcm2⟩ := hcm
  unfold maxLen at hcm2
  clear hr hm hr2 hl hok
  go_enter Try.func7, Try.ntmps7
  go_wp2_with (first
    | (go_at_call 18; (with_reducible refine HLENT.out.mono ?_); rintro e w1 ⟨q, c, rfl, hc, hb1, ho1⟩
       have HC := Lib.hid hc
       have HB1 := Lib.hid hb1
       have HO1 := Lib.hid ho1
       have HNR := Lib.hid (NewReader_any (some ⟨q, 0, none⟩) m c bs w1 (lent_rd HM.out hc ho1) HM.out (by omega))
       clear hc hb1 ho1)
    | (go_at_call 17; (with_reducible refine HNR.out.mono ?_); rintro e w2 ⟨g, v, rfl, hb2, hg2, hr2⟩
       have HO2 := Lib.hid ((own_below HO1.out hb2).alloc (.cells #[.slice A m cap, .int .i64 0] 64))
       have hbw := HB1.out.trans (hb2.mono HB1.out.size)
       have HVQ : Hid (v.ownBlock ≠ some q) := fun e => by
         have h1 := (own_lt hr2.own e).1
         have h2 := (own_lt HO1.out (g := q) rfl).2
         omega
       have hal := below_alloc w2 (.cells #[.slice A m cap, .int .i64 0] 64)
       have HTW : Hid (Tw W (w2.alloc (.cells #[.slice A m cap, .int .i64 0] 64)) g w2.heap.size v A m cap bs 0 0) :=
         ⟨⟨hr2.blk.below hal, own_mono (own_below hr2.own hal) HB1.out.size, Nat.zero_le _⟩, ⟨Bk.new _ _ _, HR.out, HM.out, Nat.zero_le _, hbw.trans (hal.mono hbw.size), hbw.size⟩, Nat.le_trans HB1.out.size hg2⟩
       have HLEFT := Lib.hid (left_any A m cap q c W.heap.size bs (w2.alloc (.cells #[.slice A m cap, .int .i64 0] 64)) (HR.out.below HTW.out.d.bel) HM.out HC.out HO2.out (by omega))
       clear hb2 hg2 hr2 hbw hal)
    | (go_at_call 29; (with_reducible refine HLEFT.out.mono ?_); rintro e w3 ⟨rfl, rfl⟩))
  go_loopw [8] (fun i w6 => ∃ (k0 : Nat) (xs : List Value), i = .int .i64 k0 ∧ k0 ≤ m ∧ w6.ownsRow W.heap.size 5 1 (.slice (some ⟨q, 0, none⟩) (m + 2) c) (m + 2) xs ∧ Tw W w6 g w2.heap.size v A m cap bs 0 0) (fun i _ => m - (intOf i).toNat)
  case atStart => exact ⟨0, _, rfl, Nat.zero_le _, HO2.out, HTW.out⟩
  case round =>
    obtain ⟨k0, xs, rfl, hk0, hox, htw⟩ := hrel
    have HX := Lib.hid hox
    have HT := Lib.hid htw
    by_cases hkk : k0 < m
    · obtain ⟨qx, hqx, hqz, _, _, _, hcells, hfr⟩ := ownsRow_at hox (by omega)
      obtain ⟨u0, hu0⟩ := ownsRow_cell hox (j := k0) (by omega)
      cases hqx
      have zk : wr.cell? ⟨q, k0, none⟩ = some u0 := hcells k0 u0 hu0
      have fk := hfr k0
      have HQZ := Lib.hid hqz
      have HQG : Hid (q ≠ g) := fun e => own_bk_ne hox htw.r.blk (by decide) (by rw [← e]; rfl)
      have HQD : Hid (q ≠ w2.heap.size) := fun e => own_bk_ne hox htw.d.blk (by decide) (by rw [← e]; rfl)
      clear hox htw hcells hfr hu0
      go_wp2
      go_roundw
      case rel => exact ⟨k0 + 1, _, by go_num, by omega, ownsRow_set HX.out _, HT.out.row (grownBy_set wr ⟨q, k0, none⟩ _) HQZ.out HQG.out HQD.out HVQ.out⟩
      case measure => simp [intOf]; omega
    · obtain rfl : k0 = m := by omega
      clear hox htw
      generalize wr = w6 at *
      go_wp2
      go_loopw [9] (fun i w7 => ∃ (k p : Nat), i = .int .i64 k ∧ k ≤ l ∧ Tw W w7 g w2.heap.size v A k0 cap bs p p) (fun i _ => l - (intOf i).toNat)
      case atStart => exact ⟨0, 0, rfl, Nat.zero_le _, HT.out⟩
      case round =>
        generalize wr = w7 at *
        obtain ⟨k, p, rfl, hk, htw⟩ := hrel
        have HT7 := Lib.hid htw
        by_cases hkl : k < l
        · obtain ⟨x, hx⟩ : ∃ x, qs[k]? = some x := ⟨_, List.getElem?_eq_getElem (by rw [HL.out]; exact hkl)⟩
          have HN := Lib.hid (HOK.out x (List.mem_of_getElem? hx))
          have hcs : ∀ w8, Below W.heap.size W w8 → ∃ q2 off, A2 = some ⟨q2, off, none⟩ ∧ w8.cell? ⟨q2, off + k * 2, none⟩ = some (.int .i64 x.1) ∧ w8.cell? ⟨q2, off + k * 2 + 1, none⟩ = some (.int .i64 x.2) := fun w8 hb8 => by
            obtain ⟨_, _, hv, -, -, hy⟩ := HR2.out.below hb8
            cases hv
            obtain ⟨q2, off, rfl, -, hy⟩ := hy (by omega)
            exact ⟨q2, off, rfl, hy _ _ (ac_at hx).1, hy _ _ (ac_at hx).2⟩
          obtain ⟨q2, off, rfl, z0, z1⟩ := hcs w7 htw.d.bel
          have HCS : Hid (∀ w8, Below W.heap.size W w8 → w8.cell? ⟨q2, off + k * 2, none⟩ = some (.int .i64 x.1) ∧ w8.cell? ⟨q2, off + k * 2 + 1, none⟩ = some (.int .i64 x.2)) := fun w8 hb8 => by
            obtain ⟨_, _, e, h1, h2⟩ := hcs w8 hb8
            cases e
            exact ⟨h1, h2⟩
          clear htw hcs hx
          obtain ⟨x1, x2⟩ := x
          go_wp2
          go_region_with
            ((first
              | (go_at_call 30; (with_reducible refine (asks_any _ _ HN.out (by have := HM.out; omega) (HT7.out.below (below_drew _))).mono ?_); rintro e w8 ⟨rfl, p2, ht8⟩
                 have yd : w8.cell? ⟨w2.heap.size, 1, none⟩ = some (.int .i64 (p2 : Int)) := ht8.d.blk.cell 1
                 have hlf := Left_any _ _ _ _ _ _ ht8.r
                 rw [HM.out] at hlf
                 have HLF := Lib.hid hlf
                 have HT8 := Lib.hid ht8
                 clear ht8 hlf)
              | (go_at_call 26; (with_reducible refine (Place_any _ _ _ _ _ _ HT8.out.r).mono ?_); rintro e w8 ⟨rfl, rfl⟩)
              | (go_at_call 28; (with_reducible refine HLF.out.mono ?_); rintro e w9 ⟨rfl, hb9⟩; have HT9 := Lib.hid (HT8.out.below hb9); clear hb9)
              | (go_at_call 31; (with_reducible refine (dLeft_any HT9.out.d).mono ?_); rintro e w10 ⟨rfl, hb10⟩; have HT10 := Lib.hid (HT9.out.below hb10); clear hb10)))
          all_goals go_wp2
          all_goals go_roundw
          all_goals first
            | (refine ⟨k + 1, p2, ?_, ?_, HT10.out⟩; go_num; omega)
            | (simp [intOf]; done)
            | (simp [intOf]; omega)
        · obtain rfl : k = l := by omega
          clear htw
          go_wp2_with (first
            | (go_at_call 11; (with_reducible refine (HKN.out _).mono ?_); rintro e w9 ⟨rfl, hb9⟩; have HB9 := Lib.hid hb9; clear hb9))
          go_ret
          exact ⟨rfl, HT7.out.d.bel.trans (HB9.out.mono HT7.out.d.bel.size)⟩
end Go.Proofs.Ytmcgagjjgomkeaa
