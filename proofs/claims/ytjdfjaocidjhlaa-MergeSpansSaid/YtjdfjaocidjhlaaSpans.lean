/- The walk of the law MergeSpans. -/
import Derived.Test.YtjdfjaocidjhlaaGapb
import Derived.Test.YtjdfjaocidjhlaaUnp
import Derived.Test.YtjdfjaocidjhlaaOrder
namespace Go.Proofs.Ytjdfjaocidjhlaa
open Go.RowKit Go.Shelf

/-- What both Gaps tell of some times and a gap. -/
theorem gaps_both {g : Int} (hg : 1 ≤ g) (p : List Int) : rGaps g p = gaps g (srt p) := rGaps_eq hg (srt_sorted p) fun _ => srt_mem.symm
set_option maxRecDepth 100000 in
set_option maxHeartbeats 1000000 in
theorem mergeSpans_long (a : Option Addr) (n cap : Nat) (b : Option Addr) (k cap2 : Nat) (x : Int) (h1 : cap ≤ maxLen) (h2 : n ≤ cap) (h3 : cap2 ≤ maxLen) (h4 : k ≤ cap2) (w : World) (hlen : 200 < n ∨ 200 < k) :
    Calls Try.prog 6 #[.slice a n cap, .slice b k cap2, .int .i64 x] w fun e w' => e = .returned (.bool true) ∧ Below w.heap.size w w' := by
  unfold maxLen at h1 h3
  have q1 : (n : Int) ≤ 9223372036854775807 := by omega
  have q2 : (k : Int) ≤ 9223372036854775807 := by omega
  clear h1 h2 h3 h4
  by_cases hn : 200 < n
  · have d1 : decide ((200 : Int) < (n : Int)) = true := by simp; omega
    go_enter Try.func6, Try.ntmps6
    go_wp2_with (first
      | (go_at_call 7; (with_reducible refine (known_any _).mono ?_); rintro e w1 ⟨rfl, hb1⟩))
    go_ret
    exact ⟨rfl, hb1⟩
  · have d1 : decide ((200 : Int) < (n : Int)) = false := by simp; omega
    have d2 : decide ((200 : Int) < (k : Int)) = true := by simp; omega
    go_enter Try.func6, Try.ntmps6
    go_wp2_with (first
      | (go_at_call 7; (with_reducible refine (known_any _).mono ?_); rintro e w1 ⟨rfl, hb1⟩))
    go_ret
    exact ⟨rfl, hb1⟩
/-- Both Gaps, whatever the times and the gap: the same spans, the same error's number. -/
theorem gaps_out (zs : List Int) (g : Int) (hlen : zs.length ≤ 1000) : ∃ (m : List Sn) (ev : Int), m.length ≤ zs.length ∧
    (∀ sv w, Nums w.heap.size w sv zs → Calls Try.prog 20 #[sv, .int .i64 g] w fun e w' => ∃ v, e = .returned (.tuple #[v, .int .i64 ev]) ∧ Rd w' v m.length (scells m) ∧ Below w.heap.size w w') ∧
    (∀ sv w, Nums w.heap.size w sv zs → Calls Try.prog 24 #[sv, .int .i64 g] w fun e w' => ∃ v, e = .returned (.tuple #[v, .int .i64 ev]) ∧ Rd w' v m.length (scells m) ∧ Below w.heap.size w w') := by
  have rnil : ∀ W : World, Rd W (.slice none 0 0) ([] : List Sn).length (scells []) := fun W => ⟨none, 0, rfl, Nat.le_refl _, by decide, fun h => absurd h (by simp)⟩
  by_cases hg : 1 ≤ g ∧ g ≤ 1099511627776
  · by_cases hz : ∀ t ∈ zs, gd t
    · refine ⟨gaps g (srt zs), 0, by rw [← srt_length zs]; exact gaps_len _ _, fun sv w hI => ?_, fun sv w hI => ?_⟩
      · refine (Gaps_full sv zs g hg.1 hg.2 (by omega) w hI).mono ?_
        rintro e w' ⟨hb, ⟨-, v, he, ho⟩ | ⟨hn, -⟩⟩
        · exact ⟨v, he, Rd.of_owns ho, hb⟩
        · exact absurd hz hn
      · refine (refGaps_any sv zs g hg.1 hg.2 hlen w hI).mono ?_
        rintro e w' ⟨hb, ⟨-, v, he, ho⟩ | ⟨hn, -⟩⟩
        · rw [gaps_both hg.1] at ho
          exact ⟨v, he, Rd.of_owns ho, hb⟩
        · exact absurd hz hn
    · refine ⟨[], 2, by simp, fun sv w hI => ?_, fun sv w hI => ?_⟩
      · refine (Gaps_full sv zs g hg.1 hg.2 (by omega) w hI).mono ?_
        rintro e w' ⟨hb, ⟨hy, -⟩ | ⟨-, he⟩⟩
        · exact absurd hy hz
        · exact ⟨_, he, rnil _, hb⟩
      · refine (refGaps_any sv zs g hg.1 hg.2 hlen w hI).mono ?_
        rintro e w' ⟨hb, ⟨hy, -⟩ | ⟨-, he⟩⟩
        · exact absurd hy hz
        · exact ⟨_, he, rnil _, hb⟩
  · refine ⟨[], 2, by simp, fun sv w hI => ?_, fun sv w hI => ?_⟩
    · obtain ⟨a, cap, rfl, -⟩ := hI
      refine (Gaps_bad a _ cap g hg w).mono ?_
      rintro e w' ⟨he, rfl⟩
      exact ⟨_, he, rnil _, Below.refl _ _⟩
    · obtain ⟨a, cap, rfl, -⟩ := hI
      refine (refGaps_bad a _ cap g hg w).mono ?_
      rintro e w' ⟨he, rfl⟩
      exact ⟨_, he, rnil _, Below.refl _ _⟩
theorem run_front_i (g z n cap : Nat) (hz : z ≤ n) (hn : n ≤ cap) (W : World) :
    (Instr.sliceAt 47 (.slice (some ⟨g, 0, none⟩) n cap) none (some (.int .i64 (z : Int))) none).run Try.prog W = .ok (.slice (some ⟨g, 0, none⟩) z cap) W := by
  have hs : Try.prog.underlying 47 = some (.slice (Try.prog.elem 47)) := by kernel_rfl
  have hz1 : ∀ W : World, (sizeOf (Try.prog.elem 47)).run Try.prog W = .ok 1 W := fun W => by kernel_rfl
  rw [run_sliceAt_slice _ _ _ _ _ _ hs, run_slice_h _ _ _ _ _ hs _ _ (by omega) (by omega)]
  simp only [Int.toNat_natCast, hz1, Result.andThen_ok]
  unfold sliced
  by_cases h : cap = 0
  · subst h; simp
  · rw [if_neg h]; simp [Addr.add]
theorem take_lent {xs ys : List Value} {m : Nat} (h : xs.length = m) : List.take m ([] ++ xs ++ ys) = xs := by subst h; simp
theorem at_lent {xs ys : List Value} {v : Value} {m : Nat} (h : xs.length = m) : ([] ++ xs ++ v :: ys)[m]? = some v := by subst h; simp
theorem ic_one (l : List Int) : ∀ u ∈ ic l, u.oneCell' = true := by
  intro u hu
  simp only [ic, List.mem_map] at hu
  obtain ⟨x, -, rfl⟩ := hu
  rfl
theorem nums_rd {w : World} {v : Value} {l : List Int} (h : Nums w.heap.size w v l) : ∃ a cap, v = .slice a l.length cap := by
  obtain ⟨a, cap, e, -⟩ := h
  exact ⟨a, cap, e⟩
set_option maxRecDepth 100000 in
set_option maxHeartbeats 8000000 in
theorem mergeSpans_short (a : Option Addr) (cap n : Nat) (p : List Sn) (b : Option Addr) (cap2 k : Nat) (zs : List Int) (x : Int) (w : World) (hp : p.length = n) (hz : zs.length = k) (hr : Rd w (.slice a n cap) n (scells p)) (ht : Rd w (.slice b k cap2) k (ic zs)) (hn : n ≤ 200) (hk : k ≤ 200) :
    Calls Try.prog 6 #[.slice a n cap, .slice b k cap2, .int .i64 x] w fun e w' => e = .returned (.bool true) ∧ Below w.heap.size w w' := by
  obtain ⟨iS, hiS, hS0, hS1, hS2⟩ := info_parts spanInfo
  obtain ⟨iI, hiI, hI0, hI1, hI2⟩ := info_parts i64Info
  have RS : Hid (∀ W, Below w.heap.size w W → Rd W (.slice a n cap) n (scells p)) := fun W hW => hr.below hW
  have RT : Hid (∀ W, Below w.heap.size w W → Rd W (.slice b k cap2) k (ic zs)) := fun W hW => ht.below hW
  have HP := Lib.hid hp
  have HZ := Lib.hid hz
  have HLS : Hid ((scells p).length = n * 2) := by show _ = _; rw [scells_length, hp]
  have HLT : Hid ((ic zs).length = k * 1) := by show _ = _; rw [ic_length, hz, Nat.mul_one]
  have d1 : decide ((200 : Int) < (n : Int)) = false := by simp; omega
  have d2 : decide ((200 : Int) < (k : Int)) = false := by simp; omega
  have RTN : Hid (∀ W, Below w.heap.size w W → Nums W.heap.size W (.slice b k cap2) zs) := fun W hW => by have h := ht.below hW; rw [← hz] at h ⊢; exact Nums.of_rd h
  obtain ⟨gm, ev, hgl, hga, hgb⟩ := gaps_out zs x (by omega)
  have HGA := Lib.hid hga
  have HGB := Lib.hid hgb
  clear hr ht hp hz hga hgb
  go_enter Try.func6, Try.ntmps6
  go_wp2_with (first
    | (at_builtin; refine wpList_append_rd _ rfl (.const (.slice none 0 0)) (.tmp 27) 51 rfl w.heap.size 24 iS _ 2 16 Try.underlying51 hiS hS0 hS1 hS2 rfl (by decide) _ 0 [] rfl (World.ownsRow_nil _ _ _ _) _ n cap (scells p) rfl HLS.out (RS.out _ (Below.refl _ _)) (scells_one _) (by simp only [maxLen]; omega) (by omega) (Nat.le_refl _) ?_; intro v1 w1 ho1 hg1 _
       have HB1 := Lib.hid ((Below.refl w.heap.size w).grown hg1 (Nat.le_refl _) (fun r e => by cases e))
       have HOA1 := Lib.hid (ho1.alloc (.cells #[.int .i64 4242, .int .i64 0] 24))
       have HBA1 := Lib.hid (HB1.out.alloc HB1.out.size (.cells #[.int .i64 4242, .int .i64 0] 24))
       have HRO1 := Lib.hid (rd_two w1 4242 0)
       have HS1 := Lib.hid HB1.out.size
       clear ho1 hg1)
    | (at_builtin; refine wpList_append_rd _ rfl (.tmp 28) (.tmp 30) 51 rfl w.heap.size 24 iS _ 2 16 Try.underlying51 hiS hS0 hS1 hS2 rfl (by decide) _ (0 + n) _ rfl HOA1.out _ 1 1 [.int .i64 4242, .int .i64 0] rfl rfl HRO1.out (by simp [Value.oneCell']) (by simp only [maxLen]; omega) (by omega) (by have := HS1.out; simp; omega) ?_; intro v2 w2 ho2 hg2 _
       obtain ⟨q, c7, hv2, hc7, -⟩ := ownsRow_shape ho2
       cases hv2
       obtain ⟨q1, rfl, hq1, hq1l, -, -, -, -⟩ := ownsRow_at ho2 (by omega)
       have HB2 := Lib.hid (HBA1.out.grown hg2 (by have := HS1.out; simp; omega) (fun r e => (HOA1.out.lt r e).1))
       have HO2 := Lib.hid ho2
       have hsl : ∀ W, (Instr.sliceAt 51 (.slice (some ⟨q1, 0, none⟩) (0 + n + 1) c7) none (some (.int .i64 (n : Int))) none).run Try.prog W = .ok (.slice (some ⟨q1, 0, none⟩) n c7) W := run_front_at q1 n (0 + n + 1) c7 (by omega) (by omega)
       have HS2 := Lib.hid HB2.out.size
       clear ho2 hg2)
    | (at_builtin; refine wpList_append_rd _ rfl (.const (.slice none 0 0)) (.tmp 35) 47 rfl w.heap.size 2 iI _ 1 8 Try.underlying47 hiI hI0 hI1 hI2 rfl (by decide) _ 0 [] rfl (World.ownsRow_nil _ _ _ _) _ k cap2 (ic zs) rfl HLT.out (RT.out _ HB2.out) (ic_one _) (by simp only [maxLen]; omega) (by omega) HS2.out ?_; intro v3 w3 ho3 hg3 _
       have HB3 := Lib.hid (HB2.out.grown hg3 HS2.out (fun r e => by cases e))
       have HO23 := Lib.hid ((own_below HO2.out (below_grown5 hg3)).alloc (.cells #[.int .i64 4242] 2))
       have HOA3 := Lib.hid (ho3.alloc (.cells #[.int .i64 4242] 2))
       have HBA3 := Lib.hid (HB3.out.alloc HB3.out.size (.cells #[.int .i64 4242] 2))
       have HRO3 := Lib.hid (rd_one w3 4242)
       have HS3 := Lib.hid HB3.out.size
       clear ho3 hg3)
    | (at_builtin; refine wpList_append_rd _ rfl (.tmp 36) (.tmp 37) 47 rfl w.heap.size 2 iI _ 1 8 Try.underlying47 hiI hI0 hI1 hI2 rfl (by decide) _ (0 + k) _ rfl HOA3.out _ 1 1 [.int .i64 4242] rfl rfl HRO3.out (by simp [Value.oneCell']) (by simp only [maxLen]; omega) (by omega) (by have := HS3.out; simp; omega) ?_; intro v4 w4 ho4 hg4 _
       obtain ⟨q', c8, hv4, hc8, -⟩ := ownsRow_shape ho4
       cases hv4
       obtain ⟨q2, rfl, hq2, hq2l, -, -, -, -⟩ := ownsRow_at ho4 (by omega)
       have HB4 := Lib.hid (HBA3.out.grown hg4 (by have := HS3.out; simp; omega) (fun r e => (HOA3.out.lt r e).1))
       have HO4 := Lib.hid ho4
       have HO24 := Lib.hid (HO23.out.kept hg4 (own_own_ne HO23.out HOA3.out (by decide)))
       have hst : ∀ W, (Instr.sliceAt 47 (.slice (some ⟨q2, 0, none⟩) (0 + k + 1) c8) none (some (.int .i64 (k : Int))) none).run Try.prog W = .ok (.slice (some ⟨q2, 0, none⟩) k c8) W := run_front_i q2 k (0 + k + 1) c8 (by omega) (by omega)
       have HS4 := Lib.hid HB4.out.size
       have hfs := own_front HO24.out (k := n) (by omega)
       have hft := own_front HO4.out (k := k) (by omega)
       rw [take_lent HLS.out] at hfs
       rw [take_lent HLT.out] at hft
       have RSS : Hid (∀ W, Below w4.heap.size w4 W → Rd W (.slice (some ⟨q1, 0, none⟩) n c7) n (scells p)) := fun W hW => (Rd.of_owns hfs).below hW
       have RTT : Hid (∀ W, Below w4.heap.size w4 W → Nums W.heap.size W (.slice (some ⟨q2, 0, none⟩) k c8) zs) := fun W hW => ((Nums.of_own hft).below hW).mono hW.size
       obtain ⟨_, eq1, -, hl1, -, -, hx1, -⟩ := ownsRow_at HO24.out (by omega)
       cases eq1
       obtain ⟨_, eq2, -, hl2, -, -, hx2, -⟩ := ownsRow_at HO4.out (by omega)
       cases eq2
       have hy1 := hx1 _ _ (at_lent HLS.out)
       have hy2 := hx2 _ _ (at_lent HLT.out)
       rw [Nat.mul_one] at hy2
       have MK : Hid (∀ W, Below w4.heap.size w4 W → W.cell? ⟨q1, n * 2, none⟩ = some (.int .i64 4242) ∧ W.cell? ⟨q2, k, none⟩ = some (.int .i64 4242) ∧ q1 < W.heap.size ∧ q2 < W.heap.size) := fun W hW => ⟨(hW.cell (p := ⟨q1, n * 2, none⟩) hl1).trans hy1, (hW.cell (p := ⟨q2, k, none⟩) hl2).trans hy2, by have := hW.size; omega, by have := hW.size; omega⟩
       clear ho4 hg4 hfs hft hx1 hx2 hy1 hy2 hl1 hl2)
    | (go_at_call 22; (with_reducible refine (Union_any _ p n HP.out (by omega) w4 (RSS.out _ (Below.refl _ _))).mono ?_); rintro e w5 ⟨v5, rfl, ho5, hb5⟩
       obtain ⟨a5, c5, rfl, -, -⟩ := ownsRow_shape ho5
       have HO5 := Lib.hid ho5
       have HB5 := Lib.hid hb5
       clear ho5 hb5)
    | (go_at_call 22; (with_reducible refine (Union_any _ p n HP.out (by omega) w5 (RSS.out _ HB5.out)).mono ?_); rintro e w6 ⟨v6, rfl, ho6, hb6⟩
       obtain ⟨a6, c6, rfl, -, -⟩ := ownsRow_shape ho6
       have HO6 := Lib.hid ho6
       have HO56 := Lib.hid (own_below HO5.out hb6)
       have HB6 := Lib.hid (HB5.out.trans (hb6.mono HB5.out.size))
       have HS6 := Lib.hid hb6.size
       clear ho6 hb6)
    | (go_at_call 23; (with_reducible refine (refUnion_any _ p n HP.out (by omega) w6 (RS.out _ (HB4.out.trans (HB6.out.mono HS4.out)))).mono ?_); rintro e w7 ⟨v7, rfl, ho7, hb7⟩
       obtain ⟨a7, c7', rfl, -, -⟩ := ownsRow_shape ho7
       have HO7 := Lib.hid ho7
       have HO57 := Lib.hid (own_below HO56.out hb7)
       have HO67 := Lib.hid (own_below HO6.out hb7)
       have HB7 := Lib.hid (HB6.out.trans (hb7.mono HB6.out.size))
       clear ho7 hb7)
    | (go_at_call 20; (with_reducible refine (HGA.out _ w7 (RTT.out _ HB7.out)).mono ?_); rintro e w8 ⟨v8, rfl, hr8, hb8⟩
       have HR8 := Lib.hid hr8
       have HB8 := Lib.hid (HB7.out.trans (hb8.mono HB7.out.size))
       have HO58 := Lib.hid (own_below HO57.out hb8)
       have HO68 := Lib.hid (own_below HO67.out hb8)
       have HO78 := Lib.hid (own_below HO7.out hb8)
       clear hr8 hb8)
    | (go_at_call 24; (with_reducible refine (HGB.out _ w8 (RTN.out _ (HB4.out.trans (HB8.out.mono HS4.out)))).mono ?_); rintro e w9 ⟨v9, rfl, hr9, hb9⟩
       have HR9 := Lib.hid hr9
       have HR89 := Lib.hid (HR8.out.below hb9)
       have HB9 := Lib.hid (HB8.out.trans (hb9.mono HB8.out.size))
       have HO59 := Lib.hid (own_below HO58.out hb9)
       have HO69 := Lib.hid (own_below HO68.out hb9)
       have HO79 := Lib.hid (own_below HO78.out hb9)
       clear hr9 hb9)
    | (go_at_call 21; (with_reducible refine (SameSpans_any _ _ (rUnion p) w9 (Rd.of_owns HO59.out) (Rd.of_owns HO79.out)).mono ?_); rintro e w10 ⟨rfl, hb10⟩
       have HB10 := Lib.hid (HB9.out.trans (hb10.mono HB9.out.size))
       have HR8x := Lib.hid (HR89.out.below hb10)
       have HR9x := Lib.hid (HR9.out.below hb10)
       have HO5x := Lib.hid (own_below HO59.out hb10)
       have HO6x := Lib.hid (own_below HO69.out hb10)
       have HO7x := Lib.hid (own_below HO79.out hb10)
       clear hb10)
    | (go_at_call 21; (with_reducible refine (SameSpans_any _ _ gm w10 HR8x.out HR9x.out).mono ?_); rintro e w11 ⟨rfl, hb11⟩
       have HB11 := Lib.hid (HB10.out.trans (hb11.mono HB10.out.size))
       have HO5y := Lib.hid (own_below HO5x.out hb11)
       have HO6y := Lib.hid (own_below HO6x.out hb11)
       have HO7y := Lib.hid (own_below HO7x.out hb11)
       clear hb11)
    | (go_at_call 21; (with_reducible refine (SameSpans_any _ _ p w11 (HP.out.symm ▸ RSS.out _ HB11.out) (HP.out.symm ▸ RS.out _ (HB4.out.trans (HB11.out.mono HS4.out)))).mono ?_); rintro e w12 ⟨rfl, hb12⟩
       have HB12 := Lib.hid (HB11.out.trans (hb12.mono HB11.out.size))
       have HO5z := Lib.hid (own_below HO5y.out hb12)
       have HO6z := Lib.hid (own_below HO6y.out hb12)
       have HO7z := Lib.hid (own_below HO7y.out hb12)
       obtain ⟨mk1, mk2, mk3, mk4⟩ := MK.out _ HB12.out
       clear hb12))
  have HW12 : Hid (Below w.heap.size w w12) := HB4.out.trans (HB12.out.mono HS4.out)
  go_loopw [16] (fun i wr => ∃ j : Nat, i = .int .i64 j ∧ j ≤ k ∧ Below w12.heap.size w12 wr) (fun i _ => k - (intOf i).toNat)
  case atStart => exact ⟨0, rfl, Nat.zero_le _, Below.refl _ _⟩
  case round =>
    obtain ⟨j, rfl, hj, hb⟩ := hrel
    have HBL := Lib.hid hb
    by_cases hlt : j < k
    · obtain ⟨_, _, hv1, hc1⟩ := RTT.out w12 HB12.out
      obtain ⟨_, _, hv2, hc2⟩ := RTN.out w12 HW12.out
      cases hv1
      obtain ⟨g1, o1, e1, hg1, hx1⟩ := hc1 (by have := HZ.out; omega)
      cases e1
      obtain ⟨g2, o2, e2, hg2, hx2⟩ := hc2 (by have := HZ.out; omega)
      cases hv2
      subst e2
      obtain ⟨t, ht⟩ : ∃ t, zs[j]? = some t := ⟨_, List.getElem?_eq_getElem (by have := HZ.out; omega)⟩
      have c1 := (hb.cell (p := ⟨q2, 0 + j, none⟩) hg1).trans (hx1 _ _ ht)
      have c2 := (hb.cell (p := ⟨g2, o2 + j, none⟩) hg2).trans (hx2 _ _ ht)
      rw [Nat.zero_add] at c1
      have hs1 := hb.size
      have hq2' : q2 < wr.heap.size := by omega
      have hg2' : g2 < wr.heap.size := by omega
      clear hx1 hx2 hb hc1 hc2
      go_wp2
      go_quiet (fail)
      go_wp2
      go_roundw
      case rel => exact ⟨j + 1, by go_num, by omega, below_drewN HBL.out _⟩
      case measure => simp [intOf]; omega
    · obtain rfl : j = k := by omega
      obtain ⟨wo, rfl⟩ : ∃ wo : World, wo = wr := ⟨_, rfl⟩
      have HBW := Lib.hid hb
      have HL5 := Lib.hid (own_below HO5z.out hb)
      have HL6 := Lib.hid (own_below HO6z.out hb)
      have HL7 := Lib.hid (own_below HO7z.out hb)
      obtain ⟨_, _, e5, hLc, hcm⟩ := ownsRow_shape HL5.out
      cases e5
      unfold maxLen at hcm
      clear hb
      rcases Nat.eq_zero_or_pos (rUnion p).length with hz0 | hz0
      · have HBZ : Hid (Below w.heap.size w wo) := HW12.out.trans (HBW.out.mono HW12.out.size)
        have HR6 : Hid (Rd wo (.slice a6 (rUnion p).length c6) (rUnion p).length (scells (rUnion p))) := Rd.of_owns HL6.out
        have HR7 : Hid (Rd wo (.slice a7 (rUnion p).length c7') (rUnion p).length (scells (rUnion p))) := Rd.of_owns HL7.out
        have e0 : rUnion p = [] := List.length_eq_zero_iff.1 hz0
        simp only [e0, List.length_nil] at HR6 HR7 ⊢
        clear e0 hLc
        clear hz0
        go_wp2
        go_loopw [17] (fun i ws => i = .int .i64 0 ∧ ws = wo) (fun i _ => 0)
        case atStart => exact ⟨rfl, rfl⟩
        case round =>
          obtain ⟨rfl, rfl⟩ := hrel
          go_wp2_with (first
            | (go_at_call 21; (with_reducible refine (SameSpans_any _ _ [] _ HR6.out HR7.out).mono ?_); rintro e w14 ⟨rfl, hb14⟩; have HB14 := Lib.hid (HBZ.out.trans (hb14.mono HBZ.out.size)); clear hb14)
            | (go_at_call 7; (with_reducible refine (known_any _).mono ?_); rintro e w15 ⟨rfl, hb15⟩))
          go_ret
          exact ⟨rfl, HB14.out.trans (hb15.mono HB14.out.size)⟩
      · obtain ⟨g5, eg5, hg51, hg52, -, -, -, -⟩ := ownsRow_at HL5.out hz0
        cases eg5
        have HG5 := Lib.hid hg51
        have HG52 : Hid (g5 < w5.heap.size) := by
          obtain ⟨g, eg, -, h, -⟩ := ownsRow_at HO5.out hz0
          cases eg
          exact h
        go_wp2
        go_loopw [17] (fun i ws => ∃ m : Nat, i = .int .i64 (m : Int) ∧ m ≤ (rUnion p).length ∧ wo.grownBy ws (some g5) ∧ ∃ xs, ws.ownsRow w4.heap.size 24 2 (.slice (some ⟨g5, 0, none⟩) (rUnion p).length c5) (rUnion p).length xs) (fun i _ => (rUnion p).length - (intOf i).toNat)
        case atStart => exact ⟨0, rfl, Nat.zero_le _, only_refl _ _, _, HL5.out⟩
        case round =>
          obtain ⟨m, rfl, hmL, hg, xs, hxs⟩ := hrel
          have HG := Lib.hid hg
          have HX := Lib.hid hxs
          clear hg hxs
          by_cases hlt : m < (rUnion p).length
          · obtain ⟨_, eg, -, hgl, -, -, hcell, hfz⟩ := ownsRow_at HX.out (by omega)
            cases eg
            obtain ⟨u0, hu0⟩ := ownsRow_cell HX.out (j := m * 2) (by omega)
            obtain ⟨u1, hu1⟩ := ownsRow_cell HX.out (j := m * 2 + 1) (by omega)
            have d0 := hcell _ _ hu0
            have d1 := hcell _ _ hu1
            have f0 := hfz (m * 2)
            have f1 := hfz (m * 2 + 1)
            clear hcell hfz hu0 hu1
            have hkl : (m : Int) < ((rUnion p).length : Int) := by omega
            go_wp2
            go_roundw
            case rel => exact ⟨m + 1, by go_num, by omega, only_set (only_set HG.out _ _ (.inl rfl)) _ _ (.inl rfl), _, ownsRow_set (ownsRow_set HX.out _) _⟩
            case measure => simp [intOf]; omega
          · obtain rfl : m = (rUnion p).length := by omega
            have HBZ : Hid (Below w.heap.size w _) := (HW12.out.trans (HBW.out.mono HW12.out.size)).grown HG.out (HW12.out.trans (HBW.out.mono HW12.out.size)).size (fun r e => by cases e; have := HS4.out; have := HG5.out; omega)
            have HR6 : Hid (Rd _ (.slice a6 (rUnion p).length c6) (rUnion p).length (scells (rUnion p))) := Rd.of_owns (HL6.out.kept HG.out (by
              cases hv : (Value.slice a6 (rUnion p).length c6).ownBlock with
              | none => exact .inl rfl
              | some b => right; intro e; cases e; have := (HO6.out.lt _ hv).1; have := HG52.out; omega))
            have HR7 : Hid (Rd _ (.slice a7 (rUnion p).length c7') (rUnion p).length (scells (rUnion p))) := Rd.of_owns (HL7.out.kept HG.out (by
              cases hv : (Value.slice a7 (rUnion p).length c7').ownBlock with
              | none => exact .inl rfl
              | some b => right; intro e; cases e; have := (HO7.out.lt _ hv).1; have := HG52.out; have := HS6.out; omega))
            go_wp2_with (first
              | (go_at_call 21; (with_reducible refine (SameSpans_any _ _ (rUnion p) _ HR6.out HR7.out).mono ?_); rintro e w14 ⟨rfl, hb14⟩; have HB14 := Lib.hid (HBZ.out.trans (hb14.mono HBZ.out.size)); clear hb14)
              | (go_at_call 7; (with_reducible refine (known_any _).mono ?_); rintro e w15 ⟨rfl, hb15⟩))
            go_ret
            exact ⟨rfl, HB14.out.trans (hb15.mono HB14.out.size)⟩
end Go.Proofs.Ytjdfjaocidjhlaa
