/- The walk of the law MergeOrder. -/
import Derived.Test.YtjdfjaocidjhlaaOrdLex
namespace Go.Proofs.Ytjdfjaocidjhlaa
open Go.RowKit Go.Shelf

theorem Nums.of_own {W : World} {base : Nat} {e : TypeId} {v : Value} {n : Nat} {l : List Int} (h : W.ownsRow base e 1 v n (ic l)) : Nums W.heap.size W v l := by
  have hl : l.length = n := by have := h.1; simpa [ic] using this
  subst hl
  exact Nums.of_rd (Rd.of_owns h)
def Sep (v u : Value) : Prop := ∀ b, v.ownBlock = some b → u.ownBlock ≠ some b
theorem Sep.symm {v u : Value} (h : Sep v u) : Sep u v := fun b hb hc => h b hc hb
theorem Sep.grown {v v' u : Value} {w : World} {base : Nat} {e : TypeId} {size n : Nat} {xs : List Value} (h : Sep v u) (hu : w.ownsRow base e size u n xs) (hv : v'.ownBlock = v.ownBlock ∨ v'.ownBlock = some w.heap.size) : Sep v' u := fun b hb hc => by
  rcases hv with h1 | h1
  · exact h b (h1 ▸ hb) hc
  · have := (hu.lt b hc).2
    rw [h1] at hb; cases hb; omega
theorem Sep.kept {v u : Value} (h : Sep v u) : u.ownBlock = none ∨ u.ownBlock ≠ v.ownBlock := by
  cases hu : u.ownBlock with
  | none => exact .inl rfl
  | some b => exact .inr fun hc => h b hc.symm hu
/-- The times there and back, laid so far. -/
structure Nb (p : List Int) (w W : World) (v6 v7 : Value) (k : Nat) : Prop where
  le : k ≤ p.length
  below : Below w.heap.size w W
  own6 : W.ownsRow w.heap.size 2 1 v6 k (ic (p.take k))
  own7 : W.ownsRow w.heap.size 2 1 v7 k (ic (p.reverse.take k))
  sep : Sep v6 v7
theorem rd_one (w : World) (t : Int) : Rd (w.alloc (.cells #[.int .i64 t] 2)) (.slice (some ⟨w.heap.size, 0, none⟩) 1 1) 1 [.int .i64 t] :=
  ⟨_, 1, rfl, Nat.le_refl _, by decide, fun _ => ⟨_, 0, rfl, by simp, fun j u hj => by rw [Nat.zero_add]; exact (cell_of_row _ _ j _ _ (0, 0) (heap_alloc_new w _)).trans (by simpa using hj)⟩⟩
theorem gap_bd (x : Int) : (-50 < x.tmod 50 ∧ x.tmod 50 < 50) ∧ 0 ≤ (x.tmod 50 + 50).tmod 50 ∧ (x.tmod 50 + 50).tmod 50 < 50 := by
  have h1 := Int.tmod_lt_of_pos x (b := 50) (by decide)
  have h2 : -50 < x.tmod 50 := by
    have h3 := Int.tmod_lt_of_pos (-x) (b := 50) (by decide)
    rw [Int.neg_tmod] at h3; omega
  refine ⟨⟨h2, h1⟩, Int.tmod_nonneg _ (by omega), Int.tmod_lt_of_pos _ (by decide)⟩
theorem md_bd (x : Int) : -2000 < x.tmod 2000 ∧ x.tmod 2000 < 2000 := by
  have h1 := Int.tmod_lt_of_pos x (b := 2000) (by decide)
  have h3 := Int.tmod_lt_of_pos (-x) (b := 2000) (by decide)
  rw [Int.neg_tmod] at h3; omega
theorem Nums.mono {n0 n1 : Nat} {W : World} {sv : Value} {zs : List Int} (h : Nums n0 W sv zs) (hn : n0 ≤ n1) : Nums n1 W sv zs := by
  obtain ⟨a, cap, e, hh⟩ := h
  exact ⟨a, cap, e, fun hp => by obtain ⟨b, o, h1, h2, h3⟩ := hh hp; exact ⟨b, o, h1, by omega, h3⟩⟩
def wc (g : Int) (p : List Int) (s e : Int) : Int := wt g (fun _ => 1) p s e
def wu (g : Int) (p : List Int) (s e : Int) : Int := wt g (fun t => t) p s e
theorem evs_sp {g : Int} (hg : 1 ≤ g) {p : List Int} {l : List Wn} (h : Evs g p l) : l.map Wn.sp = gaps g (srt p) := Sess.uniq hg h.ss (gaps_ok hg (srt_sorted p)) fun _ => srt_mem.symm
theorem gaps_rev {g : Int} (hg : 1 ≤ g) (p : List Int) : gaps g (srt p.reverse) = gaps g (srt p) :=
  Sess.uniq hg (gaps_ok hg (srt_sorted p.reverse)) (gaps_ok hg (srt_sorted p)) fun t => by rw [srt_mem, srt_mem, List.mem_reverse]
theorem evs_sp_rev {g : Int} (hg : 1 ≤ g) {p : List Int} {l : List Wn} (h : Evs g p.reverse l) : l.map Wn.sp = gaps g (srt p) := (evs_sp hg h).trans (gaps_rev hg p)
set_option maxRecDepth 100000 in
set_option maxHeartbeats 16000000 in
theorem mergeOrder_short (sv : Value) (zs : List Int) (x : Int) (w : World) (hI : Nums w.heap.size w sv zs) (hlen : zs.length ≤ 100) :
    Calls Try.prog 5 #[sv, .int .i64 x] w fun e w' => e = .returned (.bool true) ∧ Below w.heap.size w w' := by
  obtain ⟨iI, hiI, hI0, hI1, hI2⟩ := info_parts i64Info
  obtain ⟨A, cp, rfl, hcell⟩ := id hI
  have HCE := Lib.hid hcell
  clear hcell hI
  obtain ⟨⟨x1, x2⟩, x3, x4⟩ := gap_bd x
  obtain ⟨n, hn⟩ : ∃ n, zs.length = n := ⟨_, rfl⟩
  rw [hn] at hlen HCE ⊢
  have d1 : decide (100 < (n : Int)) = false := by simp; omega
  have d2 : decide (100 < n) = false := by simp; omega
  obtain ⟨p, hp⟩ : ∃ p, p = zs.map fun t => t.tmod 2000 := ⟨_, rfl⟩
  have hpl : p.length = n := by rw [hp]; simp [hn]
  have hpb : ∀ t ∈ p, -2000 < t ∧ t < 2000 := fun t ht => by
    rw [hp] at ht
    obtain ⟨z, -, rfl⟩ := List.mem_map.1 ht
    exact md_bd z
  have HPK : Hid (∀ (k : Nat) (z : Int), zs[k]? = some z → p[k]? = some (z.tmod 2000)) := fun k z hz => by rw [hp]; simp [hz]
  have HZL := Lib.hid hn
  clear hp hn
  go_enter Try.func5, Try.ntmps5
  go_wp2
  have g1 : 1 ≤ 1 + x.tmod 50 % 50 := by omega
  have g2 : 1 + x.tmod 50 % 50 ≤ 50 := by omega
  generalize 1 + x.tmod 50 % 50 = G at *
  generalize (x.tmod 50 + 50) % 50 = r29 at *
  clear x1 x2 x3 x4
  go_loopw [6, 7, 8] (fun v6 v7 i wr => ∃ k : Nat, i = .int .i64 k ∧ Nb p w wr v6 v7 k) (fun _ _ i _ => n - (intOf i).toNat)
  case atStart => exact ⟨0, rfl, ⟨Nat.zero_le _, Below.refl _ _, World.ownsRow_nil _ _ _ _, World.ownsRow_nil _ _ _ _, fun b hb => by cases hb⟩⟩
  case round =>
    obtain ⟨k, rfl, hj⟩ := hrel
    by_cases hlt : k < n
    · have hn0 : 0 < n := by omega
      obtain ⟨b, off, rfl, hb, hcs⟩ := HCE.out hn0
      obtain ⟨t, ht⟩ : ∃ t, zs[k]? = some t := ⟨_, List.getElem?_eq_getElem (by have := HZL.out; omega)⟩
      obtain ⟨u, hu⟩ : ∃ u, zs[n - 1 - k]? = some u := ⟨_, List.getElem?_eq_getElem (by have := HZL.out; omega)⟩
      have HFT : Hid (∀ W, Below w.heap.size w W → W.cell? ⟨b, off + k, none⟩ = some (.int .i64 t)) := fun W hW => (hW.cell (p := ⟨b, off + k, none⟩) hb).trans (hcs k t ht)
      have HFU : Hid (∀ W, Below w.heap.size w W → W.cell? ⟨b, off + (n - 1 - k), none⟩ = some (.int .i64 u)) := fun W hW => (hW.cell (p := ⟨b, off + (n - 1 - k), none⟩) hb).trans (hcs _ u hu)
      have hct := HFT.out wr hj.below
      have hpt := HPK.out k t ht
      have hpu : p.reverse[k]? = some (u.tmod 2000) := by
        rw [List.getElem?_reverse (by omega), hpl]; exact HPK.out _ u hu
      have HT6 : Hid (ic (p.take (k + 1)) = ic (p.take k) ++ [.int .i64 (t.tmod 2000)]) := by
        show _ = _; rw [List.take_add_one, hpt, ic_append]; rfl
      have HT7 : Hid (ic (p.reverse.take (k + 1)) = ic (p.reverse.take k) ++ [.int .i64 (u.tmod 2000)]) := by
        show _ = _; rw [List.take_add_one, hpu, ic_append]; rfl
      have HJ := Lib.hid hj
      have hb2 : b < wr.heap.size := by have := hj.below.size; omega
      have HSZ := Lib.hid hj.below.size
      have h6 := hj.own6
      obtain ⟨a6, c6, rfl, -, -⟩ := ownsRow_shape h6
      have HO6 := Lib.hid (h6.alloc (.cells #[.int .i64 (t.tmod 2000)] 2))
      have HO7 := Lib.hid (hj.own7.alloc (.cells #[.int .i64 (t.tmod 2000)] 2))
      have HBA := Lib.hid (hj.below.alloc hj.below.size (.cells #[.int .i64 (t.tmod 2000)] 2))
      have HNW := Lib.hid (rd_one wr (t.tmod 2000))
      clear hj h6 hpt hpu ht hu hcs
      go_wp2_with (first
        | (go_at_call 18; (with_reducible refine (time_any _ _).mono ?_); rintro e w0 ⟨rfl, rfl⟩)
        | (at_builtin; refine wpList_append_rd _ rfl (.tmp 37) (.tmp 43) 47 rfl w.heap.size 2 iI _ 1 8 Try.underlying47 hiI hI0 hI1 hI2 rfl (by decide) _ _ _ rfl HO6.out _ 1 1 [.int .i64 (t.tmod 2000)] rfl rfl HNW.out (by simp [Value.oneCell']) (by simp only [maxLen]; omega) (by omega) (by have := HSZ.out; simp; omega) ?_; intro v6 w5 hos5 hg5 ho5
           have HB5 := Lib.hid (HBA.out.grown hg5 (by have := HSZ.out; simp; omega) (fun r e => (HO6.out.lt r e).1))
           have HS5 := Lib.hid (Sep.grown HJ.out.sep HO7.out ho5)
           have H65 := Lib.hid hos5
           have H75 := Lib.hid (HO7.out.kept hg5 HJ.out.sep.kept)
           have hcu := HFU.out _ HB5.out
           have hb5 : b < w5.heap.size := by have := HB5.out.size; omega
           have HSZ5 := Lib.hid HB5.out.size
           obtain ⟨a7, c7, hv7, -, -⟩ := ownsRow_shape H75.out
           cases hv7
           have HO75 := Lib.hid (H75.out.alloc (.cells #[.int .i64 (u.tmod 2000)] 2))
           have HO65 := Lib.hid (H65.out.alloc (.cells #[.int .i64 (u.tmod 2000)] 2))
           have HBA5 := Lib.hid (HB5.out.alloc HB5.out.size (.cells #[.int .i64 (u.tmod 2000)] 2))
           have HNW5 := Lib.hid (rd_one w5 (u.tmod 2000))
           clear hos5 hg5 ho5)
        | (at_builtin; refine wpList_append_rd _ rfl (.tmp 45) (.tmp 55) 47 rfl w.heap.size 2 iI _ 1 8 Try.underlying47 hiI hI0 hI1 hI2 rfl (by decide) _ _ _ rfl HO75.out _ 1 1 [.int .i64 (u.tmod 2000)] rfl rfl HNW5.out (by simp [Value.oneCell']) (by simp only [maxLen]; omega) (by omega) (by have := HSZ5.out; simp; omega) ?_; intro v7 w6 hos6 hg6 ho6
           have HB6 := Lib.hid (HBA5.out.grown hg6 (by have := HSZ5.out; simp; omega) (fun r e => (HO75.out.lt r e).1))
           have HS6 := Lib.hid (Sep.grown HS5.out.symm HO65.out ho6).symm
           have H76 := Lib.hid hos6
           have H66 := Lib.hid (HO65.out.kept hg6 HS5.out.symm.kept)
           clear hos6 hg6 ho6))
      go_roundw
      case rel =>
        refine ⟨k + 1, by simp, ⟨by omega, HB6.out, ?_, ?_, HS6.out⟩⟩
        · rw [HT6.out]; exact H66.out
        · rw [HT7.out]; exact H76.out
      case measure => simp [intOf]; omega
    · obtain rfl : k = n := by have := hj.le; omega
      have hk6 := hj.own6
      have hk7 := hj.own7
      have hprl : p.reverse.length = k := by simp [hpl]
      rw [show p.take k = p by rw [← hpl, List.take_length]] at hk6
      rw [show p.reverse.take k = p.reverse by rw [← hprl, List.take_length]] at hk7
      obtain ⟨a6, c6, rfl, -, -⟩ := ownsRow_shape hk6
      obtain ⟨a7, c7, rfl, -, -⟩ := ownsRow_shape hk7
      have N6 : Hid (∀ W, Below wr.heap.size wr W → Nums W.heap.size W (.slice a6 k c6) p) := fun W hW => ((Nums.of_own hk6).below hW).mono hW.size
      have N7 : Hid (∀ W, Below wr.heap.size wr W → Nums W.heap.size W (.slice a7 k c7) p.reverse) := fun W hW => ((Nums.of_own hk7).below hW).mono hW.size
      have hrb : ∀ t ∈ p.reverse, -2000 < t ∧ t < 2000 := fun t ht => hpb t (List.mem_reverse.1 ht)
      have hzb : ∀ t ∈ p, -4611686018427387904 ≤ t ∧ t ≤ 4611686018427387904 := fun t ht => by have := hpb t ht; omega
      have hyb : ∀ t ∈ p.reverse, -4611686018427387904 ≤ t ∧ t ≤ 4611686018427387904 := fun t ht => by have := hrb t ht; omega
      obtain ⟨m, hm⟩ : ∃ m, gaps G (srt p) = m := ⟨_, rfl⟩
      obtain ⟨nm, hnm⟩ : ∃ nm, m.length = nm := ⟨_, rfl⟩
      have hgr : gaps G (srt p.reverse) = m := (gaps_rev g1 p).trans hm
      have HL1 : Hid (∀ l, Evs G p l → l.length = nm) := fun l h => by rw [← hnm, ← hm, ← evs_sp g1 h]; simp
      have HL2 : Hid (∀ l, Evs G p.reverse l → l.length = nm) := fun l h => by rw [← hnm, ← hm, ← evs_sp_rev g1 h]; simp
      have HJ1 : Hid (∀ W, Below wr.heap.size wr W → Calls Try.prog 19 #[.slice a6 k c6, .int .i64 G] W fun e w' => ∃ v l, e = .returned (.tuple #[v, .bool true]) ∧ Evs G p l ∧ w'.ownsRow W.heap.size 43 9 v l.length (wcells l) ∧ Below W.heap.size W w') := fun W hW => join_any _ p G g1 g2 hpb (by omega) W (N6.out W hW)
      have HJ2 : Hid (∀ W, Below wr.heap.size wr W → Calls Try.prog 19 #[.slice a7 k c7, .int .i64 G] W fun e w' => ∃ v l, e = .returned (.tuple #[v, .bool true]) ∧ Evs G p.reverse l ∧ w'.ownsRow W.heap.size 43 9 v l.length (wcells l) ∧ Below W.heap.size W w') := fun W hW => join_any _ p.reverse G g1 g2 hrb (by omega) W (N7.out W hW)
      have HG1 : Hid (∀ W, Below wr.heap.size wr W → Calls Try.prog 20 #[.slice a6 k c6, .int .i64 G] W fun e w' => ∃ v, e = .returned (.tuple #[v, .int .i64 0]) ∧ w'.ownsRow W.heap.size 24 2 v nm (scells m) ∧ Below W.heap.size W w') := fun W hW => by have := Gaps_any _ p G g1 (by omega) hzb (by omega) W (N6.out W hW); rw [hm, hnm] at this; exact this
      have HG2 : Hid (∀ W, Below wr.heap.size wr W → Calls Try.prog 20 #[.slice a7 k c7, .int .i64 G] W fun e w' => ∃ v, e = .returned (.tuple #[v, .int .i64 0]) ∧ w'.ownsRow W.heap.size 24 2 v nm (scells m) ∧ Below W.heap.size W w') := fun W hW => by have := Gaps_any _ p.reverse G g1 (by omega) hyb (by omega) W (N7.out W hW); rw [hgr, hnm] at this; exact this
      have HSS : Hid (∀ v1 v2 W, Rd W v1 nm (scells m) → Rd W v2 nm (scells m) → Calls Try.prog 21 #[v1, v2] W fun e w' => e = .returned (.bool true) ∧ Below W.heap.size W w') := fun v1 v2 W h1 h2 => SameSpans_any v1 v2 m W (hnm ▸ h1) (hnm ▸ h2)
      have HBW := Lib.hid hj.below
      have HM := Lib.hid hm
      have HNM := Lib.hid hnm
      clear hj hk6 hk7 hprl hrb hzb hyb hm hnm hgr HCE HPK HZL
      go_wp2_with (first
        | (go_at_call 19; (with_reducible refine (HJ1.out wr (Below.refl _ _)).mono ?_); rintro e w1 ⟨v9, l1, rfl, he1, ho1, hb1⟩
           rw [HL1.out l1 he1] at ho1
           obtain ⟨a9, c9, rfl, -, -⟩ := ownsRow_shape ho1
           have HO1 := Lib.hid ho1
           have HE1 := Lib.hid he1
           have HB1 := Lib.hid hb1
           clear he1 ho1 hb1)
        | (go_at_call 19; (with_reducible refine (HJ2.out w1 HB1.out).mono ?_); rintro e w2 ⟨v11, l2, rfl, he2, ho2, hb2⟩
           rw [HL2.out l2 he2] at ho2
           obtain ⟨a11, c11, rfl, -, -⟩ := ownsRow_shape ho2
           have HO2 := Lib.hid ho2
           have HE2 := Lib.hid he2
           have HB2 := Lib.hid (HB1.out.trans (hb2.mono HB1.out.size))
           have HO12 := Lib.hid (own_below HO1.out hb2)
           clear he2 ho2 hb2)
        | (go_at_call 20; (with_reducible refine (HG1.out w2 HB2.out).mono ?_); rintro e w3 ⟨v13, rfl, ho3, hb3⟩
           obtain ⟨a13, c13, rfl, -, -⟩ := ownsRow_shape ho3
           have HO3 := Lib.hid ho3
           have HB3 := Lib.hid (HB2.out.trans (hb3.mono HB2.out.size))
           have HO13 := Lib.hid (own_below HO12.out hb3)
           have HO23 := Lib.hid (own_below HO2.out hb3)
           clear ho3 hb3)
        | (go_at_call 20; (with_reducible refine (HG2.out w3 HB3.out).mono ?_); rintro e w4 ⟨v15, rfl, ho4, hb4⟩
           obtain ⟨a15, c15, rfl, -, -⟩ := ownsRow_shape ho4
           have HO4 := Lib.hid ho4
           have HB4 := Lib.hid (HB3.out.trans (hb4.mono HB3.out.size))
           have HO14 := Lib.hid (own_below HO13.out hb4)
           have HO24 := Lib.hid (own_below HO23.out hb4)
           have HO34 := Lib.hid (own_below HO3.out hb4)
           clear ho4 hb4)
        | (go_at_call 21; (with_reducible refine (HSS.out _ _ _ (Rd.of_owns HO34.out) (Rd.of_owns HO4.out)).mono ?_); rintro e w5 ⟨rfl, hb5⟩
           have HB5 := Lib.hid (HB4.out.trans (hb5.mono HB4.out.size))
           have HO15 := Lib.hid (own_below HO14.out hb5)
           have HO25 := Lib.hid (own_below HO24.out hb5)
           have HO35 := Lib.hid (own_below HO34.out hb5)
           clear hb5))
      have HOD : Hid (Ods G p m l1 l2) := HM.out ▸ (Ods.of g1 HE1.out HE2.out).1
      have R1 : Hid (Rd w5 (.slice a9 nm c9) nm (wcells l1)) := Rd.of_owns HO15.out
      have R2 : Hid (Rd w5 (.slice a11 nm c11) nm (wcells l2)) := Rd.of_owns HO25.out
      have R3 : Hid (Rd w5 (.slice a13 nm c13) nm (scells m)) := Rd.of_owns HO35.out
      have R6 : Hid (Nums w5.heap.size w5 (.slice a6 k c6) p) := N6.out w5 HB5.out
      have HW5 : Hid (Below w.heap.size w w5) := HBW.out.trans (HB5.out.mono HBW.out.size)
      have HNK : Hid (nm ≤ k) := by
        show nm ≤ k
        have h1 := gaps_len G (srt p)
        rw [HM.out, HNM.out, srt_length, hpl] at h1; exact h1
      have HCB : Hid (∀ i, 0 ≤ cnts G p (m.take i) ∧ cnts G p (m.take i) ≤ 10000) := fun i => by
        have h1 := cnts_bd (g := G) hpb (m.take i)
        have h2 : (m.take i).length ≤ 100 := by have := HNK.out; have := HNM.out; simp; omega
        have h3 : ((m.take i).length : Int) * (p.length : Int) ≤ 100 * 100 := Int.mul_le_mul (by omega) (by omega) (by omega) (by omega)
        omega
      clear HO15 HO25 HO35 HO14 HO24 HO34 HO4 HO3 HO13 HO23 HO12 HO2 HO1 HB4 HB3 HB2 HB1 HE1 HE2 HL1 HL2 HJ1 HJ2 HG1 HG2 HSS N6 N7 HB5
      go_loopw [17, 18] (fun n17 i wr => ∃ j : Nat, i = .int .i64 j ∧ j ≤ nm ∧ n17 = .int .i64 (cnts G p (m.take j)) ∧ Below w5.heap.size w5 wr) (fun _ i _ => nm - (intOf i).toNat)
      case atStart => exact ⟨0, rfl, Nat.zero_le _, rfl, Below.refl _ _⟩
      case round =>
        obtain ⟨j, rfl, hjn, rfl, hb⟩ := hrel
        by_cases hjl : j < nm
        · obtain ⟨y, hy⟩ : ∃ y, m[j]? = some y := ⟨_, List.getElem?_eq_getElem (by have := HNM.out; omega)⟩
          obtain ⟨z1, hz1, s1, e1, h1, cc1, uu1, ge1⟩ := evs_at HOD.out.h1 HOD.out.e1 hy
          obtain ⟨z2, hz2, s2, e2, h2, cc2, uu2, -⟩ := evs_at HOD.out.h2 HOD.out.e2 hy
          rw [wt_reverse] at cc2 uu2
          obtain ⟨_, _, hv1, -, -, hr1⟩ := R1.out
          cases hv1
          obtain ⟨q1, o1, rfl, hq1, hc1⟩ := hr1 (by omega)
          obtain ⟨_, _, hv2, -, -, hr2⟩ := R2.out
          cases hv2
          obtain ⟨q2, o2, rfl, hq2, hc2⟩ := hr2 (by omega)
          obtain ⟨_, _, hv3, -, -, hr3⟩ := R3.out
          cases hv3
          obtain ⟨q3, o3, rfl, hq3, hc3⟩ := hr3 (by omega)
          obtain ⟨_, _, hv6, hr6⟩ := R6.out
          rw [hpl] at hv6
          cases hv6
          obtain ⟨q6, o6, rfl, hq6, hc6⟩ := hr6 (by have := HNK.out; omega)
          have F1 : Hid (∀ W, Below w5.heap.size w5 W → W.cell? ⟨q1, o1 + j * 9, none⟩ = some (.int .i64 y.s) ∧ W.cell? ⟨q1, o1 + j * 9 + 1, none⟩ = some (.int .i64 y.e) ∧ W.cell? ⟨q1, o1 + j * 9 + 2, none⟩ = some (.int .i64 y.s) ∧ W.cell? ⟨q1, o1 + j * 9 + 3, none⟩ = some (.int .i64 (wc G p y.s y.e)) ∧ W.cell? ⟨q1, o1 + j * 9 + 3 + 1, none⟩ = some (.int .i64 (wu G p y.s y.e))) := fun W hW => by
            have key : ∀ i u, z1.cells[i]? = some u → W.cell? ⟨q1, o1 + j * 9 + i, none⟩ = some u := fun i u hu => by
              rw [Nat.add_assoc]; exact (hW.cell (p := ⟨q1, o1 + (j * 9 + i), none⟩) hq1).trans (hc1 _ _ (wcells_at l1 j z1 hz1 i u hu))
            exact ⟨key 0 _ (by simp [Wn.cells, s1]), key 1 _ (by simp [Wn.cells, e1]), key 2 _ (by simp [Wn.cells, h1]), key 3 _ (by simp [Wn.cells, cc1, wc]), key 4 _ (by simp [Wn.cells, uu1, wu])⟩
          have F2 : Hid (∀ W, Below w5.heap.size w5 W → W.cell? ⟨q2, o2 + j * 9, none⟩ = some (.int .i64 y.s) ∧ W.cell? ⟨q2, o2 + j * 9 + 1, none⟩ = some (.int .i64 y.e) ∧ W.cell? ⟨q2, o2 + j * 9 + 2, none⟩ = some (.int .i64 y.s) ∧ W.cell? ⟨q2, o2 + j * 9 + 3, none⟩ = some (.int .i64 (wc G p y.s y.e)) ∧ W.cell? ⟨q2, o2 + j * 9 + 3 + 1, none⟩ = some (.int .i64 (wu G p y.s y.e))) := fun W hW => by
            have key : ∀ i u, z2.cells[i]? = some u → W.cell? ⟨q2, o2 + j * 9 + i, none⟩ = some u := fun i u hu => by
              rw [Nat.add_assoc]; exact (hW.cell (p := ⟨q2, o2 + (j * 9 + i), none⟩) hq2).trans (hc2 _ _ (wcells_at l2 j z2 hz2 i u hu))
            exact ⟨key 0 _ (by simp [Wn.cells, s2]), key 1 _ (by simp [Wn.cells, e2]), key 2 _ (by simp [Wn.cells, h2]), key 3 _ (by simp [Wn.cells, cc2, wc]), key 4 _ (by simp [Wn.cells, uu2, wu])⟩
          have F3 : Hid (∀ W, Below w5.heap.size w5 W → W.cell? ⟨q3, o3 + j * 2, none⟩ = some (.int .i64 y.s) ∧ W.cell? ⟨q3, o3 + j * 2 + 1, none⟩ = some (.int .i64 y.e)) := fun W hW => by
            obtain ⟨y1, y2⟩ := scells_get hy
            exact ⟨(hW.cell (p := ⟨q3, o3 + j * 2, none⟩) hq3).trans (hc3 _ _ y1), by rw [Nat.add_assoc]; exact (hW.cell (p := ⟨q3, o3 + (j * 2 + 1), none⟩) hq3).trans (hc3 _ _ y2)⟩
          have F3' : Hid (∀ W, Below w5.heap.size w5 W → ∀ i y', m[i]? = some y' → W.cell? ⟨q3, o3 + i * 2 + 1, none⟩ = some (.int .i64 y'.e)) := fun W hW i y' hy' => by
            rw [Nat.add_assoc]; exact (hW.cell (p := ⟨q3, o3 + (i * 2 + 1), none⟩) hq3).trans (hc3 _ _ (scells_get hy').2)
          have F6 : Hid (∀ W, Below w5.heap.size w5 W → ∀ i t, p[i]? = some t → W.cell? ⟨q6, o6 + i, none⟩ = some (.int .i64 t)) := fun W hW i t ht => (hW.cell (p := ⟨q6, o6 + i, none⟩) hq6).trans (hc6 i t ht)
          have HCT := Lib.hid (cnts_take (g := G) (p := p) hy)
          have HY := Lib.hid hy
          have hwc1 : 1 ≤ wc G p y.s y.e := by have h1 := cc1; show 1 ≤ wt G (fun _ => 1) p y.s y.e; omega
          have hwc2 : wc G p y.s y.e ≤ 100 := by have h1 := (wt_bd (g := G) hpb y.s y.e).2.1; rw [hpl] at h1; show wt G (fun _ => 1) p y.s y.e ≤ 100; omega
          have HBR := Lib.hid hb
          have HQ : Hid (∀ W, Below w5.heap.size w5 W → q1 < W.heap.size ∧ q2 < W.heap.size ∧ q3 < W.heap.size ∧ q6 < W.heap.size) := fun W hW => by have := hW.size; exact ⟨by omega, by omega, by omega, by omega⟩
          clear hc1 hc2 hc3 hc6 hr1 hr2 hr3 hr6 hz1 hz2 s1 e1 h1 cc1 uu1 ge1 s2 e2 h2 cc2 uu2 hy hb hq1 hq2 hq3 hq6
          go_wp2
          go_loopw [19, 20, 21] (fun c19 c20 i wr => ∃ a : Nat, i = .int .i64 a ∧ a ≤ k ∧ c19 = .int .i64 (wc G (p.take a) y.s y.e) ∧ c20 = .int .i64 (wu G (p.take a) y.s y.e) ∧ Below w5.heap.size w5 wr) (fun _ _ i _ => k - (intOf i).toNat)
          case atStart => exact ⟨0, rfl, Nat.zero_le _, rfl, rfl, HBR.out⟩
          case round =>
            obtain ⟨a, rfl, hak, rfl, rfl, hb⟩ := hrel
            by_cases hal : a < k
            · obtain ⟨t, ht⟩ : ∃ t, p[a]? = some t := ⟨_, List.getElem?_eq_getElem (by omega)⟩
              have htb := hpb t (List.mem_of_getElem? ht)
              have HT1 := Lib.hid (wt_take (g := G) (f := fun _ => 1) ht y.s y.e)
              have HT2 := Lib.hid (wt_take (g := G) (f := fun t => t) ht y.s y.e)
              have hbd := wt_bd (g := G) (p := p.take a) (fun t ht => hpb t (List.mem_of_mem_take ht)) y.s y.e
              have htl : (p.take a).length = a := by simp; omega
              rw [htl] at hbd
              have hc6 := F6.out wr hb a t ht
              obtain ⟨y1, y2⟩ := F3.out wr hb
              obtain ⟨-, -, hq3, hq6⟩ := HQ.out wr hb
              have HBR2 := Lib.hid hb
              change 0 ≤ wc G (p.take a) y.s y.e ∧ wc G (p.take a) y.s y.e ≤ (a : Int) ∧ -(2000 * wc G (p.take a) y.s y.e) ≤ wu G (p.take a) y.s y.e ∧ wu G (p.take a) y.s y.e ≤ 2000 * wc G (p.take a) y.s y.e at hbd
              obtain ⟨ba, bb, bc, bd⟩ := hbd
              obtain ⟨te1, te2⟩ := htb
              clear ht hb
              by_cases h1 : y.s ≤ t
              · have h1d : decide (y.s ≤ t) = true := by simp [h1]
                by_cases h2 : t + G ≤ y.e
                · have h2d : decide (t + G ≤ y.e) = true := by simp [h2]
                  have HI : Hid (ins G y.s y.e t = true) := ins_iff.2 ⟨h1, h2⟩
                  go_wp2
                  go_quiet (fail)
                  go_wp2
                  go_roundw
                  case rel =>
                    have e1 := HT1.out
                    have e2 := HT2.out
                    rw [if_pos HI.out] at e1 e2
                    exact ⟨a + 1, by simp, hal, congrArg (Value.int .i64) e1.symm, congrArg (Value.int .i64) e2.symm, below_drewN HBR2.out _⟩
                  case measure => simp [intOf]; omega
                · have h2d : decide (t + G ≤ y.e) = false := by simp; omega
                  have HI : Hid (¬ ins G y.s y.e t = true) := fun h => h2 (ins_iff.1 h).2
                  go_wp2
                  go_quiet (fail)
                  go_wp2
                  go_roundw
                  case rel =>
                    have e1 := HT1.out
                    have e2 := HT2.out
                    rw [if_neg HI.out, Int.add_zero] at e1 e2
                    exact ⟨a + 1, by simp, hal, congrArg (Value.int .i64) e1.symm, congrArg (Value.int .i64) e2.symm, below_drewN HBR2.out _⟩
                  case measure => simp [intOf]; omega
              · have h1d : decide (y.s ≤ t) = false := by simp; omega
                have HI : Hid (¬ ins G y.s y.e t = true) := fun h => h1 (ins_iff.1 h).1
                go_wp2
                go_quiet (fail)
                go_wp2
                go_roundw
                case rel =>
                  have e1 := HT1.out
                  have e2 := HT2.out
                  rw [if_neg HI.out, Int.add_zero] at e1 e2
                  exact ⟨a + 1, by simp, hal, congrArg (Value.int .i64) e1.symm, congrArg (Value.int .i64) e2.symm, below_drewN HBR2.out _⟩
                case measure => simp [intOf]; omega
            · obtain rfl : a = k := by omega
              have hpt : p.take a = p := by rw [← hpl, List.take_length]
              rw [hpt]
              obtain ⟨a0, a1, a2, a3, a4⟩ := F1.out wr hb
              obtain ⟨b0, b1, b2, b3, b4⟩ := F2.out wr hb
              obtain ⟨y1, y2⟩ := F3.out wr hb
              obtain ⟨hq1, hq2, hq3, hq6⟩ := HQ.out wr hb
              obtain ⟨n0, n1⟩ := HCB.out j
              have hz : (wc G p y.s y.e == 0) = false := by simp; omega
              have HBR2 := Lib.hid hb
              have hnk := HNK.out
              by_cases hj0 : j = 0
              · have g1d : decide (0 < j) = false := by simp; omega
                have g2d : decide ((0 : Int) < (j : Int)) = false := by simp; omega
                clear hb hpt hj0
                go_wp2
                conv => arg 2; simp only [List.append_eq, List.cons_append, List.nil_append]
                refine wp_region_quiet_lit (by kernel_rfl) ord_lex ?_
                repeat (go_big_quiet_step (fail))
                refine wpQuiet_nil ?_
                intro _ hw'
                obtain ⟨nq, hw''⟩ := hw'
                subst hw''
                go_wp2
                go_roundw
                case rel => exact ⟨j + 1, by simp, by omega, by rw [HCT.out]; rfl, below_drewN HBR2.out _⟩
                case measure => simp [intOf]; omega
              · obtain ⟨i, hji⟩ : ∃ i, j = i + 1 := ⟨j - 1, by omega⟩
                obtain ⟨y', hy'⟩ : ∃ y', m[i]? = some y' := ⟨_, List.getElem?_eq_getElem (by have := HNM.out; omega)⟩
                have hyy : y'.e ≤ y.s := by
                  have h1 := HOD.out.ap.2
                  rw [List.pairwise_iff_getElem] at h1
                  have h2 := h1 i j (List.getElem?_eq_some_iff.1 hy').1 (List.getElem?_eq_some_iff.1 HY.out).1 (by omega)
                  rw [(List.getElem?_eq_some_iff.1 hy').2, (List.getElem?_eq_some_iff.1 HY.out).2] at h2
                  exact h2
                have y3 := F3'.out wr hb i y' hy'
                have g1d : decide (0 < j) = true := by simp; omega
                have g2d : decide ((0 : Int) < (j : Int)) = true := by simp; omega
                have g3d : decide (y.s < y'.e) = false := by simp; omega
                have hji2 : (j : Int) - 1 = (i : Int) := by omega
                have hin : i < nm := by omega
                clear hb hpt hj0 hy' hyy hji
                go_wp2
                conv => arg 2; simp only [List.append_eq, List.cons_append, List.nil_append]
                refine wp_region_quiet_lit (by kernel_rfl) ord_lex ?_
                repeat (go_big_quiet_step (fail))
                refine wpQuiet_nil ?_
                intro _ hw'
                obtain ⟨nq, hw''⟩ := hw'
                subst hw''
                go_wp2
                go_roundw
                case rel => exact ⟨j + 1, by simp, by omega, by rw [HCT.out]; rfl, below_drewN HBR2.out _⟩
                case measure => simp [intOf]; omega
        · obtain rfl : j = nm := by omega
          have hmt : m.take j = m := by rw [← HNM.out, List.take_length]
          have htot : cnts G p m = (k : Int) := by have := HOD.out.tot; rw [hpl] at this; exact this
          rw [hmt, htot]
          have HBR := Lib.hid hb
          clear hb hmt htot
          go_wp2_with (first
            | (go_at_call 7; (with_reducible refine (known_any _).mono ?_); rintro e w9 ⟨rfl, hb9⟩))
          go_ret
          have h1 := HW5.out.size
          have h2 := HBR.out.size
          exact ⟨rfl, HW5.out.trans ((HBR.out.mono h1).trans (hb9.mono (by omega)))⟩
end Go.Proofs.Ytjdfjaocidjhlaa
