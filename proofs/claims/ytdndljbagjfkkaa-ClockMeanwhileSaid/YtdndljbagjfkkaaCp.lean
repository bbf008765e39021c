/- A clock is copied. -/
import Derived.Test.YtdndljbagjfkkaaPr
namespace Go.Proofs.Ytdndljbagjfkkaa
open Go.RowKit Go.Shelf Go.Lib
attribute [local go_sem] Oper.semAt_some wide_fn wide_depth wide_fn_in wide_depth_in
/-- What holds one behind the other come to. -/
def ftT (l : List Hd) : ByteArray → Option Int := l.foldl (fun T x => holdT T x.name x.tm) (fun _ => none)
theorem fold_tbl : ∀ (l : List Hd) (T0 : ByteArray → Option Int), (∀ x ∈ l, isTime x.tm = true) → Asc l → ∀ s, (l.foldl (fun T x => holdT T x.name x.tm) T0) s = match l.find? (fun x => decide (x.name = s)) with | some x => some x.tm | none => T0 s
  | [], _, _, _, s => rfl
  | x :: l, T0, ht, ha, s => by
    rw [List.foldl_cons, fold_tbl l _ (fun y hy => ht y (by simp [hy])) (List.pairwise_cons.1 ha).2 s, List.find?_cons]
    unfold holdT
    rw [if_pos (ht x (by simp))]
    by_cases hx : x.name = s
    · have hnone : l.find? (fun y => decide (y.name = s)) = none := by
        rw [List.find?_eq_none]
        intro y hy
        have := (List.pairwise_cons.1 ha).1 y hy
        rw [hx] at this
        simpa using fun e => ne_of_nlt this e.symm
      rw [hnone]
      simp only [hx, decide_true]
      rw [updT_same]
    · have hd : decide (x.name = s) = false := by simpa using hx
      rw [hd]
      rw [updT_ne _ _ (fun e => hx e.symm)]
theorem ftT_eq {H : List Hd} {T : ByteArray → Option Int} (h : HT H T) (ht : ∀ x ∈ H, isTime x.tm = true) : ftT H = T := by
  funext s
  unfold ftT
  rw [fold_tbl H _ ht h.asc s]
  rcases hf : H.find? (fun x => decide (x.name = s)) with _ | x
  · rw [hf]
    rw [List.find?_eq_none] at hf
    rcases hT : T s with _ | t
    · rfl
    · have := hf _ ((h.mem s t).1 hT)
      simp at this
  · have h1 := List.find?_some hf
    have h2 := List.mem_of_find?_eq_some hf
    have h3 : x.name = s := by simpa using h1
    rw [hf]
    show some x.tm = T s
    rw [← h3]
    exact ((h.mem _ _).2 h2).symm
theorem ftT_snoc (l : List Hd) (x : Hd) : ftT (l ++ [x]) = holdT (ftT l) x.name x.tm := by unfold ftT; rw [List.foldl_append]; rfl
/-- What writes a clock's blocks alone leaves the iterator's. -/
theorem only_keeps {Y : Nat → Prop} {W W' : World} {nb B : Nat} (ho : Only Y W W') (ht : ∀ k, Y k → Tame W nb k) (hnb : nb < B) (hm : ∃ es clock, W.heap[nb]? = some (.map es clock)) : KeepsFrom B W W' ∧ KpH B W W' := by
  have lt : ∀ {k : Nat} {o : Obj}, W.heap[k]? = some o → k < W.heap.size := fun {k o} h => by
    rcases Nat.lt_or_ge k W.heap.size with h1 | h1
    · exact h1
    · rw [Array.getElem?_eq_none (by simpa using h1)] at h; cases h
  refine ⟨⟨ho.size, fun k o hk h hc => ?_⟩, ho.size, fun k cs hk h hs => ?_⟩
  · refine (ho.block k (lt h) fun hy => ?_).trans h
    rcases ht k hy with e | ⟨cs, t, hcs, _⟩
    · omega
    · rw [h] at hcs; cases hcs; cases hc
  · refine ho.block k (lt h) fun hy => ?_
    rcases ht k hy with e | ⟨cs', t, hcs, h3⟩
    · obtain ⟨es, clock, hm⟩ := hm
      rw [← e, h] at hm; cases hm
    · rw [h] at hcs
      cases hcs
      exact hs (h3 rfl)
theorem Ck.map_at {w : World} {X : Nat → Prop} {c nb : Nat} {L : List Int} {n : Nat} {T : ByteArray → Option Int} (h : Ck w X c L n T) (h2 : w.cell? ⟨c, 2, none⟩ = some (.map (some nb))) : ∃ es clock, w.heap[nb]? = some (.map es clock) := by
  obtain ⟨XH, mv, v, nb', f, nm, tm, N, hh⟩ := h
  have e : some (Value.map (some nb')) = some (.map (some nb)) := (hh.hs.blk.cell 2).symm.trans h2
  cases e
  obtain ⟨D, ⟨es, clock, h, _⟩, _⟩ := hh.mp
  exact ⟨es, clock, h⟩
/-- A clock stands where a block that is no cells turns. -/
theorem Ck.own {w w' : World} {X : Nat → Prop} {c nb B : Nat} {L : List Int} {n : Nat} {T : ByteArray → Option Int} (h : Ck w X c L n T) (h2 : w.cell? ⟨c, 2, none⟩ = some (.map (some nb))) (hnb : nb < B) {row : Option Nat} (hg : w.grownBy w' row) (hr : ∀ r, row = some r → B ≤ r ∧ ∃ o : Obj, w.heap[r]? = some o ∧ o.isCells = false) :
    ∃ Y, Ck w' Y c L n T ∧ (∀ k, Y k → X k) ∧ w'.cell? ⟨c, 2, none⟩ = some (.map (some nb)) := by
  obtain ⟨nb', Y, e2, _, hc, hs, ht⟩ := h.tame
  have e : some (Value.map (some nb')) = some (.map (some nb)) := e2.symm.trans h2
  cases e
  have ho : Only (fun k => row = some k) w w' := Only.of_grown hg fun b e => .inl e
  have hd : ∀ k, Y k → ¬ row = some k := fun k hk e => by
    obtain ⟨h1, o, h3, h4⟩ := hr k e
    rcases ht k hk with e' | ⟨cs, t, hcs, _⟩
    · omega
    · rw [h3] at hcs; cases hcs; cases h4
  exact ⟨Y, hc.keep ho hd, hs, (hc.c2 ho hd).trans h2⟩

/-- What was handed over. -/
def vals {H : List Hd} (l : List {h : Hd // h ∈ H}) : List Hd := l.map Subtype.val
theorem vals_snoc {H : List Hd} (l : List {h : Hd // h ∈ H}) (x : {h : Hd // h ∈ H}) : vals (l ++ [x]) = vals l ++ [x.1] := by simp [vals]
theorem vals_length {H : List Hd} (l : List {h : Hd // h ∈ H}) : (vals l).length = l.length := by simp [vals]
def firstRangeC : Code → Option Code
  | .rangeFunc f ps a b => some (.rangeFunc f ps a b)
  | .seq a b => match firstRangeC a with
    | some c => some c
    | none => firstRangeC b
  | .block _ c => firstRangeC c
  | .loop c => firstRangeC c
  | .scope c => firstRangeC c
  | .cond _ a b => match firstRangeC a with
    | some c => some c
    | none => firstRangeC b
  | _ => none
noncomputable def copyRange : Code := (Try.f29.body.bind firstRangeC).getD .skip
/-- Between two rounds of Copy. -/
structure CpI (B0 B3 d nb : Nat) (L : List Int) (w W : World) (l : List Hd) : Prop where
  bl : Below B0 w W
  bs : B0 ≤ W.heap.size
  b3 : Boxed W B3 24 (.pointer (some ⟨d, 0, none⟩))
  c2 : W.cell? ⟨d, 2, none⟩ = some (.map (some nb))
  ck : ∃ Y n, Ck W Y d L n (ftT l) ∧ n ≤ l.length ∧ ¬ Y B3 ∧ ∀ k, Y k → B0 ≤ k
set_option maxRecDepth 100000 in
set_option maxHeartbeats 2000000 in
theorem copy_turn (H : List Hd) (B0 B3 B7 d nb : Nat) (L : List Int) (w W0 : World)
    (hseq : SeqStopsK Fence.wide 9 Try.prog 44 #[.pointer (some ⟨B7, 0, none⟩)] (hEnc H) (KpH W0.heap.size) (fun xs => xs.map Subtype.val = H) (fun pre => pre.map Subtype.val <+: H) H.length W0)
    (h0 : CpI B0 B3 d nb L w W0 []) (hnb : nb < W0.heap.size) (hB0 : B0 ≤ W0.heap.size) (hok : ∀ x ∈ H, x.name.size ≤ maxLen) (hH : H.length ≤ 4398046511103)
    (ds : List Deferred) (s0 s1 s2 s4 s5 s6 s7 s8 s9 s10 s11 s12 s13 s14 s15 s16 s17 s18 s20 s21 s22 s23 s24 s25 s26 : Value) (Q : Exit → Act → World → Prop)
    (hdone : ∀ (D : Nat) (W : World), W0.heap.size ≤ D → CpI B0 B3 d nb L w W H → W.heap[D]? = some (.deferred (some [])) → Q .normal { tmps := #[s0, s1, s2, .pointer (some ⟨B3, 0, none⟩), s4, s5, s6, s7, s8, s9, s10, s11, s12, s13, s14, s15, s16, s17, s18, .func (.func 44) #[] #[.pointer (some ⟨B7, 0, none⟩)], s20, s21, s22, s23, s24, s25, s26], defers := { target := .collected D, args := #[] } :: ds } W) :
    Code.wpIn Fence.wide 10 Try.prog copyRange Q { tmps := #[s0, s1, s2, .pointer (some ⟨B3, 0, none⟩), s4, s5, s6, s7, s8, s9, s10, s11, s12, s13, s14, s15, s16, s17, s18, .func (.func 44) #[] #[.pointer (some ⟨B7, 0, none⟩)], s20, s21, s22, s23, s24, s25, s26], defers := ds } W0 := by
  have HSEQ := Lib.hid hseq
  have HOK := Lib.hid hok
  have hb3l := h0.b3.lt
  clear hseq hok
  unfold copyRange
  conv => arg 4; whnf
  refine wpIn_rangeFunc_ownG (α := {h : Hd // h ∈ H}) (w := W0) rfl (by omega) (gf := 44) (lb := #[.pointer (some ⟨B7, 0, none⟩)]) rfl trivial (enters_of Try.func44 (by kernel_rfl) rfl)
    HSEQ.out kpH_t kpH_b (Below.refl _ _) (hEnc_ps H)
    (fun pre W => CpI B0 B3 d nb L w W (vals pre))
    (fun c pre W => False)
    (fun s X Y row hs hg hr => by
      obtain ⟨Z, n, hc, hn, h3, hk⟩ := hs.ck
      obtain ⟨Z', hc', hsub, h2'⟩ := hc.own hs.c2 hnb hg hr
      exact ⟨hs.bl.grown hg hs.bs (fun r e => Nat.le_trans hB0 (hr r e).1), Nat.le_trans hs.bs hg.size, hs.b3.kept hg (fun e => by have := (hr _ e.symm).1; omega), h2', Z', n, hc', hn, fun h => h3 (hsub _ h), fun k h => hk k (hsub k h)⟩)
    (fun c s X Y row hs hg hr => hs)
    h0
    (fun x => { tmps := #[s0, s1, s2, .pointer (some ⟨B3, 0, none⟩), s4, .string x.1.name, .int .i64 x.1.tm, s7, s8, s9, s10, s11, s12, s13, s14, s15, s16, s17, s18, .func (.func 44) #[] #[.pointer (some ⟨B7, 0, none⟩)], .string x.1.name, .int .i64 x.1.tm, s22, s23, s24, s25, s26], defers := [] })
    ?assign ?body ?done ?stop
  case assign =>
    intro l x W K hK
    simp only [hEnc]
    gi_wp2
    exact hK
  case body =>
    rintro l pre x W hi hlt
    obtain ⟨Y, n, hck, hn, h3, hk⟩ := hi.ck
    obtain ⟨nb', Y', e2, _, hck', hsub, htm⟩ := hck.tame
    have e : some (Value.map (some nb')) = some (.map (some nb)) := e2.symm.trans hi.c2
    cases e
    have hnl : n ≤ 4398046511103 := by rw [vals_length] at hn; omega
    have HCALL := Lib.hid (Hold_m hck' x.1.name x.1.tm (HOK.out x.1 x.2) hnl)
    generalize (if isTime x.1.tm = true then (0 : Int) else 2) = rv at HCALL
    have c3 := hi.b3.cell
    have HI := Lib.hid hi
    have HSUB := Lib.hid hsub
    have HTM := Lib.hid htm
    have HNL := Lib.hid hn
    have H3 := Lib.hid h3
    have HK := Lib.hid hk
    have HMAP := Lib.hid (hck.map_at hi.c2)
    have hd1 : 1 ≤ 10 - 1 - 1 := by omega
    clear hi hck hck' hsub htm hn h3 hk e2
    gi_wp2_with (gi_at_call 15; (with_reducible refine (CallsIn.inRound l (callsIn_wide.2 HCALL.out)).mono ?_); rintro e W1 ⟨rfl, ⟨n1, hk1, hn1⟩, ho1, hx1⟩)
    obtain ⟨hkf, hkp⟩ := only_keeps ho1 HTM.out hnb HMAP.out
    have hsl := HI.out.bl.size
    have hsz := ho1.size
    have hnot : ¬ Y' B3 := fun h => H3.out (HSUB.out _ h)
    have hb3W : B3 < W.heap.size := HI.out.b3.lt
    refine ⟨hkf, hkp, ?_⟩
    show CpI B0 B3 d nb L w W1 (vals (pre ++ [x]))
    rw [vals_snoc]
    refine ⟨HI.out.bl.trans (ho1.below (fun b hb => HK.out b (HSUB.out b hb)) HI.out.bs), Nat.le_trans HI.out.bs hsz, ?_, hx1.trans HI.out.c2, Xt Y' W W1, n1, ?_, ?_, ?_, ?_⟩
    · exact (ho1.block B3 hb3W hnot).trans HI.out.b3
    · show Ck W1 _ d L n1 (ftT (vals pre ++ [x.1]))
      rw [ftT_snoc]; exact hk1
    · have := HNL.out; simp at this ⊢; omega
    · rintro (h | h)
      · exact hnot h
      · omega
    · intro k hk
      rcases hk with h | h
      · exact HK.out k (HSUB.out k h)
      · exact Nat.le_trans HI.out.bs h.1
  case done =>
    rintro D xs W hD hxs hi hK
    have hv : vals xs = H := hxs
    rw [hv] at hi
    exact hdone D W hD hi hK
  case stop =>
    rintro D c pre W hD hpre hx hK
    exact hx.elim
set_option maxRecDepth 100000 in
set_option maxHeartbeats 2000000 in
theorem Copy_any {w : World} {X : Nat → Prop} {c : Nat} {L : List Int} {n : Nat} {T : ByteArray → Option Int} {H : List Hd} (hC : Ck w X c L n T) (ht : HT H T) (hok : ∀ x ∈ H, x.name.size ≤ maxLen ∧ isTime x.tm = true) (hL : allT L = true) (hn : n ≤ 4398046511103) :
    Calls Try.prog 29 #[.pointer (some ⟨c, 0, none⟩)] w fun e w' => ∃ d nb, e = .returned (.pointer (some ⟨d, 0, none⟩)) ∧ (∃ n', Ck w' (Nw w w') d L n' T ∧ n' ≤ n) ∧ w'.cell? ⟨d, 2, none⟩ = some (.map (some nb)) ∧ Below w.heap.size w w' := by
  have HT0 := Lib.hid (there_any hC)
  obtain ⟨mv, v, nb0, x0, _, _, ho⟩ := hC.cells
  obtain ⟨A, cap, rfl, _, _⟩ := ownsRow_shape ho
  have HOF := Lib.hid (Of_ok A L.length cap L w (Rd.of_owns ho) rfl ⟨hC.ln, hC.lm, hL⟩)
  obtain ⟨_, _, _, _, _, _, hHn, _⟩ := hC.table ht
  have HHN := Lib.hid hHn
  have HFT := Lib.hid (ftT_eq ht fun x hx => (hok x hx).2)
  have HC := Lib.hid hC
  have HTT := Lib.hid ht
  have HOK := Lib.hid (fun x hx => (hok x hx).1)
  clear hC ht hok ho hHn
  refine (callsIn_wide (n := 10)).1 ?_
  refine callsIn_of_wp_marks Try.func29 rfl trivial ?_ rfl
  simp only [Try.ntmps29, List.size_toArray, List.length_cons, List.length_nil, Nat.reduceAdd, Nat.reduceSub, Array.replicate_succ, Array.replicate_zero, List.push_toArray, List.append_toArray, List.nil_append, List.cons_append]
  gi_wp2_with (first
    | (gi_at_call 34; (with_reducible refine (callsIn_wide.2 HT0.out).mono ?_); rintro e wn ⟨rfl, rfl⟩)
    | (gi_at_call 25; (with_reducible refine (callsIn_wide.2 HOF.out).mono ?_); rintro e w1 ⟨d, rfl, hk1, hb1⟩
       have HK1 := Lib.hid hk1
       have HB1 := Lib.hid hb1
       clear hk1 hb1)
    | (gi_at_call 20; (with_reducible refine (callsIn_wide.2 (Holds_any _ _)).mono ?_); rintro e w' ⟨rfl, rfl⟩))
  obtain ⟨mv1, v1, nb, _, _, hc2, _⟩ := HK1.out.cells
  have hnb1 : nb < w1.heap.size := by
    obtain ⟨es, clock, hm⟩ := HK1.out.map_at hc2
    rcases Nat.lt_or_ge nb w1.heap.size with h1 | h1
    · exact h1
    · rw [Array.getElem?_eq_none (by simpa using h1)] at hm; cases hm
  have hs1 := HB1.out.size
  have a1 := below_alloc w1 (.cells #[.pointer (some ⟨d, 0, none⟩)] 24)
  have a2 := below_alloc (w1.alloc (.cells #[.pointer (some ⟨d, 0, none⟩)] 24)) (.cells #[.pointer (some ⟨c, 0, none⟩)] 24)
  have hsz2 : ((w1.alloc (.cells #[.pointer (some ⟨d, 0, none⟩)] 24)).alloc (.cells #[.pointer (some ⟨c, 0, none⟩)] 24)).heap.size = w1.heap.size + 2 := by simp
  have b3 := (Boxed.new w1 24 (.pointer (some ⟨d, 0, none⟩))).alloc (.cells #[.pointer (some ⟨c, 0, none⟩)] 24)
  have b7 := Boxed.new (w1.alloc (.cells #[.pointer (some ⟨d, 0, none⟩)] 24)) 24 (.pointer (some ⟨c, 0, none⟩))
  rw [World.size_alloc] at b7
  have HA : Hid (Below w1.heap.size w1 ((w1.alloc (.cells #[.pointer (some ⟨d, 0, none⟩)] 24)).alloc (.cells #[.pointer (some ⟨c, 0, none⟩)] 24))) := a1.trans (a2.mono (by simp))
  clear a1 a2
  have HBW := Lib.hid (HB1.out.trans (HA.out.mono hs1))
  have HNB := Lib.hid hnb1
  have HK2 := Lib.hid (HK1.out.below HA.out)
  have HC2 : Hid (((w1.alloc (.cells #[.pointer (some ⟨d, 0, none⟩)] 24)).alloc (.cells #[.pointer (some ⟨c, 0, none⟩)] 24)).cell? ⟨d, 2, none⟩ = some (.map (some nb))) := (HA.out.cell (p := ⟨d, 2, none⟩) (Clock.block_lt hc2)).trans hc2
  have HB3 := Lib.hid b3
  have HB7 := Lib.hid b7
  have HS2 := Lib.hid hsz2
  have HS1 := Lib.hid hs1
  clear hc2 hnb1 b3 b7 hsz2 hs1
  revert HA HBW HK2 HC2 HB3 HB7 HS2
  generalize (w1.alloc (.cells #[.pointer (some ⟨d, 0, none⟩)] 24)).alloc (.cells #[.pointer (some ⟨c, 0, none⟩)] 24) = W0
  intro HA HBW HK2 HC2 HB3 HB7 HS2
  refine copy_turn H w.heap.size w1.heap.size (w1.heap.size + 1) d nb L w W0
    (holds_stops 9 _ HC.out HTT.out (by omega) HOK.out W0 HBW.out (Nat.le_refl _) (w1.heap.size + 1) HB7.out.cell)
    ⟨HBW.out, HBW.out.size, HB3.out, HC2.out, _, 0, HK2.out, Nat.zero_le _, fun h => by have := h.2; omega, fun k h => h.1⟩
    (by have := HNB.out; have := HS2.out; omega) HBW.out.size HOK.out (by have := HHN.out; omega) _ _ _ _ _ _ _ _ _ _ _ _ _ _ _ _ _ _ _ _ _ _ _ _ _ _ _ ?_
  rintro D W hD hi hK
  have HI := Lib.hid hi
  have HKK := Lib.hid hK
  have c3 := hi.b3.cell
  clear hi hK
  gi_wp2
  have hg := grownBy_putObj' W D (.deferred none)
  have hr : ∀ r, some D = some r → W0.heap.size ≤ r ∧ ∃ o : Obj, W.heap[r]? = some o ∧ o.isCells = false := fun r e => by cases e; exact ⟨hD, _, HKK.out, rfl⟩
  obtain ⟨Y, n', hck, hn', _, hY⟩ := HI.out.ck
  obtain ⟨Y', hck', hsub, hcc⟩ := hck.own HI.out.c2 (by have := HNB.out; have := HS2.out; omega) hg hr
  rw [HFT.out] at hck'
  have hbb : Below w.heap.size w (W.putObj D (.deferred none)) := HI.out.bl.grown hg HI.out.bs (fun r e => by cases e; exact Nat.le_trans HBW.out.size hD)
  refine ⟨by simp, .inl ⟨_, _, rfl, run_takeDeferred HKK.out, ?_⟩⟩
  refine ⟨_, results_tmp rfl _ _ _, d, nb, rfl, ⟨n', hck'.wide (fun k hk => ⟨hY k (hsub k hk), hck'.xl k hk⟩) (fun k hk => hk.2), by have := HHN.out; omega⟩, hcc, hbb⟩
end Go.Proofs.Ytdndljbagjfkkaa
