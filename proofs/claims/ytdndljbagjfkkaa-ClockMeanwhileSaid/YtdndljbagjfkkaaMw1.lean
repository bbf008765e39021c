/- ClockMeanwhile: a round of the loop over what a clock held. -/
import Derived.Test.YtdndljbagjfkkaaQuietIn
namespace Go.Proofs.Ytdndljbagjfkkaa
open Go.RowKit Go.Shelf Go.Lib
attribute [local go_sem] Oper.semAt_some wide_fn wide_depth wide_fn_in wide_depth_in
section
variable {w w' : World} {X : Nat → Prop} {c d nb : Nat} {L : List Int} {H : List Hd} {B : Nat}
/-- As many holds as there are bound it. -/
theorem PrS.tight (h : PrS w X c d nb L H B) : PrS w X c d nb L H H.length := by
  obtain ⟨T, ht, Xc, Xr, n, hc, hr, h1, h2, h3⟩ := h.ex
  obtain ⟨_, _, _, _, _, _, hHn, _⟩ := hc.table ht
  exact ⟨⟨T, ht, Xc, Xr, n, hc, hr, by omega, Nat.le_refl _, h3⟩, h.ok⟩
theorem PrS.tame (h : PrS w X c d nb L H B) : ∃ Y, PrS w Y c d nb L H B ∧ (∀ k, Y k → X k) ∧ (∀ k, Y k → Tame w nb k) ∧ X nb ∧ w.cell? ⟨c, 2, none⟩ = some (.map (some nb)) ∧ ∃ es clock, w.heap[nb]? = some (.map es clock) := by
  obtain ⟨T, ht, hp⟩ := h.ex
  obtain ⟨Y, hy, h1, h2, h3⟩ := hp.tame
  obtain ⟨Xc, Xr, n, hc, _, _, _, _, _, _, _, h7⟩ := hp
  exact ⟨Y, ⟨⟨T, ht, hy⟩, h.ok⟩, h1, h2, h3, h7, hc.map_at h7⟩
theorem PrS.own {C : Nat} (h : PrS w X c d nb L H B) (hnb : nb < C) {row : Option Nat} (hg : w.grownBy w' row) (hr : ∀ r, row = some r → C ≤ r ∧ ∃ o : Obj, w.heap[r]? = some o ∧ o.isCells = false) : ∃ Y, PrS w' Y c d nb L H B ∧ ∀ k, Y k → X k := by
  obtain ⟨Y, hy, h1, h2, _⟩ := h.tame
  refine ⟨Y, hy.keep (Only.of_grown (X := fun k => row = some k) hg fun b e => .inl e) (fun k hk e => ?_), h1⟩
  obtain ⟨h3, o, h4, h5⟩ := hr k e
  rcases h2 k hk with e' | ⟨cs, t, hcs, _⟩
  · omega
  · rw [h4] at hcs; cases hcs; cases h5
end
theorem keepsFrom_t {B : Nat} {A C D : World} (h : KeepsFrom B A C) (k : KeepsFrom B C D) : KeepsFrom B A D := ⟨Nat.le_trans h.size k.size, fun j o hj ho hc => k.same j o hj (h.same j o hj ho hc) hc⟩
theorem KeepsOthers.drewN (W : World) (n : Nat) : KeepsOthers W (W.drewN n) := ⟨Nat.le_refl _, fun _ _ h _ => h⟩
theorem stH_length (H : List Hd) (s : Sp) : (stH H s).length ≤ H.length + 1 := by
  unfold stH
  split
  · unfold holdH
    split
    · exact hoH_length _ _
    · omega
  · split
    · have := frH_length (H := H) s.name; omega
    · omega
noncomputable def mwRange : Code := (Try.f4.body.bind firstRangeC).getD .skip
/-- Between two rounds. -/
structure MwI (W0 : World) (X0 : Nat → Prop) (B12 c d nb N0 : Nat) (W : World) (k : Nat) : Prop where
  pr : ∃ X L H, PrS W X c d nb L H H.length ∧ (∀ b, X b → X0 b ∨ W0.heap.size ≤ b) ∧ H.length ≤ N0 + k
  on : Only (fun b => X0 b ∨ b = B12) W0 W
  bn : Boxed W B12 3 (.int .i64 (k : Int))
theorem lt_of_block {w : World} {k : Nat} {o : Obj} (h : w.heap[k]? = some o) : k < w.heap.size := (Array.getElem?_eq_some_iff.1 h).1
theorem mw_store {W0 W W1 : World} {X0 : Nat → Prop} {B12 c d nb N0 k : Nat} (hpr : ∃ X L H, PrS W1 X c d nb L H H.length ∧ (∀ b, X b → X0 b ∨ W0.heap.size ≤ b) ∧ H.length ≤ N0 + (k + 1)) (hon : Only (fun b => X0 b ∨ b = B12) W0 W1) (hbn : Boxed W1 B12 3 (.int .i64 (k : Int))) (hn : ¬ X0 B12) (hl : B12 < W0.heap.size) (hk : KeepsFrom W0.heap.size W W1 ∧ KpH W0.heap.size W W1) :
    KeepsFrom W0.heap.size W (W1.setCell ⟨B12, 0, none⟩ (.int .i64 ((k : Int) + 1))) ∧ KpH W0.heap.size W (W1.setCell ⟨B12, 0, none⟩ (.int .i64 ((k : Int) + 1))) ∧ MwI W0 X0 B12 c d nb N0 (W1.setCell ⟨B12, 0, none⟩ (.int .i64 ((k : Int) + 1))) (k + 1) := by
  have ho : Only (fun b => b = B12) W1 (W1.setCell ⟨B12, 0, none⟩ (.int .i64 ((k : Int) + 1))) := Only.set (X := fun b => b = B12) ⟨B12, 0, none⟩ _ rfl W1
  obtain ⟨X, L, H, hp, h1, h2⟩ := hpr
  refine ⟨keepsFrom_t hk.1 ((KeepsOthers.setCell _ _ _).from _), kpH_t hk.2 ⟨ho.size, fun j cs hj hc _ => ho.block j (lt_of_block hc) (by omega)⟩, ⟨X, L, H, ⟨?_, hp.ok⟩, h1, h2⟩, hon.trans ho fun b e => .inl (.inr e), by have := hbn.set (.int .i64 ((k : Int) + 1)); exact_mod_cast this⟩
  obtain ⟨T, ht, hg⟩ := hp.ex
  exact ⟨T, ht, hg.keep ho fun j hj e => by
    have e' : j = B12 := e
    subst e'
    rcases h1 _ hj with h3 | h3
    · exact hn h3
    · omega⟩
set_option maxRecDepth 100000 in
set_option maxHeartbeats 4000000 in
theorem mw_turn (H : List Hd) (mo : List Sp) (N B3 B4 B5 B7 B10 B11 B12 c d nb dw N0 m cap2 capw : Nat) (A Ab : Option Addr) (X0 : Nat → Prop) (W0 : World)
    (hseq : SeqStopsK Fence.wide 9 Try.prog 44 #[.pointer (some ⟨B11, 0, none⟩)] (hEnc H) (KpH W0.heap.size) (fun xs => xs.map Subtype.val = H) (fun pre => pre.map Subtype.val <+: H) H.length W0)
    (b3 : Boxed W0 B3 22 (.slice Ab m cap2)) (b4 : Boxed W0 B4 4 (.bool false)) (b5 : Boxed W0 B5 24 (.pointer (some ⟨c, 0, none⟩))) (b7 : Boxed W0 B7 40 (.pointer (some ⟨d, 0, none⟩))) (b10 : Boxed W0 B10 40 (.pointer (some ⟨dw, 0, none⟩)))
    (cw : W0.cell? ⟨dw, 1, none⟩ = some (.slice A H.length capw)) (hw : Rw W0 A H) (hmo : Rd W0 (.slice Ab m cap2) m (spc mo)) (hml : mo.length = m) (hnm : ∀ s ∈ mo, s.name.size ≤ maxLen)
    (hx : ∀ b, X0 b → N ≤ b ∧ b ≠ B3 ∧ b ≠ B4 ∧ b ≠ B5 ∧ b ≠ B7 ∧ b ≠ B10 ∧ b ≠ B12 ∧ b ≠ dw ∧ ∀ g, A = some ⟨g, 0, none⟩ → b ≠ g)
    (hne : B12 ≠ B3 ∧ B12 ≠ B4 ∧ B12 ≠ B5 ∧ B12 ≠ B7 ∧ B12 ≠ B10 ∧ B12 ≠ dw ∧ N ≤ B12 ∧ ∀ g, A = some ⟨g, 0, none⟩ → B12 ≠ g) (hmN : 0 < m → ∀ g off, Ab = some ⟨g, off, none⟩ → g < N)
    (h0 : MwI W0 X0 B12 c d nb N0 W0 0) (hnb : nb < W0.heap.size) (hN0 : N0 + H.length ≤ 4398046511102)
    (ds : List Deferred) (s0 s1 s2 s6 s8 s9 s11 s13 s14 s15 s16 s17 s18 s19 s20 s21 s22 s23 s24 s25 s26 s27 s28 s29 s30 s31 s32 s33 s34 s35 s36 s37 s38 s39 s40 s41 s42 s43 s44 s45 s46 s47 s48 s49 s50 s51 s52 s53 s54 s55 s56 s57 s58 s59 s60 s61 s62 s63 s64 s65 s66 s67 s69 s70 s71 s72 s73 s74 s75 s76 s77 s78 s79 s80 s81 s82 s83 s84 s85 s86 s87 s88 s89 s90 s91 s92 s93 s94 s95 s96 s97 s98 s99 s100 s101 s102 s103 s104 s105 s106 s107 s108 s109 s110 s111 s112 s113 s114 s115 s116 s117 s118 s119 s120 s121 s122 s123 s124 s125 s126 s127 s128 s129 s130 s131 s132 s133 s134 s135 s136 s137 : Value) (Q : Exit → Act → World → Prop)
    (hdone : ∀ (D : Nat) (W : World), W0.heap.size ≤ D → MwI W0 X0 B12 c d nb N0 W H.length → W.heap[D]? = some (.deferred (some [])) → Q .normal { tmps := #[s0, s1, s2, .pointer (some ⟨B3, 0, none⟩), .pointer (some ⟨B4, 0, none⟩), .pointer (some ⟨B5, 0, none⟩), s6, .pointer (some ⟨B7, 0, none⟩), s8, s9, .pointer (some ⟨B10, 0, none⟩), s11, .pointer (some ⟨B12, 0, none⟩), s13, s14, s15, s16, s17, s18, s19, s20, s21, s22, s23, s24, s25, s26, s27, s28, s29, s30, s31, s32, s33, s34, s35, s36, s37, s38, s39, s40, s41, s42, s43, s44, s45, s46, s47, s48, s49, s50, s51, s52, s53, s54, s55, s56, s57, s58, s59, s60, s61, s62, s63, s64, s65, s66, s67, .func (.func 44) #[] #[.pointer (some ⟨B11, 0, none⟩)], s69, s70, s71, s72, s73, s74, s75, s76, s77, s78, s79, s80, s81, s82, s83, s84, s85, s86, s87, s88, s89, s90, s91, s92, s93, s94, s95, s96, s97, s98, s99, s100, s101, s102, s103, s104, s105, s106, s107, s108, s109, s110, s111, s112, s113, s114, s115, s116, s117, s118, s119, s120, s121, s122, s123, s124, s125, s126, s127, s128, s129, s130, s131, s132, s133, s134, s135, s136, s137], defers := { target := .collected D, args := #[] } :: ds } W) :
    Code.wpIn Fence.wide 10 Try.prog mwRange Q { tmps := #[s0, s1, s2, .pointer (some ⟨B3, 0, none⟩), .pointer (some ⟨B4, 0, none⟩), .pointer (some ⟨B5, 0, none⟩), s6, .pointer (some ⟨B7, 0, none⟩), s8, s9, .pointer (some ⟨B10, 0, none⟩), s11, .pointer (some ⟨B12, 0, none⟩), s13, s14, s15, s16, s17, s18, s19, s20, s21, s22, s23, s24, s25, s26, s27, s28, s29, s30, s31, s32, s33, s34, s35, s36, s37, s38, s39, s40, s41, s42, s43, s44, s45, s46, s47, s48, s49, s50, s51, s52, s53, s54, s55, s56, s57, s58, s59, s60, s61, s62, s63, s64, s65, s66, s67, .func (.func 44) #[] #[.pointer (some ⟨B11, 0, none⟩)], s69, s70, s71, s72, s73, s74, s75, s76, s77, s78, s79, s80, s81, s82, s83, s84, s85, s86, s87, s88, s89, s90, s91, s92, s93, s94, s95, s96, s97, s98, s99, s100, s101, s102, s103, s104, s105, s106, s107, s108, s109, s110, s111, s112, s113, s114, s115, s116, s117, s118, s119, s120, s121, s122, s123, s124, s125, s126, s127, s128, s129, s130, s131, s132, s133, s134, s135, s136, s137], defers := ds } W0 := by
  have HSEQ := Lib.hid hseq
  have HW := Lib.hid hw
  have HMO := Lib.hid hmo
  have HML := Lib.hid hml
  have HNM := Lib.hid hnm
  have HX := Lib.hid hx
  have HNE := Lib.hid hne
  have HMN := Lib.hid hmN
  have h12l := h0.bn.lt
  clear hseq hw hmo hml hnm hx hne hmN
  unfold mwRange
  conv => arg 4; whnf
  refine wpIn_rangeFunc_ownG (α := {h : Hd // h ∈ H}) (w := W0) rfl (by omega) (gf := 44) (lb := #[.pointer (some ⟨B11, 0, none⟩)]) rfl trivial (enters_of Try.func44 (by kernel_rfl) rfl)
    HSEQ.out kpH_t kpH_b (Below.refl _ _) (hEnc_ps H)
    (fun pre W => MwI W0 X0 B12 c d nb N0 W pre.length)
    (fun c' pre W => c' = .ret ∧ ¬ (pre.map Subtype.val <+: H))
    (fun s Xw Y row hs hg hr => by
      obtain ⟨X, L, H', hp, hsub, hl⟩ := hs.pr
      obtain ⟨Y', hp', hs'⟩ := hp.own hnb hg hr
      exact ⟨⟨Y', L, H', hp', fun b hb => hsub b (hs' b hb), hl⟩, hs.on.trans (Only.of_grown (X := fun b => row = some b) hg fun b e => .inl e) (fun b e => .inr (hr b e).1), hs.bn.kept hg (fun e => by have := (hr _ e.symm).1; omega)⟩)
    (fun c' s Xw Y row hs hg hr => hs)
    h0
    (fun x => { tmps := #[s0, s1, s2, .pointer (some ⟨B3, 0, none⟩), .pointer (some ⟨B4, 0, none⟩), .pointer (some ⟨B5, 0, none⟩), s6, .pointer (some ⟨B7, 0, none⟩), s8, s9, .pointer (some ⟨B10, 0, none⟩), s11, .pointer (some ⟨B12, 0, none⟩), .string x.1.name, .int .i64 x.1.tm, s15, s16, s17, s18, s19, s20, s21, s22, s23, s24, s25, s26, s27, s28, s29, s30, s31, s32, s33, s34, s35, s36, s37, s38, s39, s40, s41, s42, s43, s44, s45, s46, s47, s48, s49, s50, s51, s52, s53, s54, s55, s56, s57, s58, s59, s60, s61, s62, s63, s64, s65, s66, s67, .func (.func 44) #[] #[.pointer (some ⟨B11, 0, none⟩)], .string x.1.name, .int .i64 x.1.tm, s71, s72, s73, s74, s75, s76, s77, s78, s79, s80, s81, s82, s83, s84, s85, s86, s87, s88, s89, s90, s91, s92, s93, s94, s95, s96, s97, s98, s99, s100, s101, s102, s103, s104, s105, s106, s107, s108, s109, s110, s111, s112, s113, s114, s115, s116, s117, s118, s119, s120, s121, s122, s123, s124, s125, s126, s127, s128, s129, s130, s131, s132, s133, s134, s135, s136, s137], defers := [] })
    ?assign ?body ?done ?stop
  case assign =>
    intro l x W K hK
    simp only [hEnc]
    gi_wp2
    exact hK
  case body =>
    rintro l pre x W hi hlt
    obtain ⟨y, hy⟩ : ∃ y, H[pre.length]? = some y := ⟨_, List.getElem?_eq_getElem hlt⟩
    have HNP : Hid (x.1 ≠ y → ¬ ((pre ++ [x]).map Subtype.val <+: H)) := fun h => not_pre hy h
    obtain ⟨g, rfl, hgl, z0', z1'⟩ := HW.out _ _ hy
    have HE : Hid ((pre ++ [x]).length = pre.length + 1) := by simp [Hid]
    have HI := Lib.hid hi
    obtain ⟨n3, n4, n5, n7, n10, ndw, nN, ng⟩ := HNE.out
    have KB : ∀ {b : Nat} {t : TypeId} {v : Value}, Boxed W0 b t v → b ≠ B12 → ¬ X0 b → Boxed W b t v := fun {b t v} h h1 h2 => (hi.on.block b h.lt (fun h3 => h3.elim h2 h1)).trans h
    have q3 := KB b3 (Ne.symm n3) (fun h => (HX.out _ h).2.1 rfl)
    have q4 := KB b4 (Ne.symm n4) (fun h => (HX.out _ h).2.2.1 rfl)
    have q5 := KB b5 (Ne.symm n5) (fun h => (HX.out _ h).2.2.2.1 rfl)
    have q7 := KB b7 (Ne.symm n7) (fun h => (HX.out _ h).2.2.2.2.1 rfl)
    have q10 := KB b10 (Ne.symm n10) (fun h => (HX.out _ h).2.2.2.2.2.1 rfl)
    have hdl : dw < W0.heap.size := Clock.block_lt cw
    have hd1 := hi.on.block dw hdl (fun h3 => h3.elim (fun h => (HX.out _ h).2.2.2.2.2.2.2.1 rfl) (fun h => ndw h.symm))
    have hg1 := hi.on.block g hgl (fun h3 => h3.elim (fun h => (HX.out _ h).2.2.2.2.2.2.2.2 g rfl rfl) (fun h => ng g rfl h.symm))
    have cw1 := (World.cell?_of_block (a := ⟨dw, 1, none⟩) hd1).trans cw
    have z0 := (World.cell?_of_block (a := ⟨g, pre.length * 2, none⟩) hg1).trans z0'
    have z1 := (World.cell?_of_block (a := ⟨g, pre.length * 2 + 1, none⟩) hg1).trans z1'
    have c3 := q3.cell
    have c4 := q4.cell
    have f4 := q4.frozen
    have c5 := q5.cell
    have c7 := q7.cell
    have c10 := q10.cell
    have c12 := hi.bn.cell
    have f12 := hi.bn.frozen
    have HQ3 := Lib.hid q3
    have HQ5 := Lib.hid q5
    have HQ7 := Lib.hid q7
    clear hi hy z0' z1' hd1 hg1 q3 q4 q5 q7 q10 KB HW
    obtain ⟨k, hk⟩ : ∃ k, pre.length = k := ⟨_, rfl⟩
    obtain ⟨hn, hme⟩ : ∃ hn, H.length = hn := ⟨_, rfl⟩
    rw [hk] at HI HE c12 z0 z1 hlt
    rw [hme] at hlt cw1 hN0
    clear hk hme
    have hge1 : decide ((hn : Int) ≤ (k : Int)) = false := by simp; omega
    have hge2 : decide (hn ≤ k) = false := by simp; omega
    have hlt1 : (k : Int) < (hn : Int) := by omega
    by_cases hxy : x.1 = y
    · subst hxy
      gi_wp2
      refine wpIn_region_quiet_lit (by kernel_rfl) (by kernel_rfl) (by kernel_rfl) ?_
      repeat (go_big_quiet_step (fail))
      refine wpQuiet_nil ?_
      intro _ hw'
      obtain ⟨nq, hw''⟩ := hw'
      subst hw''
      have HKQ : Hid (KeepsFrom W0.heap.size W (W.drewN nq) ∧ KpH W0.heap.size W (W.drewN nq)) := ⟨(KeepsOthers.drewN W nq).from _, kpH_below (below_drewN (Below.refl _ _) nq)⟩
      have HIQ : Hid (MwI W0 X0 B12 c d nb N0 (W.drewN nq) k) := by
        obtain ⟨⟨X, L, H', hp, h1, h2⟩, h3, h4⟩ := HI.out
        exact ⟨⟨X, L, H', hp.below (below_drewN (Below.refl _ _) nq), h1, h2⟩, h3.then (Only.drewN nq W), h4⟩
      have d3 : (W.drewN nq).cell? ⟨B3, 0, none⟩ = some (.slice Ab m cap2) := c3
      have d5 : (W.drewN nq).cell? ⟨B5, 0, none⟩ = some (.pointer (some ⟨c, 0, none⟩)) := c5
      have d7 : (W.drewN nq).cell? ⟨B7, 0, none⟩ = some (.pointer (some ⟨d, 0, none⟩)) := c7
      have d12 : (W.drewN nq).cell? ⟨B12, 0, none⟩ = some (.int .i64 (k : Int)) := c12
      have e12 : (W.drewN nq).frozen? ⟨B12, 0, none⟩ = false := f12
      have HD3 : Hid (Boxed (W.drewN nq) B3 22 (.slice Ab m cap2)) := HQ3.out
      have HD5 : Hid (Boxed (W.drewN nq) B5 24 (.pointer (some ⟨c, 0, none⟩))) := HQ5.out
      have HD7 : Hid (Boxed (W.drewN nq) B7 40 (.pointer (some ⟨d, 0, none⟩))) := HQ7.out
      clear HI c3 c4 f4 c5 c7 c10 c12 f12 cw1 z0 z1 HQ3 HQ5 HQ7 hge1 hge2 hlt1
      revert HKQ HIQ d3 d5 d7 d12 e12 HD3 HD5 HD7
      generalize W.drewN nq = Wq
      intro HKQ HIQ d3 d5 d7 d12 e12 HD3 HD5 HD7
      have hmx : m ≤ 9223372036854775807 := by
        obtain ⟨_, _, hv, h1, h2, _⟩ := HMO.out
        cases hv
        unfold maxLen at h2; omega
      by_cases hkm : k < m
      · obtain ⟨s, hsi⟩ : ∃ s, mo[k]? = some s := ⟨_, List.getElem?_eq_getElem (by have := HML.out; omega)⟩
        obtain ⟨_, _, hv, _, _, hxx⟩ := HMO.out
        cases hv
        obtain ⟨g2, off, rfl, hg2', hc⟩ := hxx (by omega)
        have hg2N := HMN.out (by omega) g2 off rfl
        have hg2q : Wq.heap[g2]? = W0.heap[g2]? := HIQ.out.on.block g2 hg2' (fun h3 => h3.elim (fun h => by have := (HX.out _ h).1; omega) (fun h => by omega))
        have hcc := fun j v hj => (World.cell?_of_block (a := ⟨g2, off + (k * 7 + j), none⟩) hg2q).trans (hc (k * 7 + j) v (spc_at hsi j v hj))
        have z0 := hcc 0 _ rfl
        have z1 := hcc 1 _ rfl
        have z2 := hcc 2 _ rfl
        have z3 := hcc 3 _ rfl
        have z4 := hcc 4 _ rfl
        have z5 := hcc 5 _ rfl
        have z6 := hcc 6 _ rfl
        simp only [← Nat.add_assoc, Nat.add_zero] at z0 z1 z2 z3 z4 z5 z6
        have hsn : s.name.size ≤ maxLen := HNM.out s (List.mem_of_getElem? hsi)
        obtain ⟨X, L, H', hp, hsub, hl⟩ := HIQ.out.pr
        obtain ⟨Y, hpY, hYX, hYT, _, _, hmap⟩ := hp.tame
        have hYo : ∀ b, Y b → X0 b ∨ W0.heap.size ≤ b := fun b hb => hsub b (hYX b hb)
        have hYn : ∀ b, b < W0.heap.size → ¬ X0 b → ¬ Y b := fun b h1 h2 h3 => (hYo b h3).elim h2 (fun h => by omega)
        have hd1 : 1 ≤ 10 - 1 - 1 := by omega
        have HCALL : Hid (Calls Try.prog 21 #[.pointer (some ⟨c, 0, none⟩), .pointer (some ⟨d, 0, none⟩), .agg #[.int .i64 s.kind, .int .i64 s.who, .int .i64 s.to_, .int .i64 s.src, .int .i64 s.leave, .string s.name, .int .i64 s.tm]] Wq.drew fun e w' => e = .returned (.bool true) ∧ PlQ Wq.drew Y c d nb (stM L s) (stH H' s) (H'.length + 2) w') := plays_yes (hpY.below (below_drew Wq)) s hsn (by omega)
        have HSV0 : Hid (∀ W1, Only Y Wq.drew W1 → (W1.cell? ⟨B12, 0, none⟩ = some (.int .i64 (k : Int)) ∧ W1.cell? ⟨B3, 0, none⟩ = some (.slice (some ⟨g2, off, none⟩) m cap2) ∧ W1.cell? ⟨B5, 0, none⟩ = some (.pointer (some ⟨c, 0, none⟩)) ∧ W1.cell? ⟨B7, 0, none⟩ = some (.pointer (some ⟨d, 0, none⟩)) ∧ W1.cell? ⟨g2, off + k * 7, none⟩ = some (.int .i64 s.kind) ∧ W1.cell? ⟨g2, off + k * 7 + 1, none⟩ = some (.int .i64 s.who) ∧ W1.cell? ⟨g2, off + k * 7 + 2, none⟩ = some (.int .i64 s.to_) ∧ W1.cell? ⟨g2, off + k * 7 + 3, none⟩ = some (.int .i64 s.src) ∧ W1.cell? ⟨g2, off + k * 7 + 4, none⟩ = some (.int .i64 s.leave) ∧ W1.cell? ⟨g2, off + k * 7 + 5, none⟩ = some (.string s.name) ∧ W1.cell? ⟨g2, off + k * 7 + 6, none⟩ = some (.int .i64 s.tm))) := fun W1 ho => by
          have kb : ∀ {b : Nat} {j : Nat} {v : Value}, b < W0.heap.size → ¬ X0 b → Wq.cell? ⟨b, j, none⟩ = some v → W1.cell? ⟨b, j, none⟩ = some v := fun {b j v} h1 h2 h3 => (World.cell?_of_block (a := ⟨b, j, none⟩) (ho.block b (Clock.block_lt (w := Wq) h3) (hYn b h1 h2))).trans h3
          exact ⟨kb h12l (fun h => (HX.out _ h).2.2.2.2.2.2.1 rfl) d12, kb b3.lt (fun h => (HX.out _ h).2.1 rfl) d3, kb b5.lt (fun h => (HX.out _ h).2.2.2.1 rfl) d5, kb b7.lt (fun h => (HX.out _ h).2.2.2.2.1 rfl) d7,
            kb hg2' (fun h => by have := (HX.out _ h).1; omega) z0, kb hg2' (fun h => by have := (HX.out _ h).1; omega) z1, kb hg2' (fun h => by have := (HX.out _ h).1; omega) z2, kb hg2' (fun h => by have := (HX.out _ h).1; omega) z3, kb hg2' (fun h => by have := (HX.out _ h).1; omega) z4, kb hg2' (fun h => by have := (HX.out _ h).1; omega) z5, kb hg2' (fun h => by have := (HX.out _ h).1; omega) z6⟩
        have HYO := Lib.hid hYo
        have HYN := Lib.hid hYn
        have HYT := Lib.hid hYT
        have HMAP := Lib.hid hmap
        have HLL := Lib.hid hl
        have hkmi : (k : Int) < (m : Int) := by omega
        have hkm1 : decide (k < m) = true := by simpa using hkm
        clear hc hcc hxx hsi hsn hp hsub hl hpY hYX hYT hmap hYo hYn hg2q d3 d5 d7 d12 z0 z1 z2 z3 z4 z5 z6
        gi_wp2
        refine wpIn_region_held (S := fun W1 => (W1.cell? ⟨B12, 0, none⟩ = some (.int .i64 (k : Int)) ∧ W1.cell? ⟨B3, 0, none⟩ = some (.slice (some ⟨g2, off, none⟩) m cap2) ∧ W1.cell? ⟨B5, 0, none⟩ = some (.pointer (some ⟨c, 0, none⟩)) ∧ W1.cell? ⟨B7, 0, none⟩ = some (.pointer (some ⟨d, 0, none⟩)) ∧ W1.cell? ⟨g2, off + k * 7, none⟩ = some (.int .i64 s.kind) ∧ W1.cell? ⟨g2, off + k * 7 + 1, none⟩ = some (.int .i64 s.who) ∧ W1.cell? ⟨g2, off + k * 7 + 2, none⟩ = some (.int .i64 s.to_) ∧ W1.cell? ⟨g2, off + k * 7 + 3, none⟩ = some (.int .i64 s.src) ∧ W1.cell? ⟨g2, off + k * 7 + 4, none⟩ = some (.int .i64 s.leave) ∧ W1.cell? ⟨g2, off + k * 7 + 5, none⟩ = some (.string s.name) ∧ W1.cell? ⟨g2, off + k * 7 + 6, none⟩ = some (.int .i64 s.tm))) (by kernel_rfl) (by kernel_rfl) ?_ (fun _ _ h => h)
        have hHeld := HSV0.out Wq.drew (Only.refl _ _)
        refine wpAnyH_take (i := 0) (oi := ⟨some 102, _, _, _, _, _⟩) (v := .int .i64 (k : Int)) rfl (by kernel_rfl) (by kernel_rfl) (by kernel_rfl) (fun _ _ _ h => h) (Or.inl ⟨by rfl, ?_⟩) (by assumption) ?_
        · (intro w hSw; obtain ⟨y0, y1, y2, y3, y4, y5, y6, y7, y8, y9, y10⟩ := hSw; go_simp)
        try simp only [Act.put, List.setIfInBounds_toArray, List.set_cons_zero, List.set_cons_succ]
        refine wpAnyH_take (i := 1) (oi := ⟨some 103, _, _, _, _, _⟩) (v := .slice (some ⟨g2, off, none⟩) m cap2) rfl (by kernel_rfl) (by kernel_rfl) (by kernel_rfl) (fun _ _ _ h => h) (Or.inl ⟨by rfl, ?_⟩) (by assumption) ?_
        · (intro w hSw; obtain ⟨y0, y1, y2, y3, y4, y5, y6, y7, y8, y9, y10⟩ := hSw; go_simp)
        try simp only [Act.put, List.setIfInBounds_toArray, List.set_cons_zero, List.set_cons_succ]
        refine wpAnyH_take (i := 2) (oi := ⟨some 104, _, _, _, _, _⟩) (v := .int .i64 (m : Int)) rfl (by kernel_rfl) (by kernel_rfl) (by kernel_rfl) (fun _ _ _ h => h) (Or.inl ⟨by rfl, ?_⟩) (by assumption) ?_
        · (intro w hSw; obtain ⟨y0, y1, y2, y3, y4, y5, y6, y7, y8, y9, y10⟩ := hSw; go_simp)
        try simp only [Act.put, List.setIfInBounds_toArray, List.set_cons_zero, List.set_cons_succ]
        refine wpAnyH_take (i := 3) (oi := ⟨some 105, _, _, _, _, _⟩) (v := .bool true) rfl (by kernel_rfl) (by kernel_rfl) (by kernel_rfl) (fun _ _ _ h => h) (Or.inl ⟨by rfl, ?_⟩) (by assumption) ?_
        · (intro w hSw; obtain ⟨y0, y1, y2, y3, y4, y5, y6, y7, y8, y9, y10⟩ := hSw; go_simp)
        try simp only [Act.put, List.setIfInBounds_toArray, List.set_cons_zero, List.set_cons_succ]
        refine wpAnyH_take (i := 4) (oi := ⟨some 106, _, _, _, _, _⟩) (v := .bool true) rfl (by kernel_rfl) (by kernel_rfl) (by kernel_rfl) (fun _ _ _ h => h) (Or.inl ⟨by rfl, ?_⟩) (by assumption) ?_
        · (intro w hSw; obtain ⟨y0, y1, y2, y3, y4, y5, y6, y7, y8, y9, y10⟩ := hSw; go_simp)
        try simp only [Act.put, List.setIfInBounds_toArray, List.set_cons_zero, List.set_cons_succ]
        refine wpAnyH_take (i := 5) (oi := ⟨some 107, _, _, _, _, _⟩) (v := .pointer (some ⟨c, 0, none⟩)) rfl (by kernel_rfl) (by kernel_rfl) (by kernel_rfl) (fun _ _ _ h => h) (Or.inl ⟨by rfl, ?_⟩) (by assumption) ?_
        · (intro w hSw; obtain ⟨y0, y1, y2, y3, y4, y5, y6, y7, y8, y9, y10⟩ := hSw; go_simp)
        try simp only [Act.put, List.setIfInBounds_toArray, List.set_cons_zero, List.set_cons_succ]
        refine wpAnyH_take (i := 6) (oi := ⟨some 108, _, _, _, _, _⟩) (v := .pointer (some ⟨d, 0, none⟩)) rfl (by kernel_rfl) (by kernel_rfl) (by kernel_rfl) (fun _ _ _ h => h) (Or.inl ⟨by rfl, ?_⟩) (by assumption) ?_
        · (intro w hSw; obtain ⟨y0, y1, y2, y3, y4, y5, y6, y7, y8, y9, y10⟩ := hSw; go_simp)
        try simp only [Act.put, List.setIfInBounds_toArray, List.set_cons_zero, List.set_cons_succ]
        refine wpAnyH_take (i := 7) (oi := ⟨some 109, _, _, _, _, _⟩) (v := .slice (some ⟨g2, off, none⟩) m cap2) rfl (by kernel_rfl) (by kernel_rfl) (by kernel_rfl) (fun _ _ _ h => h) (Or.inl ⟨by rfl, ?_⟩) (by assumption) ?_
        · (intro w hSw; obtain ⟨y0, y1, y2, y3, y4, y5, y6, y7, y8, y9, y10⟩ := hSw; go_simp)
        try simp only [Act.put, List.setIfInBounds_toArray, List.set_cons_zero, List.set_cons_succ]
        refine wpAnyH_take (i := 8) (oi := ⟨some 110, _, _, _, _, _⟩) (v := .int .i64 (k : Int)) rfl (by kernel_rfl) (by kernel_rfl) (by kernel_rfl) (fun _ _ _ h => h) (Or.inl ⟨by rfl, ?_⟩) (by assumption) ?_
        · (intro w hSw; obtain ⟨y0, y1, y2, y3, y4, y5, y6, y7, y8, y9, y10⟩ := hSw; go_simp)
        try simp only [Act.put, List.setIfInBounds_toArray, List.set_cons_zero, List.set_cons_succ]
        refine wpAnyH_take (i := 9) (oi := ⟨some 111, _, _, _, _, _⟩) (v := .pointer (some ⟨g2, off + k * 7, none⟩)) rfl (by kernel_rfl) (by kernel_rfl) (by kernel_rfl) (fun _ _ _ h => h) (Or.inl ⟨by rfl, ?_⟩) (by assumption) ?_
        · (intro w hSw; obtain ⟨y0, y1, y2, y3, y4, y5, y6, y7, y8, y9, y10⟩ := hSw; go_simp)
        try simp only [Act.put, List.setIfInBounds_toArray, List.set_cons_zero, List.set_cons_succ]
        refine wpAnyH_take (i := 10) (oi := ⟨some 112, _, _, _, _, _⟩) (v := .agg #[.int .i64 s.kind, .int .i64 s.who, .int .i64 s.to_, .int .i64 s.src, .int .i64 s.leave, .string s.name, .int .i64 s.tm]) rfl (by kernel_rfl) (by kernel_rfl) (by kernel_rfl) (fun _ _ _ h => h) (Or.inl ⟨by rfl, ?_⟩) (by assumption) ?_
        · (intro w hSw; obtain ⟨y0, y1, y2, y3, y4, y5, y6, y7, y8, y9, y10⟩ := hSw; go_simp)
        try simp only [Act.put, List.setIfInBounds_toArray, List.set_cons_zero, List.set_cons_succ]
        refine wpAnyH_ready (rs := [11]) (by kernel_rfl) (by simp) ?_
        refine AllReadyH.cons rfl (fun K hK => ?_) AllReadyH.nil
        go_simp
        go_at_call 21
        refine HCALL.out.mono ?_
        rintro e wp ⟨rfl, hq⟩
        have HQQ := Lib.hid hq
        have HSV := Lib.hid (HSV0.out wp hq.2)
        clear hq
        clear hHeld
        refine hK.out _ _ HSV.out (fun hHeld => ?_)
        clear hK
        try simp only [Act.put, List.setIfInBounds_toArray, List.set_cons_zero, List.set_cons_succ]
        refine wpAnyH_take (i := 12) (oi := ⟨some 114, _, _, _, _, _⟩) (v := .bool false) rfl (by kernel_rfl) (by kernel_rfl) (by kernel_rfl) (fun _ _ _ h => h) (Or.inl ⟨by rfl, ?_⟩) (by assumption) ?_
        · (intro w hSw; obtain ⟨y0, y1, y2, y3, y4, y5, y6, y7, y8, y9, y10⟩ := hSw; go_simp)
        try simp only [Act.put, List.setIfInBounds_toArray, List.set_cons_zero, List.set_cons_succ]
        refine wpAnyH_take (i := 13) (oi := ⟨some 115, _, _, _, _, _⟩) (v := .bool false) rfl (by kernel_rfl) (by kernel_rfl) (by kernel_rfl) (fun _ _ _ h => h) (Or.inl ⟨by rfl, ?_⟩) (by assumption) ?_
        · (intro w hSw; obtain ⟨y0, y1, y2, y3, y4, y5, y6, y7, y8, y9, y10⟩ := hSw; go_simp)
        try simp only [Act.put, List.setIfInBounds_toArray, List.set_cons_zero, List.set_cons_succ]
        refine wpAnyH_done (by kernel_rfl) ?_ _
        simp only [EndsIn]
        have HBN : Hid (Boxed wp B12 3 (.int .i64 (k : Int))) := (HQQ.out.2.block B12 (show B12 < Wq.heap.size from HIQ.out.bn.lt) (HYN.out B12 h12l (fun h => (HX.out _ h).2.2.2.2.2.2.1 rfl))).trans HIQ.out.bn
        have c12 := HBN.out.cell
        have f12 := HBN.out.frozen
        gi_wp2
        have hend := mw_store (W := W) (W1 := wp) (k := k) (nb := nb) (c := c) (d := d) (N0 := N0) (X0 := X0) (W0 := W0)
          ⟨Xt Y Wq.drew wp, stM L s, stH H' s, HQQ.out.1.tight, fun b hb => hb.elim (HYO.out b) (fun h => .inr (Nat.le_trans HIQ.out.on.size h.1)), by have := stH_length H' s; have := HLL.out; omega⟩
          ((HIQ.out.on.then (Only.drewN 1 Wq)).trans HQQ.out.2 fun b hb => (HYO.out b hb).imp .inl id) HBN.out (fun h => (HX.out _ h).2.2.2.2.2.2.1 rfl) h12l
          (by
            have h := only_keeps (B := W0.heap.size) HQQ.out.2 (fun k hk => HYT.out k hk) hnb HMAP.out
            have h1 := HKQ.out
            exact ⟨keepsFrom_t (keepsFrom_t h1.1 ((KeepsOthers.drewN Wq 1).from _)) h.1, kpH_t (kpH_t h1.2 (kpH_below (below_drew Wq))) h.2⟩)
        refine ⟨hend.1, hend.2.1, ?_⟩
        show MwI W0 X0 B12 c d nb N0 _ (pre ++ [x]).length
        rw [HE.out]
        exact hend.2.2
      · have hkmi : (m : Int) ≤ (k : Int) := by omega
        have hkm1 : decide (k < m) = false := by simp; omega
        have hkm2 : decide ((k : Int) < (m : Int)) = false := by simp; omega
        gi_wp2
        refine wpIn_region_quiet_lit (by kernel_rfl) (by kernel_rfl) (by kernel_rfl) ?_
        repeat (go_big_quiet_step (fail))
        refine wpQuiet_nil ?_
        intro _ hw'
        obtain ⟨np, hw''⟩ := hw'
        subst hw''
        have HBN : Hid (Boxed (Wq.drewN np) B12 3 (.int .i64 (k : Int))) := HIQ.out.bn
        have c12 := HBN.out.cell
        have f12 := HBN.out.frozen
        gi_wp2
        have hend := mw_store (W := W) (W1 := Wq.drewN np) (k := k) (nb := nb) (c := c) (d := d) (N0 := N0) (X0 := X0) (W0 := W0)
          (by
            obtain ⟨X, L, H', hp, h1, h2⟩ := HIQ.out.pr
            exact ⟨X, L, H', hp.below (below_drewN (Below.refl _ _) np), h1, by omega⟩)
          (HIQ.out.on.then (Only.drewN np Wq)) HBN.out (fun h => (HX.out _ h).2.2.2.2.2.2.1 rfl) h12l
          ⟨keepsFrom_t HKQ.out.1 ((KeepsOthers.drewN Wq np).from _), kpH_t HKQ.out.2 (kpH_below (below_drewN (Below.refl _ _) np))⟩
        refine ⟨hend.1, hend.2.1, ?_⟩
        show MwI W0 X0 B12 c d nb N0 _ (pre ++ [x]).length
        rw [HE.out]
        exact hend.2.2
    · have HNN := Lib.hid (HNP.out hxy)
      by_cases hnm : x.1.name = y.name
      · have htm : x.1.tm ≠ y.tm := fun h => hxy (by cases hx : x.1; cases y; simp_all)
        have e1 : (x.1.tm == y.tm) = false := beq_eq_false_iff_ne.2 htm
        have e2 : (x.1.tm != y.tm) = true := by rw [bne_iff_ne]; exact htm
        rw [← hnm] at z0
        clear hxy hnm htm
        gi_wp2
        refine wpIn_region_quiet_lit (by kernel_rfl) (by kernel_rfl) (by kernel_rfl) ?_
        repeat (go_big_quiet_step (fail))
        refine wpQuiet_nil ?_
        intro _ hw'
        obtain ⟨nq, hw''⟩ := hw'
        subst hw''
        gi_wp2
        exact ⟨((KeepsOthers.drewN W nq).trans (KeepsOthers.setCell _ _ _)).from _, rfl, HNN.out⟩
      · have e0 : (x.1.name.toList == y.name.toList) = false := beq_eq_false_iff_ne.2 (fun h => hnm (toList_inj h))
        have e0' : (x.1.name.toList != y.name.toList) = true := by rw [bne_iff_ne]; exact fun h => hnm (toList_inj h)
        clear hxy hnm
        gi_wp2
        refine wpIn_region_quiet_lit (by kernel_rfl) (by kernel_rfl) (by kernel_rfl) ?_
        repeat (go_big_quiet_step (fail))
        refine wpQuiet_nil ?_
        intro _ hw'
        obtain ⟨nq, hw''⟩ := hw'
        subst hw''
        gi_wp2
        exact ⟨((KeepsOthers.drewN W nq).trans (KeepsOthers.setCell _ _ _)).from _, rfl, HNN.out⟩
  case done =>
    rintro D xs W hD hxs hi hK
    have hl : xs.length = H.length := by have h := congrArg List.length hxs; rwa [List.length_map] at h
    rw [hl] at hi
    exact hdone D W hD hi hK
  case stop =>
    rintro D c' pre W hD hpre hx hK
    exact (hx.2 hpre).elim
end Go.Proofs.Ytdndljbagjfkkaa
