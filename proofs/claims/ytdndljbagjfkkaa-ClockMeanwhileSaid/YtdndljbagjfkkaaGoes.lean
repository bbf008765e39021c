/- One turn of goes: a loop over a clock's holds, held against what they must be. -/
import Derived.Test.YtdndljbagjfkkaaHo
namespace Go.Proofs.Ytdndljbagjfkkaa
open Go.RowKit Go.Shelf Go.Lib
attribute [local go_sem] Oper.semAt_some wide_fn wide_depth wide_fn_in wide_depth_in

def firstRange : Code → Option Code
  | .rangeFunc f ps a b => some (.rangeFunc f ps a b)
  | .seq a b => match firstRange a with
    | some c => some c
    | none => firstRange b
  | .block _ c => firstRange c
  | .loop c => firstRange c
  | .scope c => firstRange c
  | .cond _ a b => match firstRange a with
    | some c => some c
    | none => firstRange b
  | _ => none
noncomputable def goesRange : Code := (Try.f23.body.bind firstRange).getD .skip
theorem box_at {W0 W : World} {Bn B : Nat} {t : TypeId} {v : Value} (h : Boxed W0 B t v) (hg : W0.grownBy W (some Bn)) (hne : B ≠ Bn) : Boxed W B t v := h.kept hg (fun e => hne (by cases e; rfl))
/-- The holds that must come, in memory. -/
def Wt (W : World) (A : Option Addr) (Bn : Nat) (H : List Hd) : Prop := ∀ k x, H[k]? = some x → ∃ g, A = some ⟨g, 0, none⟩ ∧ g ≠ Bn ∧ g < W.heap.size ∧ W.cell? ⟨g, k * 2, none⟩ = some (.string x.name) ∧ W.cell? ⟨g, k * 2 + 1, none⟩ = some (.int .i64 x.tm)
theorem hEnc_ps (H : List Hd) (x : {h : Hd // h ∈ H}) : (hEnc H x).size = 2 := rfl
theorem not_pre {H : List Hd} {pre : List {h : Hd // h ∈ H}} {x : {h : Hd // h ∈ H}} {y : Hd} (hy : H[pre.length]? = some y) (hne : x.1 ≠ y) : ¬ ((pre ++ [x]).map Subtype.val <+: H) := by
  rintro ⟨r, hr⟩
  apply hne
  have h3 : H[pre.length]? = some x.1 := by
    have h := congrArg (fun l : List Hd => l[pre.length]?) hr
    simp only [List.map_append, List.map_cons, List.map_nil] at h
    rw [List.getElem?_append_left (by simp), List.getElem?_append_right (by simp)] at h
    rw [← h]; simp
  rw [h3] at hy
  exact Option.some.inj hy

set_option maxRecDepth 100000 in
set_option maxHeartbeats 2000000 in
theorem goes_turn (H : List Hd) (lv t : Int) (B5 B6 B7 B8 Bt Bn : Nat) (A : Option Addr) (cap : Nat) (W0 : World)
    (hseq : SeqStopsK Fence.wide 9 Try.prog 44 #[.pointer (some ⟨B7, 0, none⟩)] (hEnc H) (KpH W0.heap.size) (fun xs => xs.map Subtype.val = H) (fun pre => pre.map Subtype.val <+: H) H.length W0)
    (b5 : Boxed W0 B5 3 (.int .i64 lv)) (b6 : Boxed W0 B6 4 (.bool false)) (b8 : Boxed W0 B8 48 (.slice A H.length cap)) (bt : Boxed W0 Bt 3 (.int .i64 t)) (bn : Boxed W0 Bn 3 (.int .i64 0))
    (hw : Wt W0 A Bn H) (hm : H.length ≤ 4398046511104) (n5 : B5 ≠ Bn) (n6 : B6 ≠ Bn) (n8 : B8 ≠ Bn) (nt : Bt ≠ Bn)
    (ds : List Deferred) (s0 s1 s2 s3 s4 s7 s11 s12 s13 s14 s15 s16 s17 s18 s19 s20 s21 s22 s23 s24 s25 s26 s28 s29 s30 s31 s32 s33 s34 s35 s36 s37 s38 s39 s40 s41 s42 s43 s44 s45 s46 s47 s48 s49 s50 s51 s52 s53 s54 s55 s56 s57 s58 s59 s60 s61 s62 s63 s64 s65 s66 s67 s68 s69 s70 s71 s72 s73 s74 s75 s76 s77 s78 s79 s80 s81 s82 s83 s84 s85 s86 s87 s88 s89 : Value) (Q : Exit → Act → World → Prop)
    (hdone : ∀ (D : Nat) (W : World), W0.heap.size ≤ D → W0.grownBy W (some Bn) → Boxed W Bn 3 (.int .i64 (H.length : Int)) → (t = 0 → ∀ j : Nat, 1 ≤ j → j ≤ H.length → lv ≠ j) → W.heap[D]? = some (.deferred (some [])) → Q .normal { tmps := #[s0, s1, s2, s3, s4, .pointer (some ⟨B5, 0, none⟩), .pointer (some ⟨B6, 0, none⟩), s7, .pointer (some ⟨B8, 0, none⟩), .pointer (some ⟨Bt, 0, none⟩), .pointer (some ⟨Bn, 0, none⟩), s11, s12, s13, s14, s15, s16, s17, s18, s19, s20, s21, s22, s23, s24, s25, s26, .func (.func 44) #[] #[.pointer (some ⟨B7, 0, none⟩)], s28, s29, s30, s31, s32, s33, s34, s35, s36, s37, s38, s39, s40, s41, s42, s43, s44, s45, s46, s47, s48, s49, s50, s51, s52, s53, s54, s55, s56, s57, s58, s59, s60, s61, s62, s63, s64, s65, s66, s67, s68, s69, s70, s71, s72, s73, s74, s75, s76, s77, s78, s79, s80, s81, s82, s83, s84, s85, s86, s87, s88, s89], defers := { target := .collected D, args := #[] } :: ds } W)
    (hexit : ∀ (D k : Nat) (W : World), W0.heap.size ≤ D → W0.grownBy W (some Bn) → Boxed W Bn 3 (.int .i64 (k : Int)) → t = 0 → 1 ≤ k → k ≤ H.length → lv = k → W.heap[D]? = some (.deferred (some [])) → Q (.exit 2) { tmps := #[s0, s1, s2, s3, s4, .pointer (some ⟨B5, 0, none⟩), .pointer (some ⟨B6, 0, none⟩), s7, .pointer (some ⟨B8, 0, none⟩), .pointer (some ⟨Bt, 0, none⟩), .pointer (some ⟨Bn, 0, none⟩), s11, s12, s13, s14, s15, s16, s17, s18, s19, s20, s21, s22, s23, s24, s25, s26, .func (.func 44) #[] #[.pointer (some ⟨B7, 0, none⟩)], s28, s29, s30, s31, s32, s33, s34, s35, s36, s37, s38, s39, s40, s41, s42, s43, s44, s45, s46, s47, s48, s49, s50, s51, s52, s53, s54, s55, s56, s57, s58, s59, s60, s61, s62, s63, s64, s65, s66, s67, s68, s69, s70, s71, s72, s73, s74, s75, s76, s77, s78, s79, s80, s81, s82, s83, s84, s85, s86, s87, s88, s89], defers := { target := .collected D, args := #[] } :: ds } W) :
    Code.wpIn Fence.wide 10 Try.prog goesRange Q { tmps := #[s0, s1, s2, s3, s4, .pointer (some ⟨B5, 0, none⟩), .pointer (some ⟨B6, 0, none⟩), s7, .pointer (some ⟨B8, 0, none⟩), .pointer (some ⟨Bt, 0, none⟩), .pointer (some ⟨Bn, 0, none⟩), s11, s12, s13, s14, s15, s16, s17, s18, s19, s20, s21, s22, s23, s24, s25, s26, .func (.func 44) #[] #[.pointer (some ⟨B7, 0, none⟩)], s28, s29, s30, s31, s32, s33, s34, s35, s36, s37, s38, s39, s40, s41, s42, s43, s44, s45, s46, s47, s48, s49, s50, s51, s52, s53, s54, s55, s56, s57, s58, s59, s60, s61, s62, s63, s64, s65, s66, s67, s68, s69, s70, s71, s72, s73, s74, s75, s76, s77, s78, s79, s80, s81, s82, s83, s84, s85, s86, s87, s88, s89], defers := ds } W0 := by
  have hnl := bn.lt
  have HW := Lib.hid hw
  have HSEQ := Lib.hid hseq
  clear hw hseq
  unfold goesRange
  conv => arg 4; whnf
  refine wpIn_rangeFunc_ownG (α := {h : Hd // h ∈ H}) (w := W0) rfl (by omega) (gf := 44) (lb := #[.pointer (some ⟨B7, 0, none⟩)]) rfl trivial (enters_of Try.func44 (by kernel_rfl) rfl)
    HSEQ.out kpH_t kpH_b (Below.refl _ _) (hEnc_ps H)
    (fun pre W => W0.grownBy W (some Bn) ∧ Boxed W Bn 3 (.int .i64 (pre.length : Int)) ∧ (t = 0 → ∀ j : Nat, 1 ≤ j → j ≤ pre.length → lv ≠ j))
    (fun c pre W => (c = .ret ∧ ¬ (pre.map Subtype.val <+: H)) ∨ (c = .exit 2 ∧ W0.grownBy W (some Bn) ∧ Boxed W Bn 3 (.int .i64 (pre.length : Int)) ∧ t = 0 ∧ 1 ≤ pre.length ∧ lv = pre.length))
    (fun s X Y row hs hg hr => ⟨only_step hs.1 hg (fun b e => .inr (hr b e).1), hs.2.1.kept hg (fun e => by have := (hr _ e.symm).1; omega), hs.2.2⟩)
    (fun c s X Y row hs hg hr => hs.imp id (fun hs => ⟨hs.1, only_step hs.2.1 hg (fun b e => .inr (hr b e).1), hs.2.2.1.kept hg (fun e => by have := (hr _ e.symm).1; omega), hs.2.2.2⟩))
    ⟨only_refl _ _, bn, fun _ j h1 h2 => by simp at h2; omega⟩
    (fun x => { tmps := #[s0, s1, s2, s3, s4, .pointer (some ⟨B5, 0, none⟩), .pointer (some ⟨B6, 0, none⟩), s7, .pointer (some ⟨B8, 0, none⟩), .pointer (some ⟨Bt, 0, none⟩), .pointer (some ⟨Bn, 0, none⟩), .string x.1.name, .int .i64 x.1.tm, s13, s14, s15, s16, s17, s18, s19, s20, s21, s22, s23, s24, s25, s26, .func (.func 44) #[] #[.pointer (some ⟨B7, 0, none⟩)], .string x.1.name, .int .i64 x.1.tm, s30, s31, s32, s33, s34, s35, s36, s37, s38, s39, s40, s41, s42, s43, s44, s45, s46, s47, s48, s49, s50, s51, s52, s53, s54, s55, s56, s57, s58, s59, s60, s61, s62, s63, s64, s65, s66, s67, s68, s69, s70, s71, s72, s73, s74, s75, s76, s77, s78, s79, s80, s81, s82, s83, s84, s85, s86, s87, s88, s89], defers := [] })
    ?assign ?body ?done ?stop
  case assign =>
    intro l x W K hK
    simp only [hEnc]
    gi_wp2
    exact hK
  case body =>
    rintro l pre x W ⟨hg, hbn, hlv⟩ hlt
    obtain ⟨y, hy⟩ : ∃ y, H[pre.length]? = some y := ⟨_, List.getElem?_eq_getElem hlt⟩
    have HNP : Hid (x.1 ≠ y → ¬ ((pre ++ [x]).map Subtype.val <+: H)) := fun h => not_pre hy h
    obtain ⟨g, rfl, hgn, hgl, z0', z1'⟩ := HW.out _ _ hy
    have HE : Hid ((pre ++ [x]).length = pre.length + 1) := by simp [Hid]
    have HLV := Lib.hid hlv
    have HG := Lib.hid hg
    have HBN := Lib.hid hbn
    have hgb := hg.block g hgl (fun e => hgn (by cases e; rfl))
    have z0 := (World.cell?_of_block (a := ⟨g, pre.length * 2, none⟩) hgb).trans z0'
    have z1 := (World.cell?_of_block (a := ⟨g, pre.length * 2 + 1, none⟩) hgb).trans z1'
    have cL := (box_at b5 hg n5).cell
    have cR := (box_at b6 hg n6).cell
    have fR := (box_at b6 hg n6).frozen
    have cW := (box_at b8 hg n8).cell
    have cT := (box_at bt hg nt).cell
    have cN := hbn.cell
    have fN := hbn.frozen
    clear hlv hy z0' z1' hgb hg hbn HW
    obtain ⟨k, hk⟩ : ∃ k, pre.length = k := ⟨_, rfl⟩
    obtain ⟨m, hme⟩ : ∃ m, H.length = m := ⟨_, rfl⟩
    rw [hk] at HLV HE HBN cN z0 z1 hlt
    rw [hme] at hlt cW hm
    clear hk hme
    have hge1 : decide ((m : Int) ≤ (k : Int)) = false := by simp; omega
    have hge2 : decide (m ≤ k) = false := by simp; omega
    have hlt1 : (k : Int) < (m : Int) := by omega
    by_cases hxy : x.1 = y
    · subst hxy
      have HF : Hid (∀ W', W' = W.setCell ⟨Bn, 0, none⟩ (.int .i64 ((k : Int) + 1)) → KeepsFrom W0.heap.size W W' ∧ KpH W0.heap.size W W' ∧ W0.grownBy W' (some Bn) ∧ Boxed W' Bn 3 (.int .i64 ((k : Int) + 1))) := by
        rintro W' rfl
        exact ⟨(KeepsOthers.setCell _ _ _).from _, kpH_below0 (by simp) (fun j hj hj2 => (grownBy_set W ⟨Bn, 0, none⟩ _).block j hj2 (fun e => by have e2 : j = Bn := Option.some.inj e; omega)), only_set HG.out _ _ (.inl rfl), HBN.out.set _⟩
      by_cases ht0 : t = 0
      · have b1 : (t == 0) = true := beq_iff_eq.2 ht0
        by_cases hvk : lv = (k : Int) + 1
        · have b2 : ((k : Int) + 1 == lv) = true := beq_iff_eq.2 hvk.symm
          have HV := Lib.hid hvk
          have HT0 := Lib.hid ht0
          clear ht0 hvk
          gi_wp2
          obtain ⟨f1, f2, f3, f4⟩ := HF.out _ rfl
          exact ⟨f1, .inr ⟨rfl, f3, by rw [HE.out]; push_cast; exact f4, HT0.out, by rw [HE.out]; omega, by rw [HE.out]; push_cast; exact HV.out⟩⟩
        · have b2 : ((k : Int) + 1 == lv) = false := beq_eq_false_iff_ne.2 (fun h => hvk h.symm)
          have HV := Lib.hid hvk
          clear ht0 hvk
          gi_wp2
          obtain ⟨f1, f2, f3, f4⟩ := HF.out _ rfl
          refine ⟨f1, f2, f3, by rw [HE.out]; push_cast; exact f4, fun h0 j h1 h2 => ?_⟩
          rw [HE.out] at h2
          by_cases h3 : j ≤ k
          · exact HLV.out h0 j h1 h3
          · intro h4; exact HV.out (by omega)
      · have b1 : (t == 0) = false := beq_eq_false_iff_ne.2 ht0
        have HT0 := Lib.hid ht0
        clear ht0
        gi_wp2
        obtain ⟨f1, f2, f3, f4⟩ := HF.out _ rfl
        exact ⟨f1, f2, f3, by rw [HE.out]; push_cast; exact f4, fun h0 => absurd h0 HT0.out⟩
    · have HNN := Lib.hid (HNP.out hxy)
      by_cases hnm : x.1.name = y.name
      · have htm : x.1.tm ≠ y.tm := fun h => hxy (by cases hx : x.1; cases y; simp_all)
        have e1 : (x.1.tm == y.tm) = false := beq_eq_false_iff_ne.2 htm
        have e2 : (x.1.tm != y.tm) = true := by rw [bne_iff_ne]; exact htm
        rw [← hnm] at z0
        clear hxy hnm htm
        gi_wp2
        exact ⟨(KeepsOthers.setCell _ _ _).from _, .inl ⟨rfl, HNN.out⟩⟩
      · have e0 : (x.1.name.toList == y.name.toList) = false := beq_eq_false_iff_ne.2 (fun h => hnm (toList_inj h))
        have e0' : (x.1.name.toList != y.name.toList) = true := by rw [bne_iff_ne]; exact fun h => hnm (toList_inj h)
        clear hxy hnm
        gi_wp2
        exact ⟨(KeepsOthers.setCell _ _ _).from _, .inl ⟨rfl, HNN.out⟩⟩
  case done =>
    rintro D xs W hD hxs ⟨hg, hbn, hlv⟩ hK
    have hl : xs.length = H.length := by have h := congrArg List.length hxs; rwa [List.length_map] at h
    rw [hl] at hbn hlv
    exact hdone D W hD hg hbn hlv hK
  case stop =>
    rintro D c pre W hD hpre hx hK
    rcases hx with ⟨-, hx⟩ | ⟨rfl, hg, hbn, h1, h2, h3⟩
    · exact (hx hpre).elim
    · have hl : pre.length ≤ H.length := by have := hpre.length_le; rwa [List.length_map] at this
      gi_wp2
      exact hexit D pre.length W hD hg hbn h1 h2 hl h3 hK
end Go.Proofs.Ytdndljbagjfkkaa
