/- The walk of the law GroupsStretches. -/
import Derived.Test.YtdbbipdkaahplaaMovLaw
import Derived.RangeFuncNested
import Derived.Test.YtdbbipdkaahplaaQuietIn
namespace Go.Proofs.Ytdbbipdkaahplaa
open Go.RowKit Go.Shelf
attribute [local go_sem] Oper.semAt_some wide_fn wide_depth wide_fn_in wide_depth_in

/-- The boxes of the law. -/
structure SI (w W : World) (N : Nat) (p u g v : Int) : Prop where
  bP : Boxed W N 3 (.int .i64 p)
  bG : Boxed W (N + 1) 3 (.int .i64 g)
  bV : Boxed W (N + 1 + 1) 3 (.int .i64 v)
  bR : Boxed W (N + 1 + 1 + 1) 4 (.bool false)
  cP : Boxed W (N + 1 + 1 + 1 + 1) 3 (.int .i64 p)
  cG : Boxed W (N + 1 + 1 + 1 + 1 + 1) 3 (.int .i64 g)
  bW : Boxed W (N + 1 + 1 + 1 + 1 + 1 + 1) 3 (.int .i64 u)
  below : Below N w W
  size : N + 8 ≤ W.heap.size

theorem boxed_far {W W' : World} {B : Nat} {t : TypeId} {u : Value} (h : Boxed W B t u) {row : Option Nat} (hg : W.grownBy W' row) (hr : ∀ r, row = some r → (∃ o : Obj, W.heap[r]? = some o ∧ o.isCells = false) ∨ B < r) : Boxed W' B t u :=
  h.kept hg (fun e' => by
    rcases hr B e'.symm with ⟨o, ho, hc⟩ | h1
    · rw [show W.heap[B]? = _ from h] at ho; cases ho; cases hc
    · omega)

theorem SI.kept {w W W' : World} {N : Nat} {p u g v : Int} (h : SI w W N p u g v) {row : Option Nat} (hg : W.grownBy W' row) (hr : ∀ r, row = some r → N + 7 ≤ r) : SI w W' N p u g v := by
  have hf : ∀ B, B < N + 7 → ∀ r, row = some r → (∃ o : Obj, W.heap[r]? = some o ∧ o.isCells = false) ∨ B < r := fun B hB r e => .inr (by have := hr r e; omega)
  exact ⟨boxed_far h.bP hg (hf _ (by omega)), boxed_far h.bG hg (hf _ (by omega)), boxed_far h.bV hg (hf _ (by omega)), boxed_far h.bR hg (hf _ (by omega)), boxed_far h.cP hg (hf _ (by omega)), boxed_far h.cG hg (hf _ (by omega)), boxed_far h.bW hg (hf _ (by omega)),
    h.below.grown hg (by have := h.size; omega) (fun r e => by have := hr r e; omega), Nat.le_trans h.size hg.size⟩
theorem SI.grown {w W W' : World} {N : Nat} {p u g v : Int} (h : SI w W N p u g v) (hg : W.grownBy W' none) : SI w W' N p u g v := h.kept hg (fun r e => by cases e)


def firstRange : Code → Option Code
  | .rangeFunc f ps a b => some (.rangeFunc f ps a b)
  | .seq a b => match firstRange a with
    | some c => some c
    | none => firstRange b
  | .block _ c => firstRange c
  | .loop c => firstRange c
  | .scope c => firstRange c
  | .cond _ a b => match firstRange a with
    | some c => some c
    | none => firstRange b
  | _ => none
/-- The law's own loop over the iterator. -/
noncomputable def strRange : Code := (Try.f3.body.bind firstRange).getD .skip

/-- What lay and is no cells lies as it lay. -/
def KO (W0 W : World) : Prop := W0.heap.size ≤ W.heap.size ∧ ∀ k o, k < W0.heap.size → W0.heap[k]? = some o → o.isCells = false → W.heap[k]? = some o
theorem KO.grown {W0 W W' : World} (h : KO W0 W) {row : Option Nat} (hg : W.grownBy W' row) (hr : ∀ r, row = some r → W0.heap.size ≤ r) : KO W0 W' :=
  ⟨Nat.le_trans h.1 hg.size, fun k o hk ho hc => (hg.block k (Nat.lt_of_lt_of_le hk h.1) (fun e => by have := hr k e.symm; omega)).trans (h.2 k o hk ho hc)⟩
theorem KO.others {W0 W W' : World} (h : KO W0 W) (hk : KeepsOthers W W') : KO W0 W' := ⟨Nat.le_trans h.1 hk.size, fun k o hlt ho hc => hk.same k o (h.2 k o hlt ho hc) hc⟩

theorem below_drewN (w : World) (n : Nat) : Below w.heap.size w (w.drewN n) := ⟨rfl, rfl, rfl, Nat.le_refl _, fun _ _ => rfl⟩
theorem KeepsOthers.drewN (W : World) (n : Nat) : KeepsOthers W (W.drewN n) := ⟨Nat.le_refl _, fun _ _ h _ => h⟩

/-- What one turn keeps: the boxes of the turn, of n and of at. -/
structure TI (w W : World) (N P Bt Bn Ba : Nat) (g v t : Int) (k : Nat) : Prop where
  si : SI w W N P P g v
  bt : Boxed W Bt 3 (.int .i64 t)
  bn : Boxed W Bn 3 (.int .i64 (k : Int))
  ba : Boxed W Ba 3 (.int .i64 ((k : Int) * g / P))

theorem TI.own {w W W' : World} {N P Bt Bn Ba : Nat} {g v t : Int} {k : Nat} (h : TI w W N P Bt Bn Ba g v t k) {row : Option Nat} (hg : W.grownBy W' row) (hr : ∀ r, row = some r → N + 7 ≤ r ∧ ∃ o : Obj, W.heap[r]? = some o ∧ o.isCells = false) : TI w W' N P Bt Bn Ba g v t k :=
  ⟨h.si.kept hg (fun r e => (hr r e).1), boxed_far h.bt hg (fun r e => .inl (hr r e).2), boxed_far h.bn hg (fun r e => .inl (hr r e).2), boxed_far h.ba hg (fun r e => .inl (hr r e).2)⟩
theorem TI.grown {w W W' : World} {N P Bt Bn Ba : Nat} {g v t : Int} {k : Nat} (h : TI w W N P Bt Bn Ba g v t k) (hg : W.grownBy W' none) : TI w W' N P Bt Bn Ba g v t k := h.own hg (fun r e => by cases e)

theorem str_diff (P : Nat) (g : Int) (hp : mayB P g) (k : Int) : g / P ≤ (k + 1) * g / P - k * g / P ∧ (k + 1) * g / P - k * g / P ≤ g / P + 1 := by
  obtain ⟨g1, g2, p1, p2⟩ := id hp
  have e : (k + 1) * g = k * g + g := by rw [Int.add_mul, Int.one_mul]
  rw [e]
  generalize k * g = z
  have h1 := Int.mul_ediv_add_emod z P
  have h2 := Int.mul_ediv_add_emod g P
  have h3 := Int.mul_ediv_add_emod (z + g) P
  have m1 := Int.emod_nonneg z (b := (P : Int)) (by omega)
  have m2 := Int.emod_lt_of_pos z (b := (P : Int)) (by omega)
  have m3 := Int.emod_nonneg g (b := (P : Int)) (by omega)
  have m4 := Int.emod_lt_of_pos g (b := (P : Int)) (by omega)
  have m5 := Int.emod_nonneg (z + g) (b := (P : Int)) (by omega)
  have m6 := Int.emod_lt_of_pos (z + g) (b := (P : Int)) (by omega)
  generalize z / (P : Int) = a at *
  generalize g / (P : Int) = b at *
  generalize (z + g) / (P : Int) = c at *
  have l1 : (P : Int) * (a + b) ≤ (P : Int) * c + (P : Int) - 1 := by rw [Int.mul_add]; omega
  have l2 : (P : Int) * c ≤ (P : Int) * (a + b + 1) + (P : Int) - 1 := by rw [Int.mul_add, Int.mul_add]; omega
  have r1 : a + b ≤ c := by
    rcases Int.lt_or_le c (a + b) with h | h
    · have : (P : Int) * (c + 1) ≤ (P : Int) * (a + b) := Int.mul_le_mul_of_nonneg_left (by omega) (by omega)
      rw [Int.mul_add] at this; omega
    · exact h
  have r2 : c ≤ a + b + 1 := by
    rcases Int.lt_or_le (a + b + 1) c with h | h
    · have : (P : Int) * (a + b + 1 + 1) ≤ (P : Int) * c := Int.mul_le_mul_of_nonneg_left (by omega) (by omega)
      rw [Int.mul_add _ (a + b + 1)] at this; omega
    · exact h
  omega

theorem int_equalIn (d : Nat) (n : Int) (W : World) : (Op.equalIn (d + 1) 3 (.int .i64 n) (.int .i64 n)).run Try.prog W = .ok true W := by
  simp [Op.equalIn, run_underlying Try.underlying3]
theorem arr2_neq (a b : Int) (W : World) : (binOp .neq 26 (.agg #[.int .i64 a, .int .i64 b]) (.agg #[.int .i64 a, .int .i64 b])).run Try.prog W = .ok (.bool false) W := by
  have hs : ∀ W, (sizeOf 3).run Try.prog W = .ok 1 W := fun W => by kernel_rfl
  have h3 : ∀ (n : Int) (W : World), (Op.equalIn 9999 3 (.int .i64 n) (.int .i64 n)).run Try.prog W = .ok true W := fun n W => int_equalIn 9998 n W
  have p0 : ∀ W, (part 3 #[.int .i64 a, .int .i64 b] 0).run Try.prog W = .ok (.int .i64 a) W := fun W => by kernel_rfl
  have p1 : ∀ W, (part 3 #[.int .i64 a, .int .i64 b] 1).run Try.prog W = .ok (.int .i64 b) W := fun W => by kernel_rfl
  simp only [binOp]
  unfold Op.equal Op.maxDepth Op.equalIn
  simp [run_underlying Try.underlying26, hs, List.range'_succ, p0, p1, h3]

set_option maxRecDepth 100000 in
set_option maxHeartbeats 2000000 in
theorem turn_yes (P : Nat) (g v t : Int) (w : World) (hp : mayB P g) (ht : t = 0 ∨ t = 1) (N Bt Bn Ba : Nat) (W0 : World) (h0 : TI w W0 N P Bt Bn Ba g v t 0) (htn : Bt ≠ Bn) (hta : Bt ≠ Ba) (hna : Bn ≠ Ba) (hb1 : N + 7 ≤ Bt) (hb2 : N + 7 ≤ Bn) (hb3 : N + 7 ≤ Ba)
    (ds : List Deferred) (s0 s1 s2 s7 s12 s13 s14 s15 s16 s17 s18 s19 s20 s21 s22 s23 s24 s25 s26 s27 s28 s29 s31 s32 s33 s34 s35 s36 s37 s38 s39 s40 s41 s42 s43 s44 s45 s46 s47 s48 s49 s50 s51 s52 s53 s54 s55 s56 s57 s58 s59 s60 s61 s62 s63 s64 s65 s66 s67 s68 s69 s70 s71 s72 s73 s74 s75 s76 s77 s78 s79 s80 s81 s82 s83 s84 s85 s86 s87 s88 s89 s90 s91 s92 s93 s94 s95 s96 s97 s98 s99 s100 s101 s102 s103 s104 s105 s106 s107 s108 s109 s110 s111 s112 s113 s114 s115 s116 s117 s118 s119 s120 s121 s122 s123 s124 s125 s126 s127 s128 s129 s130 s131 s132 : Value) (Q : Exit → Act → World → Prop)
    (hdone : ∀ (D : Nat) (W : World), W0.heap.size ≤ D → TI w W N P Bt Bn Ba g v t P → (t = 0 → ∀ j : Nat, 1 ≤ j → j ≤ P → v ≠ j) → KO W0 W → W.heap[D]? = some (.deferred (some [])) → Q .normal { tmps := #[s0, s1, s2, .pointer (some ⟨N, 0, none⟩), .pointer (some ⟨N + 1, 0, none⟩), .pointer (some ⟨N + 1 + 1, 0, none⟩), .pointer (some ⟨N + 1 + 1 + 1, 0, none⟩), s7, .pointer (some ⟨N + 1 + 1 + 1 + 1 + 1 + 1, 0, none⟩), .pointer (some ⟨Bt, 0, none⟩), .pointer (some ⟨Bn, 0, none⟩), .pointer (some ⟨Ba, 0, none⟩), s12, s13, s14, s15, s16, s17, s18, s19, s20, s21, s22, s23, s24, s25, s26, s27, s28, s29, .func (.func 28) #[] #[.pointer (some ⟨N + 1 + 1 + 1 + 1, 0, none⟩), .pointer (some ⟨N + 1 + 1 + 1 + 1 + 1, 0, none⟩)], s31, s32, s33, s34, s35, s36, s37, s38, s39, s40, s41, s42, s43, s44, s45, s46, s47, s48, s49, s50, s51, s52, s53, s54, s55, s56, s57, s58, s59, s60, s61, s62, s63, s64, s65, s66, s67, s68, s69, s70, s71, s72, s73, s74, s75, s76, s77, s78, s79, s80, s81, s82, s83, s84, s85, s86, s87, s88, s89, s90, s91, s92, s93, s94, s95, s96, s97, s98, s99, s100, s101, s102, s103, s104, s105, s106, s107, s108, s109, s110, s111, s112, s113, s114, s115, s116, s117, s118, s119, s120, s121, s122, s123, s124, s125, s126, s127, s128, s129, s130, s131, s132], defers := { target := .collected D, args := #[] } :: ds } W)
    (hexit : ∀ (D k : Nat) (W : World), W0.heap.size ≤ D → TI w W N P Bt Bn Ba g v t k → t = 0 → 1 ≤ k → k ≤ P → v = k → KO W0 W → W.heap[D]? = some (.deferred (some [])) → Q (.exit 2) { tmps := #[s0, s1, s2, .pointer (some ⟨N, 0, none⟩), .pointer (some ⟨N + 1, 0, none⟩), .pointer (some ⟨N + 1 + 1, 0, none⟩), .pointer (some ⟨N + 1 + 1 + 1, 0, none⟩), s7, .pointer (some ⟨N + 1 + 1 + 1 + 1 + 1 + 1, 0, none⟩), .pointer (some ⟨Bt, 0, none⟩), .pointer (some ⟨Bn, 0, none⟩), .pointer (some ⟨Ba, 0, none⟩), s12, s13, s14, s15, s16, s17, s18, s19, s20, s21, s22, s23, s24, s25, s26, s27, s28, s29, .func (.func 28) #[] #[.pointer (some ⟨N + 1 + 1 + 1 + 1, 0, none⟩), .pointer (some ⟨N + 1 + 1 + 1 + 1 + 1, 0, none⟩)], s31, s32, s33, s34, s35, s36, s37, s38, s39, s40, s41, s42, s43, s44, s45, s46, s47, s48, s49, s50, s51, s52, s53, s54, s55, s56, s57, s58, s59, s60, s61, s62, s63, s64, s65, s66, s67, s68, s69, s70, s71, s72, s73, s74, s75, s76, s77, s78, s79, s80, s81, s82, s83, s84, s85, s86, s87, s88, s89, s90, s91, s92, s93, s94, s95, s96, s97, s98, s99, s100, s101, s102, s103, s104, s105, s106, s107, s108, s109, s110, s111, s112, s113, s114, s115, s116, s117, s118, s119, s120, s121, s122, s123, s124, s125, s126, s127, s128, s129, s130, s131, s132], defers := { target := .collected D, args := #[] } :: ds } W) :
    Code.wpIn Fence.wide 10 Try.prog strRange Q { tmps := #[s0, s1, s2, .pointer (some ⟨N, 0, none⟩), .pointer (some ⟨N + 1, 0, none⟩), .pointer (some ⟨N + 1 + 1, 0, none⟩), .pointer (some ⟨N + 1 + 1 + 1, 0, none⟩), s7, .pointer (some ⟨N + 1 + 1 + 1 + 1 + 1 + 1, 0, none⟩), .pointer (some ⟨Bt, 0, none⟩), .pointer (some ⟨Bn, 0, none⟩), .pointer (some ⟨Ba, 0, none⟩), s12, s13, s14, s15, s16, s17, s18, s19, s20, s21, s22, s23, s24, s25, s26, s27, s28, s29, .func (.func 28) #[] #[.pointer (some ⟨N + 1 + 1 + 1 + 1, 0, none⟩), .pointer (some ⟨N + 1 + 1 + 1 + 1 + 1, 0, none⟩)], s31, s32, s33, s34, s35, s36, s37, s38, s39, s40, s41, s42, s43, s44, s45, s46, s47, s48, s49, s50, s51, s52, s53, s54, s55, s56, s57, s58, s59, s60, s61, s62, s63, s64, s65, s66, s67, s68, s69, s70, s71, s72, s73, s74, s75, s76, s77, s78, s79, s80, s81, s82, s83, s84, s85, s86, s87, s88, s89, s90, s91, s92, s93, s94, s95, s96, s97, s98, s99, s100, s101, s102, s103, s104, s105, s106, s107, s108, s109, s110, s111, s112, s113, s114, s115, s116, s117, s118, s119, s120, s121, s122, s123, s124, s125, s126, s127, s128, s129, s130, s131, s132], defers := ds } W0 := by
  have Hp := Lib.hid hp
  obtain ⟨g1, g2, p1, p2⟩ := id hp
  clear hp
  unfold strRange
  conv => arg 4; whnf
  have hsz0 := h0.si.size
  refine wpIn_rangeFunc_ownH (α := Nat) (w := W0) rfl (by omega) (gf := 28) (lb := #[.pointer (some ⟨N + 1 + 1 + 1 + 1, 0, none⟩), .pointer (some ⟨N + 1 + 1 + 1 + 1 + 1, 0, none⟩)]) rfl trivial (enters_of Try.func28 (by kernel_rfl) rfl)
    (seq_stops 9 (N + 1 + 1 + 1 + 1) (N + 1 + 1 + 1 + 1 + 1) P g W0 Hp.out (by omega) (by omega) h0.si.cP.cell h0.si.cG.cell) keep2_t (keep2_b (by omega) (by omega)) (Below.refl _ _) (fun _ => rfl)
    (fun pre W => (TI w W N P Bt Bn Ba g v t pre.length ∧ KO W0 W) ∧ (pre.map (· % P) = List.range pre.length ∧ (t = 0 → ∀ j : Nat, 1 ≤ j → j ≤ pre.length → v ≠ j)))
    (fun c pre W => (c = .ret ∧ ¬ (pre <+: List.range P)) ∨ (c = .exit 2 ∧ (TI w W N P Bt Bn Ba g v t pre.length ∧ KO W0 W) ∧ t = 0 ∧ 1 ≤ pre.length ∧ v = pre.length))
    (fun s X Y row hs hg hr => ⟨⟨hs.1.1.own hg (fun r e => ⟨by have := (hr r e).1; omega, (hr r e).2⟩), hs.1.2.grown hg (fun r e => (hr r e).1)⟩, hs.2⟩)
    (fun c s X Y row hs hg hr => hs.imp id (fun hs => ⟨hs.1, ⟨hs.2.1.1.own hg (fun r e => ⟨by have := (hr r e).1; omega, (hr r e).2⟩), hs.2.1.2.grown hg (fun r e => (hr r e).1)⟩, hs.2.2⟩))
    ⟨⟨h0, Nat.le_refl _, fun _ _ _ h _ => h⟩, rfl, fun _ j h1 h2 => by simp at h2; omega⟩
    (fun x a' W => ∃ Bx, W0.heap.size ≤ Bx ∧ rowAt W Bx 26 (strArr P g (x % P)).cells ∧ a' = { tmps := #[s0, s1, s2, .pointer (some ⟨N, 0, none⟩), .pointer (some ⟨N + 1, 0, none⟩), .pointer (some ⟨N + 1 + 1, 0, none⟩), .pointer (some ⟨N + 1 + 1 + 1, 0, none⟩), s7, .pointer (some ⟨N + 1 + 1 + 1 + 1 + 1 + 1, 0, none⟩), .pointer (some ⟨Bt, 0, none⟩), .pointer (some ⟨Bn, 0, none⟩), .pointer (some ⟨Ba, 0, none⟩), .int .i64 ((x % P : Nat) : Int), .pointer (some ⟨Bx, 0, none⟩), s14, s15, s16, s17, s18, s19, s20, s21, s22, s23, s24, s25, s26, s27, s28, s29, .func (.func 28) #[] #[.pointer (some ⟨N + 1 + 1 + 1 + 1, 0, none⟩), .pointer (some ⟨N + 1 + 1 + 1 + 1 + 1, 0, none⟩)], .int .i64 ((x % P : Nat) : Int), strArr P g (x % P), s33, s34, s35, s36, s37, s38, s39, s40, s41, s42, s43, s44, s45, s46, s47, s48, s49, s50, s51, s52, s53, s54, s55, s56, s57, s58, s59, s60, s61, s62, s63, s64, s65, s66, s67, s68, s69, s70, s71, s72, s73, s74, s75, s76, s77, s78, s79, s80, s81, s82, s83, s84, s85, s86, s87, s88, s89, s90, s91, s92, s93, s94, s95, s96, s97, s98, s99, s100, s101, s102, s103, s104, s105, s106, s107, s108, s109, s110, s111, s112, s113, s114, s115, s116, s117, s118, s119, s120, s121, s122, s123, s124, s125, s126, s127, s128, s129, s130, s131, s132], defers := [] })
    (fun x a' _ X Y row hs hg hr => by obtain ⟨Bx, h1, h2, h3⟩ := hs; exact ⟨Bx, h1, rowAt_own h2 hg (fun r e => (hr r e).2), h3⟩)
    ?assign ?body ?done ?stop
  case assign =>
    rintro l pre x W K ⟨⟨hT, hO⟩, hpre⟩ hK
    have hsW := hT.si.size
    simp only [strEnc, strArr] at hK ⊢
    generalize x % P = y at hK ⊢
    gi_wp2
    exact hK _ _ ((KeepsOthers.alloc _ _).from _) (keep2_grown (World.grownBy_alloc W _ none) (by omega) (by omega) (by simp) (by simp)) ⟨⟨hT.grown (World.grownBy_alloc W _ none), hO.others (KeepsOthers.alloc _ _)⟩, hpre⟩ ⟨W.heap.size, hO.1, rowAt_new _ _ _, rfl⟩
  case body =>
    rintro l pre x a' W - - ⟨⟨hT, hO⟩, hm, hv⟩ ⟨Bx, hBx, hR, rfl⟩ hlt
    obtain ⟨y, hy⟩ : ∃ y, x % P = y := ⟨_, rfl⟩
    have HI : Hid (∀ W', TI w W' N P Bt Bn Ba g v t (pre.length + 1) → KO W0 W' → KeepsFrom W0.heap.size W W' → Keep2 (N + 1 + 1 + 1 + 1) (N + 1 + 1 + 1 + 1 + 1) W W' → y = pre.length → ¬ (t = 0 ∧ v = (pre.length : Int) + 1) →
        KeepsFrom W0.heap.size W W' ∧ Keep2 (N + 1 + 1 + 1 + 1) (N + 1 + 1 + 1 + 1 + 1) W W' ∧ (TI w W' N P Bt Bn Ba g v t (pre ++ [x]).length ∧ KO W0 W') ∧ ((pre ++ [x]).map (· % P) = List.range (pre ++ [x]).length ∧ (t = 0 → ∀ j : Nat, 1 ≤ j → j ≤ (pre ++ [x]).length → v ≠ j))) := by
      intro W' a b c d e f
      rw [List.length_append, List.length_singleton]
      refine ⟨c, d, ⟨a, b⟩, ?_, fun h0 j h1 h2 => ?_⟩
      · rw [List.map_append, hm, List.range_succ]; simp [hy, e]
      · by_cases h3 : j ≤ pre.length
        · exact hv h0 j h1 h3
        · intro h4
          exact f ⟨h0, by have : j = pre.length + 1 := by omega
                          rw [h4, this]; push_cast; rfl⟩
    have HX : Hid (y ≠ pre.length → ¬ (pre ++ [x] <+: List.range P)) := by
      intro h1 h2
      obtain ⟨r, hr⟩ := h2
      have h3 : (List.range P)[pre.length]? = some x := by rw [← hr]; simp
      rw [List.getElem?_range hlt] at h3
      have h4 : pre.length = x := by simpa using h3
      exact h1 (by rw [← hy, ← h4]; exact Nat.mod_eq_of_lt hlt)
    have HE : Hid ((pre ++ [x]).length = pre.length + 1) := by simp [Hid]
    rw [hy] at hR ⊢
    simp only [strArr, Value.cells] at hR ⊢
    clear hm hv hy
    obtain ⟨k, hk⟩ : ∃ k, pre.length = k := ⟨_, rfl⟩
    rw [hk] at hT HI HX HE hlt
    have e0 := rowAt_cell hR 0
    have e1 := rowAt_cell hR 1
    simp only [List.getElem?_toArray, List.getElem?_cons_zero, List.getElem?_cons_succ] at e0 e1
    have cP := hT.si.bP.cell
    have cG := hT.si.bG.cell
    have cV := hT.si.bV.cell
    have cR := hT.si.bR.cell
    have fR := hT.si.bR.frozen
    have cW := hT.si.bW.cell
    have cT := hT.bt.cell
    have cN := hT.bn.cell
    have fN := hT.bn.frozen
    have cA := hT.ba.cell
    have fA := hT.ba.frozen
    have hd : 1 ≤ 10 - 1 - 1 := by omega
    have hlt1 : (k : Int) < (P : Int) := by omega
    have hge1 : decide ((P : Int) ≤ (k : Int)) = false := by simp; omega
    have hge2 : decide (P ≤ k) = false := by simp; omega
    by_cases hyk : y = k
    · subst hyk
      have s0 := st_nonneg (k := (y : Int)) p1 g1 (by omega)
      have s1 := st_mono (k := (y : Int)) p1 g1
      have s2 := st_le (k := (y : Int) + 1) (p := P) p1 g1 (by omega)
      obtain ⟨d1, d2⟩ := str_diff P g Hp.out y
      have q0 : 0 ≤ g / (P : Int) := Int.ediv_nonneg (by omega) (by omega)
      have q1 : g / (P : Int) ≤ g := Int.ediv_le_self _ (by omega)
      have hqt : IntKind.i64.wrap (g.tdiv (P : Int)) = g / (P : Int) := by rw [Int.tdiv_eq_ediv_of_nonneg (by omega)]; exact IntWalk.i64_in _ (by omega)
      have hst := Lib.hid (fun W => refStretch_yes (y : Int) P g W Hp.out (by omega) (by omega))
      have HTI : Hid (∀ W, SI w W N P P g v → Boxed W Bt 3 (.int .i64 t) → Boxed W Bn 3 (.int .i64 (((y + 1 : Nat)) : Int)) → Boxed W Ba 3 (.int .i64 (((y : Int) + 1) * g / P)) → TI w W N P Bt Bn Ba g v t (y + 1)) := fun W a b c d => ⟨a, b, c, by push_cast; exact d⟩
      have HBA : Hid (∀ W, TI w W N P Bt Bn Ba g v t y → Boxed W Ba 3 (.int .i64 ((y : Int) * g / P))) := fun W h => h.ba
      generalize ((y : Int) + 1) * g / P = B at *
      generalize (y : Int) * g / P = A at *
      generalize g / (P : Int) = q at *
      have hw1 : IntKind.i64.wrap (B - A) = B - A := IntWalk.i64_in _ (by omega)
      have hw2 : IntKind.i64.wrap (q + 1) = q + 1 := IntWalk.i64_in _ (by omega)
      have hne := arr2_neq A B
      have hl1 : decide (B - A < q) = false := by simp; omega
      have hl2 : decide (q + 1 < B - A) = false := by simp; omega
      gi_wp2_with (gi_at_call 10; (with_reducible refine (CallsIn.inRound l (callsIn_wide.2 (hst.out _))).mono ?_); rintro e w1 ⟨rfl, hb1⟩)
      have hT1 := hT.grown (below_grown hb1 none)
      have hR1 := rowAt_kept hR (below_grown hb1 none) (by simp)
      have e01 := rowAt_cell hR1 0
      have e11 := rowAt_cell hR1 1
      simp only [List.getElem?_toArray, List.getElem?_cons_zero, List.getElem?_cons_succ] at e01 e11
      have cP1 := hT1.si.bP.cell
      have cG1 := hT1.si.bG.cell
      have cV1 := hT1.si.bV.cell
      have cR1 := hT1.si.bR.cell
      have fR1 := hT1.si.bR.frozen
      have cW1 := hT1.si.bW.cell
      have cT1 := hT1.bt.cell
      have cN1 := hT1.bn.cell
      have fN1 := hT1.bn.frozen
      have cA1 := (HBA.out _ hT1).cell
      have fA1 := (HBA.out _ hT1).frozen
      clear cP cG cV cR fR cW cT cN fN cA fA e0 e1
      refine wpIn_region_quiet_lit (by kernel_rfl) (by kernel_rfl) (by kernel_rfl) ?_
      repeat (go_big_quiet_step (fail))
      refine wpQuiet_nil ?_
      intro _ hw'
      obtain ⟨nq, hw''⟩ := hw'
      subst hw''
      clear hw1 hw2 hl1 hl2 hqt hne
      have htt : (t == 0) = true ∨ (t == 0) = false := by cases (t == 0) <;> simp
      have gd := below_grown (below_drewN w1 nq) none
      have gA := grownBy_setCell' (w1.drewN nq) Ba (.int .i64 B)
      have gN := grownBy_setCell' ((w1.drewN nq).setCell ⟨Ba, 0, none⟩ (.int .i64 B)) Bn (.int .i64 ((y : Int) + 1))
      have hSf : SI w (((w1.drewN nq).setCell ⟨Ba, 0, none⟩ (.int .i64 B)).setCell ⟨Bn, 0, none⟩ (.int .i64 ((y : Int) + 1))) N P P g v := ((hT1.si.grown gd).kept gA (fun r e => by cases e; exact hb3)).kept gN (fun r e => by cases e; exact hb2)
      have hbt : Boxed (((w1.drewN nq).setCell ⟨Ba, 0, none⟩ (.int .i64 B)).setCell ⟨Bn, 0, none⟩ (.int .i64 ((y : Int) + 1))) Bt 3 (.int .i64 t) := ((hT1.bt.kept gd (by simp)).other hta _).other htn _
      have hbn : Boxed (((w1.drewN nq).setCell ⟨Ba, 0, none⟩ (.int .i64 B)).setCell ⟨Bn, 0, none⟩ (.int .i64 ((y : Int) + 1))) Bn 3 (.int .i64 (((y + 1 : Nat)) : Int)) := by push_cast; exact ((hT1.bn.kept gd (by simp)).other hna _).set _
      have hba : Boxed (((w1.drewN nq).setCell ⟨Ba, 0, none⟩ (.int .i64 B)).setCell ⟨Bn, 0, none⟩ (.int .i64 ((y : Int) + 1))) Ba 3 (.int .i64 B) := (((HBA.out _ hT1).kept gd (by simp)).set _).other (Ne.symm hna) _
      have hTf := HTI.out _ hSf hbt hbn hba
      have hKf : KeepsOthers W (((w1.drewN nq).setCell ⟨Ba, 0, none⟩ (.int .i64 B)).setCell ⟨Bn, 0, none⟩ (.int .i64 ((y : Int) + 1))) := (((KeepsOthers.of_grownBy (below_grown hb1 none) (fun j o e => by cases e)).trans (KeepsOthers.drewN w1 nq)).trans (KeepsOthers.setCell _ _ _)).trans (KeepsOthers.setCell _ _ _)
      have hK2 : Keep2 (N + 1 + 1 + 1 + 1) (N + 1 + 1 + 1 + 1 + 1) W (((w1.drewN nq).setCell ⟨Ba, 0, none⟩ (.int .i64 B)).setCell ⟨Bn, 0, none⟩ (.int .i64 ((y : Int) + 1))) := ⟨hKf.size, (show (((w1.drewN nq).setCell ⟨Ba, 0, none⟩ (.int .i64 B)).setCell ⟨Bn, 0, none⟩ (.int .i64 ((y : Int) + 1))).heap[_]? = _ from hSf.cP).trans (show W.heap[_]? = _ from hT.si.cP).symm, (show (((w1.drewN nq).setCell ⟨Ba, 0, none⟩ (.int .i64 B)).setCell ⟨Bn, 0, none⟩ (.int .i64 ((y : Int) + 1))).heap[_]? = _ from hSf.cG).trans (show W.heap[_]? = _ from hT.si.cG).symm⟩
      have HTF := Lib.hid hTf
      have HKF := Lib.hid hKf
      have HK2 := Lib.hid hK2
      have HOF := Lib.hid (hO.others hKf)
      clear gd gA gN hSf hbt hbn hba hTf hKf hK2
      by_cases ht0 : t = 0
      · have b1 : (t == 0) = true := beq_iff_eq.2 ht0
        by_cases hvk : v = (y : Int) + 1
        · have b2 : ((y : Int) + 1 == v) = true := beq_iff_eq.2 hvk.symm
          have HV := Lib.hid hvk
          have HT0 := Lib.hid ht0
          clear ht0 hvk htt
          gi_wp2
          exact ⟨HKF.out.from _, .inr ⟨rfl, ⟨by rw [HE.out]; exact HTF.out, HOF.out⟩, HT0.out, by rw [HE.out]; omega, by rw [HE.out]; push_cast; exact HV.out⟩⟩
        · have b2 : ((y : Int) + 1 == v) = false := beq_eq_false_iff_ne.2 (fun h => hvk h.symm)
          have HV := Lib.hid hvk
          clear ht0 hvk htt
          gi_wp2
          exact HI.out _ HTF.out HOF.out (HKF.out.from _) HK2.out trivial (fun h => HV.out h.2)
      · have b1 : (t == 0) = false := beq_eq_false_iff_ne.2 ht0
        have HT0 := Lib.hid ht0
        clear ht0 htt
        gi_wp2
        exact HI.out _ HTF.out HOF.out (HKF.out.from _) HK2.out trivial (fun h => HT0.out h.1)
    · have n1 : ((y : Int) == (k : Int)) = false := beq_eq_false_iff_ne.2 (by omega)
      have n2 : ((y : Int) != (k : Int)) = true := by rw [bne_iff_ne]; omega
      have HXX := Lib.hid (HX.out hyk)
      clear hyk
      gi_wp2_with (gi_at_call 10; (with_reducible refine (CallsIn.inRound l (callsIn_wide.2 (refStretch_yes _ _ _ _ Hp.out (by omega) (by omega)))).mono ?_); rintro e w1 ⟨rfl, hb1⟩)
      have hT1 := hT.grown (below_grown hb1 none)
      have hR1 := rowAt_kept hR (below_grown hb1 none) (by simp)
      have e01 := rowAt_cell hR1 0
      have e11 := rowAt_cell hR1 1
      simp only [List.getElem?_toArray, List.getElem?_cons_zero, List.getElem?_cons_succ] at e01 e11
      have cP1 := hT1.si.bP.cell
      have cG1 := hT1.si.bG.cell
      have cV1 := hT1.si.bV.cell
      have cR1 := hT1.si.bR.cell
      have fR1 := hT1.si.bR.frozen
      have cW1 := hT1.si.bW.cell
      have cT1 := hT1.bt.cell
      have cN1 := hT1.bn.cell
      have fN1 := hT1.bn.frozen
      have cA1 := hT1.ba.cell
      have fA1 := hT1.ba.frozen
      clear cP cG cV cR fR cW cT cN fN cA fA e0 e1
      refine wpIn_region_quiet_lit (by kernel_rfl) (by kernel_rfl) (by kernel_rfl) ?_
      repeat (go_big_quiet_step (fail))
      refine wpQuiet_nil ?_
      intro _ hw'
      obtain ⟨nq, hw''⟩ := hw'
      subst hw''
      gi_wp2
      exact ⟨(((KeepsOthers.of_grownBy (below_grown hb1 none) (fun j o e => by cases e)).trans (KeepsOthers.drewN w1 nq)).trans (KeepsOthers.setCell _ _ _)).from _, .inl ⟨rfl, HXX.out⟩⟩
  case done =>
    rintro D xs W hD rfl ⟨⟨hT, hO⟩, -, hv⟩ hK
    rw [List.length_range] at hT hv
    exact hdone D W hD hT hv hO hK
  case stop =>
    rintro D c pre W hD hpre hx hK
    rcases hx with ⟨-, hx⟩ | ⟨rfl, ⟨hT, hO⟩, h1, h2, h3⟩
    · exact (hx hpre).elim
    · have hl : pre.length ≤ P := by have := hpre.length_le; rwa [List.length_range] at this
      gi_wp2
      exact hexit D pre.length W hD hT h1 h2 hl h3 hO hK
end Go.Proofs.Ytdbbipdkaahplaa
