/- Puts0: Fld, PutF. -/
import Derived.Test.YtaechgnjdjijkaaWins
import Derived.Test.YtaechgnjdjijkaaWire
import Derived.Deep.DeepCutAuto
import Derived.Deep.RegionWith
import Derived.Laws.EntriesVeiled
import Derived.Outline
import Derived.StillTailTactics
import Derived.Deep.QuietTactic
import Derived.BigQuiet
/- A window's fields: schema.signed, count, fields: what they answer, what it captures. -/
namespace Go.Proofs.Ytaechgnjdjijkaa
open Go.RowKit Go.Lib

set_option maxRecDepth 100000 in
theorem signed_any (f : FuncId) (w : World) : Calls Try.prog 78 #[.func (.func f) #[] #[]] w fun e w' => ∃ b, e = .returned (.agg #[.func (.func 98) #[] #[.pointer (some ⟨b, 0, none⟩)], .func (.func 100) #[] #[.pointer (some ⟨b, 0, none⟩)]]) ∧ w.heap.size ≤ b ∧ Bk w' b 139 #[.func (.func f) #[] #[]] ∧ Below w.heap.size w w' := by
  have hmf : ∀ (fn : Fn) (first cap : Array Value) (w : World), (Instr.makeFunc fn first cap).run Try.prog w = .ok (.func fn first cap) w := fun _ _ _ _ => rfl
  go_enter Try.func78, Try.ntmps78
  go_wp2
  exact bodyPost_ret (v := .agg #[.func (.func 98) #[] #[.pointer (some ⟨w.heap.size, 0, none⟩)], .func (.func 100) #[] #[.pointer (some ⟨w.heap.size, 0, none⟩)]]) (by simp [results, Try.results78, go_sem]) rfl ⟨_, rfl, Nat.le_refl _, (Bk.new w _ _).alloc _, (below_alloc w _).alloc (by simp) _⟩
set_option maxRecDepth 100000 in
theorem count_any (f : FuncId) (w : World) : Calls Try.prog 86 #[.func (.func f) #[] #[]] w fun e w' => ∃ b, e = .returned (.agg #[.func (.func 102) #[] #[.pointer (some ⟨b, 0, none⟩)], .func (.func 103) #[] #[.pointer (some ⟨b, 0, none⟩)]]) ∧ w.heap.size ≤ b ∧ Bk w' b 139 #[.func (.func f) #[] #[]] ∧ Below w.heap.size w w' := by
  have hmf : ∀ (fn : Fn) (first cap : Array Value) (w : World), (Instr.makeFunc fn first cap).run Try.prog w = .ok (.func fn first cap) w := fun _ _ _ _ => rfl
  go_enter Try.func86, Try.ntmps86
  go_wp2
  exact bodyPost_ret (v := .agg #[.func (.func 102) #[] #[.pointer (some ⟨w.heap.size, 0, none⟩)], .func (.func 103) #[] #[.pointer (some ⟨w.heap.size, 0, none⟩)]]) (by simp [results, Try.results86, go_sem]) rfl ⟨_, rfl, Nat.le_refl _, (Bk.new w _ _).alloc _, (below_alloc w _).alloc (by simp) _⟩

def fldArr (c : Nat → Nat) : Array Value := #[.func (.func 80) #[] #[.pointer (some ⟨c 0, 0, none⟩)], .func (.func 81) #[] #[.pointer (some ⟨c 0, 0, none⟩)], .func (.func 83) #[] #[], .func (.func 84) #[] #[], .func (.func 98) #[] #[.pointer (some ⟨c 2, 0, none⟩)], .func (.func 100) #[] #[.pointer (some ⟨c 2, 0, none⟩)], .func (.func 102) #[] #[.pointer (some ⟨c 3, 0, none⟩)], .func (.func 103) #[] #[.pointer (some ⟨c 3, 0, none⟩)], .func (.func 98) #[] #[.pointer (some ⟨c 4, 0, none⟩)], .func (.func 100) #[] #[.pointer (some ⟨c 4, 0, none⟩)], .func (.func 98) #[] #[.pointer (some ⟨c 5, 0, none⟩)], .func (.func 100) #[] #[.pointer (some ⟨c 5, 0, none⟩)], .func (.func 98) #[] #[.pointer (some ⟨c 6, 0, none⟩)], .func (.func 100) #[] #[.pointer (some ⟨c 6, 0, none⟩)], .func (.func 102) #[] #[.pointer (some ⟨c 7, 0, none⟩)], .func (.func 103) #[] #[.pointer (some ⟨c 7, 0, none⟩)], .func (.func 102) #[] #[.pointer (some ⟨c 8, 0, none⟩)], .func (.func 103) #[] #[.pointer (some ⟨c 8, 0, none⟩)]]
theorem fldIx0 (x0 x1 x2 x3 x4 x5 x6 x7 x8 x9 x10 x11 x12 x13 x14 x15 x16 x17 : Value) (w : World) : (Instr.index 117 (.agg #[x0, x1, x2, x3, x4, x5, x6, x7, x8, x9, x10, x11, x12, x13, x14, x15, x16, x17]) (.int .i64 0)).run Try.prog w = .ok (.agg #[x0, x1]) w := by kernel_rfl
theorem fldIx1 (x0 x1 x2 x3 x4 x5 x6 x7 x8 x9 x10 x11 x12 x13 x14 x15 x16 x17 : Value) (w : World) : (Instr.index 117 (.agg #[x0, x1, x2, x3, x4, x5, x6, x7, x8, x9, x10, x11, x12, x13, x14, x15, x16, x17]) (.int .i64 1)).run Try.prog w = .ok (.agg #[x2, x3]) w := by kernel_rfl
theorem fldIx2 (x0 x1 x2 x3 x4 x5 x6 x7 x8 x9 x10 x11 x12 x13 x14 x15 x16 x17 : Value) (w : World) : (Instr.index 117 (.agg #[x0, x1, x2, x3, x4, x5, x6, x7, x8, x9, x10, x11, x12, x13, x14, x15, x16, x17]) (.int .i64 2)).run Try.prog w = .ok (.agg #[x4, x5]) w := by kernel_rfl
theorem fldIx3 (x0 x1 x2 x3 x4 x5 x6 x7 x8 x9 x10 x11 x12 x13 x14 x15 x16 x17 : Value) (w : World) : (Instr.index 117 (.agg #[x0, x1, x2, x3, x4, x5, x6, x7, x8, x9, x10, x11, x12, x13, x14, x15, x16, x17]) (.int .i64 3)).run Try.prog w = .ok (.agg #[x6, x7]) w := by kernel_rfl
theorem fldIx4 (x0 x1 x2 x3 x4 x5 x6 x7 x8 x9 x10 x11 x12 x13 x14 x15 x16 x17 : Value) (w : World) : (Instr.index 117 (.agg #[x0, x1, x2, x3, x4, x5, x6, x7, x8, x9, x10, x11, x12, x13, x14, x15, x16, x17]) (.int .i64 4)).run Try.prog w = .ok (.agg #[x8, x9]) w := by kernel_rfl
theorem fldIx5 (x0 x1 x2 x3 x4 x5 x6 x7 x8 x9 x10 x11 x12 x13 x14 x15 x16 x17 : Value) (w : World) : (Instr.index 117 (.agg #[x0, x1, x2, x3, x4, x5, x6, x7, x8, x9, x10, x11, x12, x13, x14, x15, x16, x17]) (.int .i64 5)).run Try.prog w = .ok (.agg #[x10, x11]) w := by kernel_rfl
theorem fldIx6 (x0 x1 x2 x3 x4 x5 x6 x7 x8 x9 x10 x11 x12 x13 x14 x15 x16 x17 : Value) (w : World) : (Instr.index 117 (.agg #[x0, x1, x2, x3, x4, x5, x6, x7, x8, x9, x10, x11, x12, x13, x14, x15, x16, x17]) (.int .i64 6)).run Try.prog w = .ok (.agg #[x12, x13]) w := by kernel_rfl
theorem fldIx7 (x0 x1 x2 x3 x4 x5 x6 x7 x8 x9 x10 x11 x12 x13 x14 x15 x16 x17 : Value) (w : World) : (Instr.index 117 (.agg #[x0, x1, x2, x3, x4, x5, x6, x7, x8, x9, x10, x11, x12, x13, x14, x15, x16, x17]) (.int .i64 7)).run Try.prog w = .ok (.agg #[x14, x15]) w := by kernel_rfl
theorem fldIx8 (x0 x1 x2 x3 x4 x5 x6 x7 x8 x9 x10 x11 x12 x13 x14 x15 x16 x17 : Value) (w : World) : (Instr.index 117 (.agg #[x0, x1, x2, x3, x4, x5, x6, x7, x8, x9, x10, x11, x12, x13, x14, x15, x16, x17]) (.int .i64 8)).run Try.prog w = .ok (.agg #[x16, x17]) w := by kernel_rfl
theorem fld_ix0 (c : Nat → Nat) (w : World) : (Instr.index 117 (.agg (fldArr c)) (.int .i64 0)).run Try.prog w = .ok (.agg #[.func (.func 80) #[] #[.pointer (some ⟨c 0, 0, none⟩)], .func (.func 81) #[] #[.pointer (some ⟨c 0, 0, none⟩)]]) w := fldIx0 _ _ _ _ _ _ _ _ _ _ _ _ _ _ _ _ _ _ w
theorem fld_ix1 (c : Nat → Nat) (w : World) : (Instr.index 117 (.agg (fldArr c)) (.int .i64 1)).run Try.prog w = .ok (.agg #[.func (.func 83) #[] #[], .func (.func 84) #[] #[]]) w := fldIx1 _ _ _ _ _ _ _ _ _ _ _ _ _ _ _ _ _ _ w
theorem fld_ix2 (c : Nat → Nat) (w : World) : (Instr.index 117 (.agg (fldArr c)) (.int .i64 2)).run Try.prog w = .ok (.agg #[.func (.func 98) #[] #[.pointer (some ⟨c 2, 0, none⟩)], .func (.func 100) #[] #[.pointer (some ⟨c 2, 0, none⟩)]]) w := fldIx2 _ _ _ _ _ _ _ _ _ _ _ _ _ _ _ _ _ _ w
theorem fld_ix3 (c : Nat → Nat) (w : World) : (Instr.index 117 (.agg (fldArr c)) (.int .i64 3)).run Try.prog w = .ok (.agg #[.func (.func 102) #[] #[.pointer (some ⟨c 3, 0, none⟩)], .func (.func 103) #[] #[.pointer (some ⟨c 3, 0, none⟩)]]) w := fldIx3 _ _ _ _ _ _ _ _ _ _ _ _ _ _ _ _ _ _ w
theorem fld_ix4 (c : Nat → Nat) (w : World) : (Instr.index 117 (.agg (fldArr c)) (.int .i64 4)).run Try.prog w = .ok (.agg #[.func (.func 98) #[] #[.pointer (some ⟨c 4, 0, none⟩)], .func (.func 100) #[] #[.pointer (some ⟨c 4, 0, none⟩)]]) w := fldIx4 _ _ _ _ _ _ _ _ _ _ _ _ _ _ _ _ _ _ w
theorem fld_ix5 (c : Nat → Nat) (w : World) : (Instr.index 117 (.agg (fldArr c)) (.int .i64 5)).run Try.prog w = .ok (.agg #[.func (.func 98) #[] #[.pointer (some ⟨c 5, 0, none⟩)], .func (.func 100) #[] #[.pointer (some ⟨c 5, 0, none⟩)]]) w := fldIx5 _ _ _ _ _ _ _ _ _ _ _ _ _ _ _ _ _ _ w
theorem fld_ix6 (c : Nat → Nat) (w : World) : (Instr.index 117 (.agg (fldArr c)) (.int .i64 6)).run Try.prog w = .ok (.agg #[.func (.func 98) #[] #[.pointer (some ⟨c 6, 0, none⟩)], .func (.func 100) #[] #[.pointer (some ⟨c 6, 0, none⟩)]]) w := fldIx6 _ _ _ _ _ _ _ _ _ _ _ _ _ _ _ _ _ _ w
theorem fld_ix7 (c : Nat → Nat) (w : World) : (Instr.index 117 (.agg (fldArr c)) (.int .i64 7)).run Try.prog w = .ok (.agg #[.func (.func 102) #[] #[.pointer (some ⟨c 7, 0, none⟩)], .func (.func 103) #[] #[.pointer (some ⟨c 7, 0, none⟩)]]) w := fldIx7 _ _ _ _ _ _ _ _ _ _ _ _ _ _ _ _ _ _ w
theorem fld_ix8 (c : Nat → Nat) (w : World) : (Instr.index 117 (.agg (fldArr c)) (.int .i64 8)).run Try.prog w = .ok (.agg #[.func (.func 102) #[] #[.pointer (some ⟨c 8, 0, none⟩)], .func (.func 103) #[] #[.pointer (some ⟨c 8, 0, none⟩)]]) w := fldIx8 _ _ _ _ _ _ _ _ _ _ _ _ _ _ _ _ _ _ w
theorem fldBuild (x0 x1 x2 x3 x4 x5 x6 x7 x8 x9 x10 x11 x12 x13 x14 x15 x16 x17 : Value) (w : World) : (Instr.build 117 #[(0, .agg #[x0, x1]), (1, .agg #[x2, x3]), (2, .agg #[x4, x5]), (3, .agg #[x6, x7]), (4, .agg #[x8, x9]), (5, .agg #[x10, x11]), (6, .agg #[x12, x13]), (7, .agg #[x14, x15]), (8, .agg #[x16, x17])]).run Try.prog w = .ok (.agg #[x0, x1, x2, x3, x4, x5, x6, x7, x8, x9, x10, x11, x12, x13, x14, x15, x16, x17]) w := by kernel_rfl
theorem fldBuild1 (f g : Fn) (a1 b1 a2 b2 : Array Value) (w : World) : (Instr.build 116 #[(0, .func f a1 b1), (1, .func g a2 b2)]).run Try.prog w = .ok (.agg #[.func f a1 b1, .func g a2 b2]) w := by kernel_rfl
def zFld : Array Value := #[.nilFunc, .nilFunc, .nilFunc, .nilFunc, .nilFunc, .nilFunc, .nilFunc, .nilFunc, .nilFunc, .nilFunc, .nilFunc, .nilFunc, .nilFunc, .nilFunc, .nilFunc, .nilFunc, .nilFunc, .nilFunc]
theorem fld_build (c : Nat → Nat) (w : World) : (Instr.build 117 #[(0, .agg #[.func (.func 80) #[] #[.pointer (some ⟨c 0, 0, none⟩)], .func (.func 81) #[] #[.pointer (some ⟨c 0, 0, none⟩)]]), (1, .agg #[.func (.func 83) #[] #[], .func (.func 84) #[] #[]]), (2, .agg #[.func (.func 98) #[] #[.pointer (some ⟨c 2, 0, none⟩)], .func (.func 100) #[] #[.pointer (some ⟨c 2, 0, none⟩)]]), (3, .agg #[.func (.func 102) #[] #[.pointer (some ⟨c 3, 0, none⟩)], .func (.func 103) #[] #[.pointer (some ⟨c 3, 0, none⟩)]]), (4, .agg #[.func (.func 98) #[] #[.pointer (some ⟨c 4, 0, none⟩)], .func (.func 100) #[] #[.pointer (some ⟨c 4, 0, none⟩)]]), (5, .agg #[.func (.func 98) #[] #[.pointer (some ⟨c 5, 0, none⟩)], .func (.func 100) #[] #[.pointer (some ⟨c 5, 0, none⟩)]]), (6, .agg #[.func (.func 98) #[] #[.pointer (some ⟨c 6, 0, none⟩)], .func (.func 100) #[] #[.pointer (some ⟨c 6, 0, none⟩)]]), (7, .agg #[.func (.func 102) #[] #[.pointer (some ⟨c 7, 0, none⟩)], .func (.func 103) #[] #[.pointer (some ⟨c 7, 0, none⟩)]]), (8, .agg #[.func (.func 102) #[] #[.pointer (some ⟨c 8, 0, none⟩)], .func (.func 103) #[] #[.pointer (some ⟨c 8, 0, none⟩)]])]).run Try.prog w = .ok (.agg (fldArr c)) w := fldBuild _ _ _ _ _ _ _ _ _ _ _ _ _ _ _ _ _ _ w
theorem fld_info (c : Nat → Nat) : (Try.prog.info? 117).map (·.size) = some (fldArr c).size := by kernel_rfl
theorem fld_one (c : Nat → Nat) : (fldArr c).all (·.oneCell') = true := by simp [fldArr, Value.oneCell']
/-- Nine numbers. -/
def cOf (a0 a1 a2 a3 a4 a5 a6 a7 a8 : Nat) : Nat → Nat
  | 0 => a0
  | 1 => a1
  | 2 => a2
  | 3 => a3
  | 4 => a4
  | 5 => a5
  | 6 => a6
  | 7 => a7
  | _ => a8
/-- What is captured: by the start's two closures, by each field's. -/
structure Flds (w : World) (c : Nat → Nat) : Prop where
  s0 : Bk w (c 1) 139 #[.func (.func 79) #[] #[]]
  f0 : Bk w (c 0) 116 #[.func (.func 98) #[] #[.pointer (some ⟨c 1, 0, none⟩)], .func (.func 100) #[] #[.pointer (some ⟨c 1, 0, none⟩)]]
  f2 : Bk w (c 2) 139 #[.func (.func 85) #[] #[]]
  f3 : Bk w (c 3) 139 #[.func (.func 87) #[] #[]]
  f4 : Bk w (c 4) 139 #[.func (.func 88) #[] #[]]
  f5 : Bk w (c 5) 139 #[.func (.func 89) #[] #[]]
  f6 : Bk w (c 6) 139 #[.func (.func 90) #[] #[]]
  f7 : Bk w (c 7) 139 #[.func (.func 91) #[] #[]]
  f8 : Bk w (c 8) 139 #[.func (.func 92) #[] #[]]
theorem Flds.keep {w w' : World} {c : Nat → Nat} (h : Flds w c) (hk : ∀ g, (∃ j, j < 9 ∧ g = c j) → g < w.heap.size → w'.heap[g]? = w.heap[g]?) : Flds w' c :=
  ⟨(hk _ ⟨1, by omega, rfl⟩ h.s0.lt).trans h.s0, (hk _ ⟨0, by omega, rfl⟩ h.f0.lt).trans h.f0, (hk _ ⟨2, by omega, rfl⟩ h.f2.lt).trans h.f2, (hk _ ⟨3, by omega, rfl⟩ h.f3.lt).trans h.f3, (hk _ ⟨4, by omega, rfl⟩ h.f4.lt).trans h.f4, (hk _ ⟨5, by omega, rfl⟩ h.f5.lt).trans h.f5, (hk _ ⟨6, by omega, rfl⟩ h.f6.lt).trans h.f6, (hk _ ⟨7, by omega, rfl⟩ h.f7.lt).trans h.f7, (hk _ ⟨8, by omega, rfl⟩ h.f8.lt).trans h.f8⟩
theorem Flds.below {w w' : World} {c : Nat → Nat} (h : Flds w c) (hb : Below w.heap.size w w') : Flds w' c := h.keep fun g _ hl => hb.block g hl
theorem Flds.only {w w' : World} {X : Nat → Prop} {c : Nat → Nat} (h : Flds w c) (ho : Only X w w') (hx : ∀ j, j < 9 → ¬ X (c j)) : Flds w' c := h.keep fun g hg hl => ho.block g hl (by obtain ⟨j, hj, rfl⟩ := hg; exact hx j hj)


set_option maxRecDepth 100000 in
set_option maxHeartbeats 1000000 in
theorem fields_any (w : World) : Calls Try.prog 60 #[] w fun e w' => ∃ c : Nat → Nat, e = .returned (.agg (fldArr c)) ∧ (∀ j, j < 9 → w.heap.size ≤ c j) ∧ Flds w' c ∧ Below w.heap.size w w' := by
  have hmf : ∀ (fn : Fn) (first cap : Array Value) (w : World), (Instr.makeFunc fn first cap).run Try.prog w = .ok (.func fn first cap) w := fun _ _ _ _ => rfl
  go_enter Try.func60, Try.ntmps60
  go_wp2_with (first
    | (go_at_call 78; (with_reducible refine (signed_any 79 _).mono ?_); rintro e w1 ⟨b1, rfl, hl1, hk1, hb1⟩; have HL1 := Lib.hid hl1; have HK1 := Lib.hid hk1; have HB1 := Lib.hid hb1; clear hl1 hk1 hb1)
    | (go_at_call 78; (with_reducible refine (signed_any 85 _).mono ?_); rintro e w2 ⟨b2, rfl, hl2, hk2, hb2⟩; have HL2 := Lib.hid hl2; have HK2 := Lib.hid hk2; have HB2 := Lib.hid hb2; clear hl2 hk2 hb2)
    | (go_at_call 86; (with_reducible refine (count_any 87 _).mono ?_); rintro e w3 ⟨b3, rfl, hl3, hk3, hb3⟩; have HL3 := Lib.hid hl3; have HK3 := Lib.hid hk3; have HB3 := Lib.hid hb3; clear hl3 hk3 hb3)
    | (go_at_call 78; (with_reducible refine (signed_any 88 _).mono ?_); rintro e w4 ⟨b4, rfl, hl4, hk4, hb4⟩; have HL4 := Lib.hid hl4; have HK4 := Lib.hid hk4; have HB4 := Lib.hid hb4; clear hl4 hk4 hb4)
    | (go_at_call 78; (with_reducible refine (signed_any 89 _).mono ?_); rintro e w5 ⟨b5, rfl, hl5, hk5, hb5⟩; have HL5 := Lib.hid hl5; have HK5 := Lib.hid hk5; have HB5 := Lib.hid hb5; clear hl5 hk5 hb5)
    | (go_at_call 78; (with_reducible refine (signed_any 90 _).mono ?_); rintro e w6 ⟨b6, rfl, hl6, hk6, hb6⟩; have HL6 := Lib.hid hl6; have HK6 := Lib.hid hk6; have HB6 := Lib.hid hb6; clear hl6 hk6 hb6)
    | (go_at_call 86; (with_reducible refine (count_any 91 _).mono ?_); rintro e w7 ⟨b7, rfl, hl7, hk7, hb7⟩; have HL7 := Lib.hid hl7; have HK7 := Lib.hid hk7; have HB7 := Lib.hid hb7; clear hl7 hk7 hb7)
    | (go_at_call 86; (with_reducible refine (count_any 92 _).mono ?_); rintro e w8 ⟨b8, rfl, hl8, hk8, hb8⟩; have HL8 := Lib.hid hl8; have HK8 := Lib.hid hk8; have HB8 := Lib.hid hb8; clear hl8 hk8 hb8)
    | ((with_reducible refine wpList_build_as _ _ _ _ 116 _ _ _ ?b1 (fldBuild1 ?x1 ?x2 ?x3 ?x4 ?x5 ?x6 _) ?_)
       case b1 => (simp only [List.map_toArray, List.map_cons, List.map_nil]; rfl))
    | ((with_reducible refine wpList_build_as _ _ _ _ 117 _ _ _ ?b1 (fld_build (cOf w1.heap.size b1 b2 b3 b4 b5 b6 b7 b8) _) ?_)
       case b1 => (simp only [List.map_toArray, List.map_cons, List.map_nil]; rfl))
    | ((with_reducible refine wpList_store_as _ _ _ _ 117 _ _ w.heap.size (fldArr (cOf w1.heap.size b1 b2 b3 b4 b5 b6 b7 b8)) ?b1 ?b2 117 ?old ?b3 (fld_info _) ?b4 (fld_one _) ?_)
       case b1 => rfl
       case b2 => rfl
       case b3 => exact (((((((((Bk.new w _ _).below HB1.out).alloc _).below HB2.out).below HB3.out).below HB4.out).below HB5.out).below HB6.out).below HB7.out).below HB8.out
       case b4 => rfl))
  have f0 := (Bk.new w1 116 #[.func (.func 98) #[] #[.pointer (some ⟨b1, 0, none⟩)], .func (.func 100) #[] #[.pointer (some ⟨b1, 0, none⟩)]])
  have k1 := HB1.out
  have s1 := k1.size
  have s2 := HB2.out.size
  have s3 := HB3.out.size
  have s4 := HB4.out.size
  have s5 := HB5.out.size
  have s6 := HB6.out.size
  have s7 := HB7.out.size
  have s8 := HB8.out.size
  have l1 := HL1.out
  have l2 := HL2.out
  have l3 := HL3.out
  have l4 := HL4.out
  have l5 := HL5.out
  have l6 := HL6.out
  have l7 := HL7.out
  have l8 := HL8.out
  simp only [World.size_alloc] at s1 s2 l1 l2
  have hz : Bk w8 w.heap.size 117 _ := (((((((((Bk.new w _ _).below HB1.out).alloc _).below HB2.out).below HB3.out).below HB4.out).below HB5.out).below HB6.out).below HB7.out).below HB8.out
  refine bodyPost_ret (v := .agg (fldArr (cOf w1.heap.size b1 b2 b3 b4 b5 b6 b7 b8))) (results_cell_row Try.results60 _ _ w.heap.size 117 _ (0, 0) _ rfl hz.row Try.underlying117 rfl (fld_info _)) rfl ⟨cOf w1.heap.size b1 b2 b3 b4 b5 b6 b7 b8, rfl, ?_, ?_, ?_⟩
  · intro j hj
    match j, hj with
    | 0, _ => show w.heap.size ≤ w1.heap.size; omega
    | 1, _ => show w.heap.size ≤ b1; omega
    | 2, _ => show w.heap.size ≤ b2; omega
    | 3, _ => show w.heap.size ≤ b3; omega
    | 4, _ => show w.heap.size ≤ b4; omega
    | 5, _ => show w.heap.size ≤ b5; omega
    | 6, _ => show w.heap.size ≤ b6; omega
    | 7, _ => show w.heap.size ≤ b7; omega
    | 8, _ => show w.heap.size ≤ b8; omega
    | j + 9, h => omega
  · exact ⟨((((((((HK1.out.alloc _).below HB2.out).below HB3.out).below HB4.out).below HB5.out).below HB6.out).below HB7.out).below HB8.out).rowFar (by show b1 ≠ _; omega),
      (((((((f0.below HB2.out).below HB3.out).below HB4.out).below HB5.out).below HB6.out).below HB7.out).below HB8.out).rowFar (by show w1.heap.size ≠ _; omega),
      ((((((HK2.out.below HB3.out).below HB4.out).below HB5.out).below HB6.out).below HB7.out).below HB8.out).rowFar (by show b2 ≠ _; omega),
      (((((HK3.out.below HB4.out).below HB5.out).below HB6.out).below HB7.out).below HB8.out).rowFar (by show b3 ≠ _; omega),
      ((((HK4.out.below HB5.out).below HB6.out).below HB7.out).below HB8.out).rowFar (by show b4 ≠ _; omega),
      (((HK5.out.below HB6.out).below HB7.out).below HB8.out).rowFar (by show b5 ≠ _; omega),
      ((HK6.out.below HB7.out).below HB8.out).rowFar (by show b6 ≠ _; omega),
      (HK7.out.below HB8.out).rowFar (by show b7 ≠ _; omega),
      HK8.out.rowFar (by show b8 ≠ _; omega)⟩
  · have e1 := below_trans (below_alloc w _) HB1.out
    have e2 := below_trans (below_trans e1 (below_alloc w1 _)) HB2.out
    exact (below_trans (below_trans (below_trans (below_trans (below_trans (below_trans e2 HB3.out) HB4.out) HB5.out) HB6.out) HB7.out) HB8.out).trans (setRow_below (Nat.le_refl _))
end Go.Proofs.Ytaechgnjdjijkaa

/- A window's fields, written one by one. -/
namespace Go.Proofs.Ytaechgnjdjijkaa
open Go.RowKit Go.Lib

/-- A function of the program that answers where a field is. -/
structure Gets (f : FuncId) (q o p : Nat) : Prop where
  ent : ∀ args w, (callFunc f args).run Try.prog w = .ok (.enter f args) w
  get : ∀ w, Calls Try.prog f #[.pointer (some ⟨q, o, none⟩)] w fun e w' => e = .returned (.pointer (some ⟨q, p, none⟩)) ∧ w = w'

theorem gets0 (q o : Nat) : Gets 79 q o (o) := ⟨fun args w => by kernel_rfl, fun w => by
  go_enter Try.func79, Try.ntmps79
  go_wp2
  go_ret
  exact ⟨rfl, rfl⟩⟩
theorem gets2 (q o : Nat) : Gets 85 q o (o + 2) := ⟨fun args w => by kernel_rfl, fun w => by
  go_enter Try.func85, Try.ntmps85
  go_wp2
  go_ret
  exact ⟨rfl, rfl⟩⟩
theorem gets3 (q o : Nat) : Gets 87 q o (o + 3) := ⟨fun args w => by kernel_rfl, fun w => by
  go_enter Try.func87, Try.ntmps87
  go_wp2
  go_ret
  exact ⟨rfl, rfl⟩⟩
theorem gets4 (q o : Nat) : Gets 88 q o (o + 4) := ⟨fun args w => by kernel_rfl, fun w => by
  go_enter Try.func88, Try.ntmps88
  go_wp2
  go_ret
  exact ⟨rfl, rfl⟩⟩
theorem gets5 (q o : Nat) : Gets 89 q o (o + 5) := ⟨fun args w => by kernel_rfl, fun w => by
  go_enter Try.func89, Try.ntmps89
  go_wp2
  go_ret
  exact ⟨rfl, rfl⟩⟩
theorem gets6 (q o : Nat) : Gets 90 q o (o + 6) := ⟨fun args w => by kernel_rfl, fun w => by
  go_enter Try.func90, Try.ntmps90
  go_wp2
  go_ret
  exact ⟨rfl, rfl⟩⟩
theorem gets7 (q o : Nat) : Gets 91 q o (o + 7) := ⟨fun args w => by kernel_rfl, fun w => by
  go_enter Try.func91, Try.ntmps91
  go_wp2
  go_ret
  exact ⟨rfl, rfl⟩⟩
theorem gets8 (q o : Nat) : Gets 92 q o (o + 8) := ⟨fun args w => by kernel_rfl, fun w => by
  go_enter Try.func92, Try.ntmps92
  go_wp2
  go_ret
  exact ⟨rfl, rfl⟩⟩

section
variable {B g q o p b : Nat} {v : Value} {bs : List UInt8} {W : World}
set_option maxRecDepth 100000 in
theorem signedPut (f : FuncId) (val : Int) (last : Value) (hg : Gets f q o p) (hcell : W.cell? ⟨q, p, none⟩ = some (.int .i64 val))
    (hfl : Bk W b 139 #[.func (.func f) #[] #[]]) (hw : Wr W B g v bs) (hB : B ≤ W.heap.size) (hv : In64 val) (hn : bs.length + 20 ≤ 140737488355328) :
    Calls Try.prog 98 #[.pointer (some ⟨g, 0, none⟩), .pointer (some ⟨q, o, none⟩), last, .pointer (some ⟨b, 0, none⟩)] W fun e w' => e = .returned (.tuple #[]) ∧ ∃ v', Wr w' B g v' (bs ++ num7 (zig val)) ∧ Wch W w' g v v' := by
  have HS := Lib.hid (Signed_any B g val v bs W hw hB hv.1 hv.2 hn)
  have HG := Lib.hid hg.get
  have hcf := hg.ent
  have z0 : W.cell? ⟨b, 0, none⟩ = some (.func (.func f) #[] #[]) := hfl.cell 0
  clear hg hfl hw hv
  go_enter Try.func98, Try.ntmps98
  go_wp2_with (first
    | (go_at_call 99; (with_reducible refine HS.out.mono ?_); rintro e w1 ⟨rfl, v', hw', hc'⟩; have HW' := Lib.hid hw'; have HC' := Lib.hid hc'; clear hw' hc')
    | ((with_reducible refine (HG.out _).mono ?_); rintro e w1 ⟨rfl, rfl⟩))
  go_end0
  exact ⟨rfl, v', HW'.out, HC'.out⟩
set_option maxRecDepth 100000 in
theorem countPut (f : FuncId) (val : Nat) (last : Value) (hg : Gets f q o p) (hcell : W.cell? ⟨q, p, none⟩ = some (.int .i64 (val : Int)))
    (hfl : Bk W b 139 #[.func (.func f) #[] #[]]) (hw : Wr W B g v bs) (hB : B ≤ W.heap.size) (hv : val ≤ 9007199254740992) (hn : bs.length + 20 ≤ 140737488355328) :
    Calls Try.prog 102 #[.pointer (some ⟨g, 0, none⟩), .pointer (some ⟨q, o, none⟩), last, .pointer (some ⟨b, 0, none⟩)] W fun e w' => e = .returned (.tuple #[]) ∧ ∃ v', Wr w' B g v' (bs ++ num7 val) ∧ Wch W w' g v v' := by
  have HS := Lib.hid (Number_any B g val v bs W hw hB (by omega) hn)
  have HG := Lib.hid hg.get
  have hcf := hg.ent
  have z0 : W.cell? ⟨b, 0, none⟩ = some (.func (.func f) #[] #[]) := hfl.cell 0
  clear hg hfl hw
  go_enter Try.func102, Try.ntmps102
  go_wp2_with (first
    | (go_at_call 77; (with_reducible refine HS.out.mono ?_); rintro e w1 ⟨rfl, v', hw', hc'⟩; have HW' := Lib.hid hw'; have HC' := Lib.hid hc'; clear hw' hc')
    | ((with_reducible refine (HG.out _).mono ?_); rintro e w1 ⟨rfl, rfl⟩))
  go_end0
  exact ⟨rfl, v', HW'.out, HC'.out⟩
set_option maxRecDepth 100000 in
theorem startPut0 (c : Nat → Nat) (val : Int) (hcell : W.cell? ⟨q, o, none⟩ = some (.int .i64 val))
    (hf : Flds W c) (hw : Wr W B g v bs) (hB : B ≤ W.heap.size) (hv : In64 val) (hn : bs.length + 20 ≤ 140737488355328) :
    Calls Try.prog 80 #[.pointer (some ⟨g, 0, none⟩), .pointer (some ⟨q, o, none⟩), .pointer none, .pointer (some ⟨c 0, 0, none⟩)] W fun e w' => e = .returned (.tuple #[]) ∧ ∃ v', Wr w' B g v' (bs ++ num7 (zig val)) ∧ Wch W w' g v v' := by
  have HS := Lib.hid (signedPut 79 val (.pointer none) (gets0 q o) hcell hf.s0 hw hB hv hn)
  have z0 : W.cell? ⟨c 0, 0, none⟩ = some (.func (.func 98) #[] #[.pointer (some ⟨c 1, 0, none⟩)]) := hf.f0.cell 0
  generalize c 0 = c0 at *
  generalize c 1 = c1 at *
  clear hf hw hv hcell
  go_enter Try.func80, Try.ntmps80
  go_wp2_with (first
    | (go_at_call 98; (with_reducible refine HS.out.mono ?_); rintro e w1 ⟨rfl, v', hw', hc'⟩; have HW' := Lib.hid hw'; have HC' := Lib.hid hc'; clear hw' hc'))
  first | go_end0 | refine bodyPost_ret (results_none rfl _ _ _) rfl ?_
  exact ⟨rfl, v', HW'.out, HC'.out⟩
set_option maxRecDepth 100000 in
theorem startPut1 (cap : Value) (q2 o2 : Nat) (xs ys : Int) (hcell : W.cell? ⟨q, o, none⟩ = some (.int .i64 xs)) (hcell2 : W.cell? ⟨q2, o2, none⟩ = some (.int .i64 ys))
    (hw : Wr W B g v bs) (hB : B ≤ W.heap.size) (hx : In64 xs) (hy : In64 ys) (hle : ys ≤ xs) (hn : bs.length + 20 ≤ 140737488355328) :
    Calls Try.prog 80 #[.pointer (some ⟨g, 0, none⟩), .pointer (some ⟨q, o, none⟩), .pointer (some ⟨q2, o2, none⟩), cap] W fun e w' => e = .returned (.tuple #[]) ∧ ∃ v', Wr w' B g v' (bs ++ num7 (xs - ys).toNat) ∧ Wch W w' g v v' := by
  have hx1 := hx.1
  have hx2 := hx.2
  have hy1 := hy.1
  have hy2 := hy.2
  have hz : IntKind.u64.wrap (IntKind.u64.wrap xs - IntKind.u64.wrap ys) = (((xs - ys).toNat : Nat) : Int) := by
    rw [IntKind.wrap_u64, IntKind.wrap_u64, IntKind.wrap_u64]; omega
  have HS : Hid (∀ w, Below W.heap.size W w → Calls Try.prog 77 #[.pointer (some ⟨g, 0, none⟩), .int .u64 (((xs - ys).toNat : Nat) : Int)] w fun e w' => e = .returned (.int .i64 0) ∧ ∃ v', Wr w' B g v' (bs ++ num7 (xs - ys).toNat) ∧ Wch w w' g v v') := Lib.hid fun w hb => by
    exact Number_any B g _ v bs w (hw.below hb) (Nat.le_trans hB hb.size) (by omega) hn
  clear hw hx hy
  generalize (xs - ys).toNat = d at *
  go_enter Try.func80, Try.ntmps80
  go_wp2_with fail
  go_still_tail 14, (by kernel_rfl)
  change wpList _ _ _ _ _ W.drew
  go_wp2_with (first
    | (go_at_call 77; (with_reducible refine (HS.out _ (below_drew W)).mono ?_); rintro e w1 ⟨rfl, v', hw', hc'⟩; have HW' := Lib.hid hw'; have HC' := Lib.hid hc'; clear hw' hc'))
  go_end0
  exact ⟨rfl, v', HW'.out, (Wch.of_below (below_drew W) g v).trans HC'.out⟩
set_option maxRecDepth 100000 in
theorem endPut (last : Value) (xs xe : Int) (hcell : W.cell? ⟨q, o, none⟩ = some (.int .i64 xs)) (hcell2 : W.cell? ⟨q, o + 1, none⟩ = some (.int .i64 xe))
    (hw : Wr W B g v bs) (hB : B ≤ W.heap.size) (hx : In64 xs) (hy : In64 xe) (hlt : xs < xe) (hn : bs.length + 20 ≤ 140737488355328) :
    Calls Try.prog 83 #[.pointer (some ⟨g, 0, none⟩), .pointer (some ⟨q, o, none⟩), last] W fun e w' => e = .returned (.tuple #[]) ∧ ∃ v', Wr w' B g v' (bs ++ num7 (xe - xs - 1).toNat) ∧ Wch W w' g v v' := by
  have hx1 := hx.1
  have hx2 := hx.2
  have hy1 := hy.1
  have hy2 := hy.2
  have hz : IntKind.u64.wrap (IntKind.u64.wrap (IntKind.u64.wrap xe - IntKind.u64.wrap xs) - 1) = (((xe - xs - 1).toNat : Nat) : Int) := by
    rw [IntKind.wrap_u64, IntKind.wrap_u64, IntKind.wrap_u64, IntKind.wrap_u64]; omega
  have HS : Hid (∀ w, Below W.heap.size W w → Calls Try.prog 77 #[.pointer (some ⟨g, 0, none⟩), .int .u64 (((xe - xs - 1).toNat : Nat) : Int)] w fun e w' => e = .returned (.int .i64 0) ∧ ∃ v', Wr w' B g v' (bs ++ num7 (xe - xs - 1).toNat) ∧ Wch w w' g v v') := Lib.hid fun w hb => by
    exact Number_any B g _ v bs w (hw.below hb) (Nat.le_trans hB hb.size) (by omega) hn
  clear hw hx hy
  generalize (xe - xs - 1).toNat = d at *
  go_enter Try.func83, Try.ntmps83
  go_wp2_with fail
  go_still_tail 15, (by kernel_rfl)
  change wpList _ _ _ _ _ W.drew
  go_wp2_with (first
    | (go_at_call 77; (with_reducible refine (HS.out _ (below_drew W)).mono ?_); rintro e w1 ⟨rfl, v', hw', hc'⟩; have HW' := Lib.hid hw'; have HC' := Lib.hid hc'; clear hw' hc'))
  go_end0
  exact ⟨rfl, v', HW'.out, (Wch.of_below (below_drew W) g v).trans HC'.out⟩
end
end Go.Proofs.Ytaechgnjdjijkaa
