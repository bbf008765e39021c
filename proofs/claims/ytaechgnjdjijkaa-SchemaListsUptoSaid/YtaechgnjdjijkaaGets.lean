/- Gets: GetF, Get. -/
import Derived.Test.YtaechgnjdjijkaaPuts0
import Derived.Test.YtaechgnjdjijkaaWire2
import Derived.Test.YtaechgnjdjijkaaPutW
/- A window's fields, read one by one. -/
namespace Go.Proofs.Ytaechgnjdjijkaa
open Go.RowKit Go.Lib

/-- A number that is read above another one: its value and the error. -/
def abV (bs : List UInt8) (at_ : Nat) (from_ : Int) : Option Int := if (rdAt bs at_).2.2 = 0 ∧ ((rdAt bs at_).1 : Int) ≤ 9223372036854775807 - from_ then some (from_ + (rdAt bs at_).1) else none
theorem Rr.setq {w : World} {B g q at_ : Nat} {v : Value} {bs : List UInt8} {t : TypeId} {cs : Array Value} (h : Rr w B g v bs at_) (hc : Bk w q t cs) (i : Nat) (u : Value) (h1 : 110 ≠ t) (h2 : 5 ≠ t) : Rr (w.setCell ⟨q, i, none⟩ u) B g v bs at_ :=
  ⟨h.blk.far (p := ⟨q, i, none⟩) (h.blk.ne hc h1) u, own_set h.own hc h2 i u, h.le⟩
theorem Rr.neq {w : World} {B g q at_ : Nat} {v : Value} {bs : List UInt8} {t : TypeId} {cs : Array Value} (h : Rr w B g v bs at_) (hc : Bk w q t cs) (h1 : 110 ≠ t) : some g ≠ some q := fun e => h.blk.ne hc h1 (Option.some.inj e)

section
variable {B g q p b at_ : Nat} {v : Value} {bs : List UInt8} {w : World} {cs : Array Value} {u0 : Value} {c : Nat → Nat}
set_option maxRecDepth 100000 in
theorem signedGet (f : FuncId) (last : Value) (hg : Gets f q 0 p) (hx : Bk w q 93 cs) (hp : cs[p]? = some u0) (hfl : Bk w b 139 #[.func (.func f) #[] #[]]) (hr : Rr w B g v bs at_) :
    Calls Try.prog 100 #[.pointer (some ⟨g, 0, none⟩), .pointer (some ⟨q, 0, none⟩), last, .pointer (some ⟨b, 0, none⟩)] w fun e w' => e = .returned (.int .i64 ((rdAt bs at_).2.2 : Int)) ∧ Rr w' B g v bs (at_ + (rdAt bs at_).2.1) ∧
      Bk w' q 93 (cs.setIfInBounds p (.int .i64 (sgAt bs at_))) ∧ Only (fun r => r = g ∨ r = q) w w' := by
  have HS := Lib.hid (RSigned_g B g at_ v bs w hr)
  have HG := Lib.hid hg.get
  have hcf := hg.ent
  have HFL : Hid (∀ w1, w.grownBy w1 (some g) → w1.cell? ⟨b, 0, none⟩ = some (.func (.func f) #[] #[]) ∧ Bk w1 q 93 cs) := Lib.hid fun w1 h1 => ⟨(hfl.grown h1 (hr.neq hfl (by decide))).cell 0, hx.grown h1 (hr.neq hx (by decide))⟩
  have HP := Lib.hid hp
  clear hg hfl hr hx hp
  generalize (rdAt bs at_).2.2 = z at *
  generalize at_ + (rdAt bs at_).2.1 = a2 at *
  generalize sgAt bs at_ = sv at *
  go_enter Try.func100, Try.ntmps100
  go_wp2_with (first
    | (go_at_call 101; (with_reducible refine HS.out.mono ?_); rintro e w1 ⟨rfl, hr1, hg1⟩
       obtain ⟨z0, hx1⟩ := HFL.out w1 hg1
       have zp : w1.cell? ⟨q, p, none⟩ = some u0 := (hx1.cell p).trans HP.out
       have fp : w1.frozen? ⟨q, p, none⟩ = false := hx1.frozen p
       have HR1 := Lib.hid hr1
       have HG1 := Lib.hid hg1
       have HX1 := Lib.hid hx1
       clear hr1 hg1 hx1)
    | ((with_reducible refine (HG.out _).mono ?_); rintro e w2 ⟨rfl, rfl⟩))
  go_ret
  exact ⟨rfl, HR1.out.setq HX1.out p _ (by decide) (by decide), HX1.out.set p _, (Only.of_grown HG1.out (fun r e => by cases e; exact .inl (.inl rfl))).then (Only.set ⟨q, p, none⟩ _ (.inr rfl) w1)⟩
set_option maxRecDepth 100000 in
theorem countGet (f : FuncId) (last : Value) (hg : Gets f q 0 p) (hx : Bk w q 93 cs) (hp : cs[p]? = some u0) (hfl : Bk w b 139 #[.func (.func f) #[] #[]]) (hr : Rr w B g v bs at_) :
    Calls Try.prog 103 #[.pointer (some ⟨g, 0, none⟩), .pointer (some ⟨q, 0, none⟩), last, .pointer (some ⟨b, 0, none⟩)] w fun e w' => e = .returned (.int .i64 ((rdAt bs at_).2.2 : Int)) ∧ Rr w' B g v bs (at_ + (rdAt bs at_).2.1) ∧
      Bk w' q 93 (cs.setIfInBounds p (.int .i64 (wrap64 ((rdAt bs at_).1 : Int)))) ∧ Only (fun r => r = g ∨ r = q) w w' := by
  have HS := Lib.hid (RNumber_g B g at_ v bs w hr)
  have HG := Lib.hid hg.get
  have hcf := hg.ent
  have HFL : Hid (∀ w1, w.grownBy w1 (some g) → w1.cell? ⟨b, 0, none⟩ = some (.func (.func f) #[] #[]) ∧ Bk w1 q 93 cs) := Lib.hid fun w1 h1 => ⟨(hfl.grown h1 (hr.neq hfl (by decide))).cell 0, hx.grown h1 (hr.neq hx (by decide))⟩
  have HP := Lib.hid hp
  clear hg hfl hr hx hp
  generalize (rdAt bs at_).2.2 = z at *
  generalize at_ + (rdAt bs at_).2.1 = a2 at *
  generalize (rdAt bs at_).1 = sv at *
  go_enter Try.func103, Try.ntmps103
  go_wp2_with (first
    | (go_at_call 40; (with_reducible refine HS.out.mono ?_); rintro e w1 ⟨rfl, hr1, hg1⟩
       obtain ⟨z0, hx1⟩ := HFL.out w1 hg1
       have zp : w1.cell? ⟨q, p, none⟩ = some u0 := (hx1.cell p).trans HP.out
       have fp : w1.frozen? ⟨q, p, none⟩ = false := hx1.frozen p
       have HR1 := Lib.hid hr1
       have HG1 := Lib.hid hg1
       have HX1 := Lib.hid hx1
       clear hr1 hg1 hx1)
    | ((with_reducible refine (HG.out _).mono ?_); rintro e w2 ⟨rfl, rfl⟩))
  go_ret
  exact ⟨rfl, HR1.out.setq HX1.out p _ (by decide) (by decide), HX1.out.set p _, (Only.of_grown HG1.out (fun r e => by cases e; exact .inl (.inl rfl))).then (Only.set ⟨q, p, none⟩ _ (.inr rfl) w1)⟩
set_option maxRecDepth 100000 in
theorem above_ok (f s : Int) (hf : In64 f) (hr : Rr w B g v bs at_) (h : abV bs at_ f = some s) :
    Calls Try.prog 82 #[.pointer (some ⟨g, 0, none⟩), .int .i64 f] w fun e w' => e = .returned (.tuple #[.int .i64 s, .int .i64 0]) ∧ Rr w' B g v bs (at_ + (rdAt bs at_).2.1) ∧ w.grownBy w' (some g) := by
  have HS := RNumber_g B g at_ v bs w hr
  unfold abV at h
  split at h
  · rename_i hh
    obtain ⟨h0, h1⟩ := hh
    cases h
    obtain ⟨hf1, hf2⟩ := hf
    rw [h0] at HS
    have HS := Lib.hid HS
    have hlt := (rdAt_facts bs at_ hr.le).1
    generalize at_ + (rdAt bs at_).2.1 = a2 at *
    generalize (rdAt bs at_).1 = x at *
    have hm : IntKind.u64.wrap (9223372036854775807 - IntKind.u64.wrap f) = 9223372036854775807 - f := by
      rw [IntKind.wrap_u64, IntKind.wrap_u64]; omega
    have hd : decide (IntKind.u64.wrap (9223372036854775807 - IntKind.u64.wrap f) < (x : Int)) = false := by rw [hm]; simp; omega
    have HV : Hid (wrap64 (f + wrap64 (x : Int)) = f + (x : Int)) := Lib.hid (by unfold wrap64; omega)
    clear hr h0 hm h1
    go_enter Try.func82, Try.ntmps82
    go_wp2_with (first
      | (go_at_call 40; (with_reducible refine HS.out.mono ?_); rintro e w1 ⟨rfl, hr1, hg1⟩; have HR1 := Lib.hid hr1; have HG1 := Lib.hid hg1; clear hr1 hg1))
    go_ret2
    exact ⟨by rw [← HV.out]; rfl, HR1.out, HG1.out⟩
  · cases h
set_option maxRecDepth 100000 in
theorem above_bad (f : Int) (hf : In64 f) (hr : Rr w B g v bs at_) (h : abV bs at_ f = none) :
    Calls Try.prog 82 #[.pointer (some ⟨g, 0, none⟩), .int .i64 f] w fun e w' => e = .returned (.tuple #[.int .i64 0, .int .i64 290]) ∧ Rr w' B g v bs (at_ + (rdAt bs at_).2.1) ∧ w.grownBy w' (some g) := by
  have HS := RNumber_g B g at_ v bs w hr
  unfold abV at h
  split at h
  · cases h
  · rename_i hh
    obtain ⟨hf1, hf2⟩ := hf
    have hlt := (rdAt_facts bs at_ hr.le).1
    have hm : IntKind.u64.wrap (9223372036854775807 - IntKind.u64.wrap f) = 9223372036854775807 - f := by
      rw [IntKind.wrap_u64, IntKind.wrap_u64]; omega
    by_cases h0 : (rdAt bs at_).2.2 = 0
    · have h1 : ¬ ((rdAt bs at_).1 : Int) ≤ 9223372036854775807 - f := fun h => hh ⟨h0, h⟩
      rw [h0] at HS
      have HS := Lib.hid HS
      generalize at_ + (rdAt bs at_).2.1 = a2 at *
      generalize (rdAt bs at_).1 = x at *
      have hd : decide (IntKind.u64.wrap (9223372036854775807 - IntKind.u64.wrap f) < (x : Int)) = true := by rw [hm]; simp; omega
      clear hr h0 hm h1 hh
      go_enter Try.func82, Try.ntmps82
      go_wp2_with (first
        | (go_at_call 40; (with_reducible refine HS.out.mono ?_); rintro e w1 ⟨rfl, hr1, hg1⟩; have HR1 := Lib.hid hr1; have HG1 := Lib.hid hg1; clear hr1 hg1))
      go_ret2
      exact ⟨rfl, HR1.out, HG1.out⟩
    · have HS := Lib.hid HS
      generalize at_ + (rdAt bs at_).2.1 = a2 at *
      generalize (rdAt bs at_).1 = x at *
      generalize (rdAt bs at_).2.2 = z at *
      have hz : ((z : Int) != 0) = true := by simp; omega
      clear hr h0 hm hh
      go_enter Try.func82, Try.ntmps82
      go_wp2_with (first
        | (go_at_call 40; (with_reducible refine HS.out.mono ?_); rintro e w1 ⟨rfl, hr1, hg1⟩; have HR1 := Lib.hid hr1; have HG1 := Lib.hid hg1; clear hr1 hg1))
      go_ret2
      exact ⟨rfl, HR1.out, HG1.out⟩
/-- The value of a number above another one, and the error. -/
def abX (bs : List UInt8) (at_ : Nat) (from_ : Int) : Int × Int := match abV bs at_ from_ with
  | some s => (s, 0)
  | none => (0, 290)
theorem above_any (f : Int) (hf : In64 f) (hr : Rr w B g v bs at_) :
    Calls Try.prog 82 #[.pointer (some ⟨g, 0, none⟩), .int .i64 f] w fun e w' => e = .returned (.tuple #[.int .i64 (abX bs at_ f).1, .int .i64 (abX bs at_ f).2]) ∧ Rr w' B g v bs (at_ + (rdAt bs at_).2.1) ∧ w.grownBy w' (some g) := by
  cases h : abV bs at_ f with
  | some s =>
    have e : abX bs at_ f = (s, 0) := by unfold abX; rw [h]
    rw [e]; exact above_ok f s hf hr h
  | none =>
    have e : abX bs at_ f = (0, 290) := by unfold abX; rw [h]
    rw [e]; exact above_bad f hf hr h
set_option maxRecDepth 100000 in
theorem startGet0 (hx : Bk w q 93 cs) (hp : cs[0]? = some u0) (hF : Flds w c) (hr : Rr w B g v bs at_) :
    Calls Try.prog 81 #[.pointer (some ⟨g, 0, none⟩), .pointer (some ⟨q, 0, none⟩), .pointer none, .pointer (some ⟨c 0, 0, none⟩)] w fun e w' => e = .returned (.int .i64 ((rdAt bs at_).2.2 : Int)) ∧ Rr w' B g v bs (at_ + (rdAt bs at_).2.1) ∧
      Bk w' q 93 (cs.setIfInBounds 0 (.int .i64 (sgAt bs at_))) ∧ Only (fun r => r = g ∨ r = q) w w' := by
  have HS := Lib.hid (signedGet 79 (.pointer none) (gets0 q 0) hx hp hF.s0 hr)
  have z0 : w.cell? ⟨c 0, 1, none⟩ = some (.func (.func 100) #[] #[.pointer (some ⟨c 1, 0, none⟩)]) := hF.f0.cell 1
  clear hx hp hF hr
  generalize (rdAt bs at_).2.2 = z at *
  generalize c 0 = c0 at *
  generalize c 1 = c1 at *
  go_enter Try.func81, Try.ntmps81
  go_wp2_with (first
    | (go_at_call 100; (with_reducible refine HS.out.mono ?_); rintro e w1 ⟨rfl, h1, h2, h3⟩; have H1 := Lib.hid h1; have H2 := Lib.hid h2; have H3 := Lib.hid h3; clear h1 h2 h3))
  go_ret
  exact ⟨rfl, H1.out, H2.out, H3.out⟩
set_option maxRecDepth 100000 in
theorem startGet1 (cap : Value) (q2 o2 : Nat) (ys : Int) (hy : In64 ys) (hy2 : w.cell? ⟨q2, o2, none⟩ = some (.int .i64 ys)) (hx : Bk w q 93 cs) (hp : cs[0]? = some u0) (hr : Rr w B g v bs at_) :
    Calls Try.prog 81 #[.pointer (some ⟨g, 0, none⟩), .pointer (some ⟨q, 0, none⟩), .pointer (some ⟨q2, o2, none⟩), cap] w fun e w' => e = .returned (.int .i64 (abX bs at_ ys).2) ∧ Rr w' B g v bs (at_ + (rdAt bs at_).2.1) ∧
      Bk w' q 93 (cs.setIfInBounds 0 (.int .i64 (abX bs at_ ys).1)) ∧ Only (fun r => r = g ∨ r = q) w w' := by
  have HS := Lib.hid (above_any ys hy hr)
  have HX : Hid (∀ w1, w.grownBy w1 (some g) → Bk w1 q 93 cs) := Lib.hid fun w1 h1 => hx.grown h1 (hr.neq hx (by decide))
  have HP := Lib.hid hp
  clear hx hp hr hy
  generalize abX bs at_ ys = ab at *
  obtain ⟨a1, a2⟩ := ab
  simp only at HS ⊢
  go_enter Try.func81, Try.ntmps81
  go_wp2_with (first
    | (go_at_call 82; (with_reducible refine HS.out.mono ?_); rintro e w1 ⟨rfl, hr1, hg1⟩
       have hx1 := HX.out w1 hg1
       have zp : w1.cell? ⟨q, 0, none⟩ = some u0 := (hx1.cell 0).trans HP.out
       have fp : w1.frozen? ⟨q, 0, none⟩ = false := hx1.frozen 0
       have HR1 := Lib.hid hr1
       have HG1 := Lib.hid hg1
       have HX1 := Lib.hid hx1
       clear hr1 hg1 hx1))
  go_ret
  exact ⟨rfl, HR1.out.setq HX1.out 0 _ (by decide) (by decide), HX1.out.set 0 _, (Only.of_grown HG1.out (fun r e => by cases e; exact .inl (.inl rfl))).then (Only.set ⟨q, 0, none⟩ _ (.inr rfl) w1)⟩
set_option maxRecDepth 100000 in
theorem endGet (last : Value) (xs : Int) (hs : In64 xs) (hx : Bk w q 93 cs) (hp0 : cs[0]? = some (.int .i64 xs)) (hp : cs[1]? = some u0) (hr : Rr w B g v bs at_) :
    Calls Try.prog 84 #[.pointer (some ⟨g, 0, none⟩), .pointer (some ⟨q, 0, none⟩), last] w fun e w' => e = .returned (.int .i64 (abX bs at_ xs).2) ∧ Rr w' B g v bs (at_ + (rdAt bs at_).2.1) ∧
      Bk w' q 93 (cs.setIfInBounds 1 (.int .i64 (wrap64 ((abX bs at_ xs).1 + 1)))) ∧ Only (fun r => r = g ∨ r = q) w w' := by
  have HS := Lib.hid (above_any xs hs hr)
  have HX : Hid (∀ w1, w.grownBy w1 (some g) → Bk w1 q 93 cs) := Lib.hid fun w1 h1 => hx.grown h1 (hr.neq hx (by decide))
  have HP := Lib.hid hp
  have y0 : w.cell? ⟨q, 0, none⟩ = some (.int .i64 xs) := (hx.cell 0).trans hp0
  clear hx hp hr hs hp0
  generalize abX bs at_ xs = ab at *
  obtain ⟨a1, a2⟩ := ab
  simp only at HS ⊢
  go_enter Try.func84, Try.ntmps84
  go_wp2_with (first
    | (go_at_call 82; (with_reducible refine HS.out.mono ?_); rintro e w1 ⟨rfl, hr1, hg1⟩
       have hx1 := HX.out w1 hg1
       have zp : w1.cell? ⟨q, 1, none⟩ = some u0 := (hx1.cell 1).trans HP.out
       have fp : w1.frozen? ⟨q, 1, none⟩ = false := hx1.frozen 1
       have HR1 := Lib.hid hr1
       have HG1 := Lib.hid hg1
       have HX1 := Lib.hid hx1
       clear hr1 hg1 hx1))
  go_ret
  have hb1 := HX1.out.set 1 (.int .i64 a1)
  have hb2 := hb1.set 1 (.int .i64 (wrap64 (a1 + 1)))
  have he : (cs.setIfInBounds 1 (.int .i64 a1)).setIfInBounds 1 (.int .i64 (wrap64 (a1 + 1))) = cs.setIfInBounds 1 (.int .i64 (wrap64 (a1 + 1))) := by simp
  rw [he] at hb2
  exact ⟨rfl, (HR1.out.setq HX1.out 1 _ (by decide) (by decide)).setq hb1 1 _ (by decide) (by decide), hb2, ((Only.of_grown HG1.out (fun r e => by cases e; exact .inl (.inl rfl))).then (Only.set ⟨q, 1, none⟩ _ (.inr rfl) w1)).then (Only.set ⟨q, 1, none⟩ _ (.inr rfl) _)⟩
end
end Go.Proofs.Ytaechgnjdjijkaa

/- A window's numbers, read: plainly; what each field's closure does; must. -/
namespace Go.Proofs.Ytaechgnjdjijkaa
open Go.RowKit Go.Lib

def wn0 : Wn := ⟨0, 0, 0, 0, 0, 0, 0, 0, 0⟩
def Wn.put (x : Wn) (j : Nat) (z : Int) : Wn := match j with
  | 0 => { x with s := z }
  | 1 => { x with e := z }
  | 2 => { x with h := z }
  | 3 => { x with c := z }
  | 4 => { x with u := z }
  | 5 => { x with lo := z }
  | 6 => { x with hi := z }
  | 7 => { x with si := z }
  | _ => { x with pa := z }
/-- A field that is read: its value, the error. -/
def fget (bs : List UInt8) (last : Option Int) (x : Wn) (at_ : Nat) : Nat → Int × Int
  | 0 => match last with
    | none => (sgAt bs at_, ((rdAt bs at_).2.2 : Int))
    | some s => abX bs at_ s
  | 1 => (wrap64 ((abX bs at_ x.s).1 + 1), (abX bs at_ x.s).2)
  | 2 => (sgAt bs at_, ((rdAt bs at_).2.2 : Int))
  | 3 => (wrap64 ((rdAt bs at_).1 : Int), ((rdAt bs at_).2.2 : Int))
  | 4 => (sgAt bs at_, ((rdAt bs at_).2.2 : Int))
  | 5 => (sgAt bs at_, ((rdAt bs at_).2.2 : Int))
  | 6 => (sgAt bs at_, ((rdAt bs at_).2.2 : Int))
  | _ => (wrap64 ((rdAt bs at_).1 : Int), ((rdAt bs at_).2.2 : Int))
def rdTo (bs : List UInt8) (last : Option Int) (at0 : Nat) : Nat → Option (Wn × Nat)
  | 0 => some (wn0, at0)
  | k + 1 => match rdTo bs last at0 k with
    | none => none
    | some (x, at_) => if (fget bs last x at_ k).2 = 0 then some (x.put k (fget bs last x at_ k).1, at_ + (rdAt bs at_).2.1) else none
theorem rdTo_succ {bs : List UInt8} {last : Option Int} {at0 k : Nat} {x : Wn} {at_ : Nat} (h : rdTo bs last at0 k = some (x, at_)) (h2 : (fget bs last x at_ k).2 = 0) : rdTo bs last at0 (k + 1) = some (x.put k (fget bs last x at_ k).1, at_ + (rdAt bs at_).2.1) := by
  rw [rdTo, h]; simp only; rw [if_pos h2]
theorem rdTo_stop {bs : List UInt8} {last : Option Int} {at0 k : Nat} {x : Wn} {at_ : Nat} (h : rdTo bs last at0 k = some (x, at_)) (h2 : (fget bs last x at_ k).2 ≠ 0) : ∀ d, rdTo bs last at0 (k + 1 + d) = none
  | 0 => by rw [Nat.add_zero, rdTo, h]; simp only; rw [if_neg h2]
  | d + 1 => by rw [← Nat.add_assoc, rdTo, rdTo_stop h h2 d]
theorem wrap64_I (z : Int) : In64 (wrap64 z) := by unfold wrap64 In64; omega
theorem sgAt_I (bs : List UInt8) (at_ : Nat) (h : at_ ≤ bs.length) : In64 (sgAt bs at_) := by
  have := (rdAt_facts bs at_ h).1
  unfold sgAt unz In64
  split
  · split <;> omega
  · omega
theorem abX_I (bs : List UInt8) (at_ : Nat) (f : Int) (hf : In64 f) : In64 (abX bs at_ f).1 := by
  unfold abX abV
  unfold In64 at *
  split
  · rename_i s h
    split at h
    · cases h; simp only; omega
    · cases h
  · simp
theorem fget_I {bs : List UInt8} {last : Option Int} {x : Wn} {at_ : Nat} (hl : ∀ s, last = some s → In64 s) (_hx : In64 x.s) (hat : at_ ≤ bs.length) : ∀ j, In64 (fget bs last x at_ j).1
  | 0 => by
    unfold fget
    cases last with
    | none => exact sgAt_I bs at_ hat
    | some s => exact abX_I bs at_ s (hl s rfl)
  | 1 => wrap64_I _
  | 2 => sgAt_I bs at_ hat
  | 3 => wrap64_I _
  | 4 => sgAt_I bs at_ hat
  | 5 => sgAt_I bs at_ hat
  | 6 => sgAt_I bs at_ hat
  | n + 7 => wrap64_I _
theorem put_Fit {x : Wn} (h : x.Fit) {z : Int} (hz : In64 z) (j : Nat) : (x.put j z).Fit := by
  obtain ⟨a, b, c, d, e, f, g, i, k⟩ := h
  unfold Wn.put
  split <;> exact ⟨by assumption, by assumption, by assumption, by assumption, by assumption, by assumption, by assumption, by assumption, by assumption⟩
theorem wn0_Fit : wn0.Fit := by
  have h : In64 0 := by unfold In64; omega
  exact ⟨h, h, h, h, h, h, h, h, h⟩
theorem rdAt_pos {bs : List UInt8} {at_ : Nat} (hat : at_ ≤ bs.length) (h : (rdAt bs at_).2.2 = 0) : 0 < (rdAt bs at_).2.1 := (rdAt_facts bs at_ hat).2.2.1 h
theorem fget_err {bs : List UInt8} {last : Option Int} {x : Wn} {at_ : Nat} (j : Nat) (h : (fget bs last x at_ j).2 = 0) : (rdAt bs at_).2.2 = 0 := by
  have hab : ∀ f, (abX bs at_ f).2 = 0 → (rdAt bs at_).2.2 = 0 := fun f h => by
    unfold abX abV at h
    split at h
    · rename_i s h2
      split at h2
      · rename_i hh; exact hh.1
      · cases h2
    · cases h
  unfold fget at h
  split at h
  · split at h
    · simpa using h
    · exact hab _ h
  · exact hab _ h
  all_goals simpa using h
/-- What is read fits, and takes a byte a number at least. -/
theorem rdTo_facts {bs : List UInt8} {last : Option Int} {at0 : Nat} (hl : ∀ s, last = some s → In64 s) (h0 : at0 ≤ bs.length) : ∀ (k : Nat) (x : Wn) (at_ : Nat), rdTo bs last at0 k = some (x, at_) → x.Fit ∧ at_ ≤ bs.length ∧ at0 + k ≤ at_
  | 0, x, at_, h => by cases h; exact ⟨wn0_Fit, h0, Nat.le_refl _⟩
  | k + 1, x, at_, h => by
    rw [rdTo] at h
    split at h
    · cases h
    · rename_i y a hy
      obtain ⟨h1, h2, h3⟩ := rdTo_facts hl h0 k y a hy
      split at h
      · rename_i he
        cases h
        have hp := rdAt_pos h2 (fget_err k he)
        exact ⟨put_Fit h1 (fget_I hl h1.s h2 k) k, (rdAt_facts bs a h2).2.1, by omega⟩
      · cases h
theorem arr_put (x : Wn) (z : Int) : ∀ j, j < 9 → x.arr.setIfInBounds j (.int .i64 z) = (x.put j z).arr
  | 0, _ => rfl
  | 1, _ => rfl
  | 2, _ => rfl
  | 3, _ => rfl
  | 4, _ => rfl
  | 5, _ => rfl
  | 6, _ => rfl
  | 7, _ => rfl
  | 8, _ => rfl
  | j + 9, h => absurd h (by omega)

section
variable {B g q at_ : Nat} {v lp : Value} {bs : List UInt8} {w : World} {c : Nat → Nat} {x : Wn} {last : Option Int}
/-- What a field's reading closure does. -/
def GetsF (B g q : Nat) (v lp : Value) (bs : List UInt8) (at_ : Nat) (w : World) (x : Wn) (last : Option Int) (f : FuncId) (caps : Array Value) (j : Nat) : Prop :=
  Calls Try.prog f (#[.pointer (some ⟨g, 0, none⟩), .pointer (some ⟨q, 0, none⟩), lp] ++ caps) w fun e w' => e = .returned (.int .i64 (fget bs last x at_ j).2) ∧ Rr w' B g v bs (at_ + (rdAt bs at_).2.1) ∧ Bk w' q 93 (x.put j (fget bs last x at_ j).1).arr ∧ Only (fun r => r = g ∨ r = q) w w'
theorem fgot0 (hl : LastOk w lp last) (hli : ∀ s, last = some s → In64 s) (hx : Bk w q 93 x.arr) (_hs : In64 x.s) (hF : Flds w c) (hr : Rr w B g v bs at_) : GetsF B g q v lp bs at_ w x last 81 #[.pointer (some ⟨c 0, 0, none⟩)] 0 := by
  rcases hl with ⟨rfl, rfl⟩ | ⟨q2, o2, ys, rfl, rfl, hc⟩
  · have h := startGet0 (u0 := .int .i64 x.s) hx rfl hF hr
    rw [arr_put x _ 0 (by omega)] at h
    exact h
  · have h := startGet1 (u0 := .int .i64 x.s) (.pointer (some ⟨c 0, 0, none⟩)) q2 o2 ys (hli ys rfl) hc hx rfl hr
    rw [arr_put x _ 0 (by omega)] at h
    exact h
theorem fgot1 (_hl : LastOk w lp last) (_hli : ∀ s, last = some s → In64 s) (hx : Bk w q 93 x.arr) (hs : In64 x.s) (_hF : Flds w c) (hr : Rr w B g v bs at_) : GetsF B g q v lp bs at_ w x last 84 #[] 1 := by
  have h := endGet (u0 := .int .i64 x.e) lp x.s hs hx rfl rfl hr
  rw [arr_put x _ 1 (by omega)] at h
  exact h
theorem fgot2 (_hl : LastOk w lp last) (_hli : ∀ s, last = some s → In64 s) (hx : Bk w q 93 x.arr) (_hs : In64 x.s) (hF : Flds w c) (hr : Rr w B g v bs at_) : GetsF B g q v lp bs at_ w x last 100 #[.pointer (some ⟨c 2, 0, none⟩)] 2 := by
  have h := signedGet (u0 := .int .i64 x.h) (p := 2) 85 lp (by have := gets2 q 0; rwa [Nat.zero_add] at this) hx rfl hF.f2 hr
  rw [arr_put x _ 2 (by omega)] at h
  exact h
theorem fgot4 (_hl : LastOk w lp last) (_hli : ∀ s, last = some s → In64 s) (hx : Bk w q 93 x.arr) (_hs : In64 x.s) (hF : Flds w c) (hr : Rr w B g v bs at_) : GetsF B g q v lp bs at_ w x last 100 #[.pointer (some ⟨c 4, 0, none⟩)] 4 := by
  have h := signedGet (u0 := .int .i64 x.u) (p := 4) 88 lp (by have := gets4 q 0; rwa [Nat.zero_add] at this) hx rfl hF.f4 hr
  rw [arr_put x _ 4 (by omega)] at h
  exact h
theorem fgot5 (_hl : LastOk w lp last) (_hli : ∀ s, last = some s → In64 s) (hx : Bk w q 93 x.arr) (_hs : In64 x.s) (hF : Flds w c) (hr : Rr w B g v bs at_) : GetsF B g q v lp bs at_ w x last 100 #[.pointer (some ⟨c 5, 0, none⟩)] 5 := by
  have h := signedGet (u0 := .int .i64 x.lo) (p := 5) 89 lp (by have := gets5 q 0; rwa [Nat.zero_add] at this) hx rfl hF.f5 hr
  rw [arr_put x _ 5 (by omega)] at h
  exact h
theorem fgot6 (_hl : LastOk w lp last) (_hli : ∀ s, last = some s → In64 s) (hx : Bk w q 93 x.arr) (_hs : In64 x.s) (hF : Flds w c) (hr : Rr w B g v bs at_) : GetsF B g q v lp bs at_ w x last 100 #[.pointer (some ⟨c 6, 0, none⟩)] 6 := by
  have h := signedGet (u0 := .int .i64 x.hi) (p := 6) 90 lp (by have := gets6 q 0; rwa [Nat.zero_add] at this) hx rfl hF.f6 hr
  rw [arr_put x _ 6 (by omega)] at h
  exact h
theorem fgot3 (_hl : LastOk w lp last) (_hli : ∀ s, last = some s → In64 s) (hx : Bk w q 93 x.arr) (_hs : In64 x.s) (hF : Flds w c) (hr : Rr w B g v bs at_) : GetsF B g q v lp bs at_ w x last 103 #[.pointer (some ⟨c 3, 0, none⟩)] 3 := by
  have h := countGet (u0 := .int .i64 x.c) (p := 3) 87 lp (by have := gets3 q 0; rwa [Nat.zero_add] at this) hx rfl hF.f3 hr
  rw [arr_put x _ 3 (by omega)] at h
  exact h
theorem fgot7 (_hl : LastOk w lp last) (_hli : ∀ s, last = some s → In64 s) (hx : Bk w q 93 x.arr) (_hs : In64 x.s) (hF : Flds w c) (hr : Rr w B g v bs at_) : GetsF B g q v lp bs at_ w x last 103 #[.pointer (some ⟨c 7, 0, none⟩)] 7 := by
  have h := countGet (u0 := .int .i64 x.si) (p := 7) 91 lp (by have := gets7 q 0; rwa [Nat.zero_add] at this) hx rfl hF.f7 hr
  rw [arr_put x _ 7 (by omega)] at h
  exact h
theorem fgot8 (_hl : LastOk w lp last) (_hli : ∀ s, last = some s → In64 s) (hx : Bk w q 93 x.arr) (_hs : In64 x.s) (hF : Flds w c) (hr : Rr w B g v bs at_) : GetsF B g q v lp bs at_ w x last 103 #[.pointer (some ⟨c 8, 0, none⟩)] 8 := by
  have h := countGet (u0 := .int .i64 x.pa) (p := 8) 92 lp (by have := gets8 q 0; rwa [Nat.zero_add] at this) hx rfl hF.f8 hr
  rw [arr_put x _ 8 (by omega)] at h
  exact h
end
theorem must_ok (w : World) : Calls Try.prog 59 #[.int .i64 0] w fun e w' => e = .returned (.tuple #[]) ∧ w = w' := by
  go_enter Try.func59, Try.ntmps59
  go_wp2
  go_end0
  exact ⟨rfl, rfl⟩
/-- The panic of something that can't be read. -/
def refused (e : Ending) : Prop := ∃ z : Int, e = .panicked [{ v := .iface 68 (.agg #[.int .i64 z]), recovered := false }]
theorem must_bad (z : Int) (hz : z ≠ 0) (w : World) : Calls Try.prog 59 #[.int .i64 z] w fun e w' => refused e ∧ w = w' := by
  have h1 : (z != 0) = true := by simpa using hz
  clear hz
  go_enter Try.func59, Try.ntmps59
  go_wp2

  exact ⟨rfl, ⟨z, rfl⟩, rfl⟩
end Go.Proofs.Ytaechgnjdjijkaa
