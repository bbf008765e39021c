/- A window's fields, read one by one. -/
import Derived.Test.YtaechgnjdjijkaaPutF
import Derived.Test.YtaechgnjdjijkaaText
namespace Go.Proofs.Ytaechgnjdjijkaa
open Go.RowKit Go.Lib

/-- A number that is read above another one: its value and the error. -/
def abV (bs : List UInt8) (at_ : Nat) (from_ : Int) : Option Int := if (rdAt bs at_).2.2 = 0 ∧ ((rdAt bs at_).1 : Int) ≤ 9223372036854775807 - from_ then some (from_ + (rdAt bs at_).1) else none
theorem Rr.setq {w : World} {B g q at_ : Nat} {v : Value} {bs : List UInt8} {t : TypeId} {cs : Array Value} (h : Rr w B g v bs at_) (hc : Bk w q t cs) (i : Nat) (u : Value) (h1 : 110 ≠ t) (h2 : 5 ≠ t) : Rr (w.setCell ⟨q, i, none⟩ u) B g v bs at_ :=
  ⟨h.blk.far (p := ⟨q, i, none⟩) (h.blk.ne hc h1) u, own_set h.own hc h2 i u, h.le⟩
theorem Rr.neq {w : World} {B g q at_ : Nat} {v : Value} {bs : List UInt8} {t : TypeId} {cs : Array Value} (h : Rr w B g v bs at_) (hc : Bk w q t cs) (h1 : 110 ≠ t) : some g ≠ some q := fun e => h.blk.ne hc h1 (Option.some.inj e)

section
variable {B g q p b at_ : Nat} {v : Value} {bs : List UInt8} {w : World} {cs : Array Value} {u0 : Value} {c : Nat → Nat}
set_option maxRecDepth 100000 in
theorem signedGet (f : FuncId) (last : Value) (hg : Gets f q 0 p) (hx : Bk w q 93 cs) (hp : cs[p]? = some u0) (hfl : Bk w b 139 #[.func (.func f) #[] #[]]) (hr : Rr w B g v bs at_) :
    Calls Try.prog 100 #[.pointer (some ⟨g, 0, none⟩), .pointer (some ⟨q, 0, none⟩), last, .pointer (some ⟨b, 0, none⟩)] w fun e w' => e = .returned (.int .i64 ((rdAt bs at_).2.2 : Int)) ∧ Rr w' B g v bs (at_ + (rdAt bs at_).2.1) ∧
      Bk w' q 93 (cs.setIfInBounds p (.int .i64 (sgAt bs at_))) ∧ Only (fun r => r = g ∨ r = q) w w' := by
  have HS := Lib.hid (RSigned_g B g at_ v bs w hr)
  have HG := Lib.hid hg.get
  have hcf := hg.ent
  have HFL : Hid (∀ w1, w.grownBy w1 (some g) → w1.cell? ⟨b, 0, none⟩ = some (.func (.func f) #[] #[]) ∧ Bk w1 q 93 cs) := Lib.hid fun w1 h1 => ⟨(hfl.grown h1 (hr.neq hfl (by decide))).cell 0, hx.grown h1 (hr.neq hx (by decide))⟩
  have HP := Lib.hid hp
  clear hg hfl hr hx hp
  generalize (rdAt bs at_).2.2 = z at *
  generalize at_ + (rdAt bs at_).2.1 = a2 at *
  generalize sgAt bs at_ = sv at *
  go_enter Try.func100, Try.ntmps100
  go_wp2_with (first
    | (go_at_call 101; (with_reducible refine HS.out.mono ?_); rintro e w1 ⟨rfl, hr1, hg1⟩
       obtain ⟨z0, hx1⟩ := HFL.out w1 hg1
       have zp : w1.cell? ⟨q, p, none⟩ = some u0 := (hx1.cell p).trans HP.out
       have fp : w1.frozen? ⟨q, p, none⟩ = false := hx1.frozen p
       have HR1 := Lib.hid hr1
       have HG1 := Lib.hid hg1
       have HX1 := Lib.hid hx1
       clear hr1 hg1 hx1)
    | ((with_reducible refine (HG.out _).mono ?_); rintro e w2 ⟨rfl, rfl⟩))
  go_ret
  exact ⟨rfl, HR1.out.setq HX1.out p _ (by decide) (by decide), HX1.out.set p _, (Only.of_grown HG1.out (fun r e => by cases e; exact .inl (.inl rfl))).then (Only.set ⟨q, p, none⟩ _ (.inr rfl) w1)⟩
set_option maxRecDepth 100000 in
theorem countGet (f : FuncId) (last : Value) (hg : Gets f q 0 p) (hx : Bk w q 93 cs) (hp : cs[p]? = some u0) (hfl : Bk w b 139 #[.func (.func f) #[] #[]]) (hr : Rr w B g v bs at_) :
    Calls Try.prog 103 #[.pointer (some ⟨g, 0, none⟩), .pointer (some ⟨q, 0, none⟩), last, .pointer (some ⟨b, 0, none⟩)] w fun e w' => e = .returned (.int .i64 ((rdAt bs at_).2.2 : Int)) ∧ Rr w' B g v bs (at_ + (rdAt bs at_).2.1) ∧
      Bk w' q 93 (cs.setIfInBounds p (.int .i64 (wrap64 ((rdAt bs at_).1 : Int)))) ∧ Only (fun r => r = g ∨ r = q) w w' := by
  have HS := Lib.hid (RNumber_g B g at_ v bs w hr)
  have HG := Lib.hid hg.get
  have hcf := hg.ent
  have HFL : Hid (∀ w1, w.grownBy w1 (some g) → w1.cell? ⟨b, 0, none⟩ = some (.func (.func f) #[] #[]) ∧ Bk w1 q 93 cs) := Lib.hid fun w1 h1 => ⟨(hfl.grown h1 (hr.neq hfl (by decide))).cell 0, hx.grown h1 (hr.neq hx (by decide))⟩
  have HP := Lib.hid hp
  clear hg hfl hr hx hp
  generalize (rdAt bs at_).2.2 = z at *
  generalize at_ + (rdAt bs at_).2.1 = a2 at *
  generalize (rdAt bs at_).1 = sv at *
  go_enter Try.func103, Try.ntmps103
  go_wp2_with (first
    | (go_at_call 40; (with_reducible refine HS.out.mono ?_); rintro e w1 ⟨rfl, hr1, hg1⟩
       obtain ⟨z0, hx1⟩ := HFL.out w1 hg1
       have zp : w1.cell? ⟨q, p, none⟩ = some u0 := (hx1.cell p).trans HP.out
       have fp : w1.frozen? ⟨q, p, none⟩ = false := hx1.frozen p
       have HR1 := Lib.hid hr1
       have HG1 := Lib.hid hg1
       have HX1 := Lib.hid hx1
       clear hr1 hg1 hx1)
    | ((with_reducible refine (HG.out _).mono ?_); rintro e w2 ⟨rfl, rfl⟩))
  go_ret
  exact ⟨rfl, HR1.out.setq HX1.out p _ (by decide) (by decide), HX1.out.set p _, (Only.of_grown HG1.out (fun r e => by cases e; exact .inl (.inl rfl))).then (Only.set ⟨q, p, none⟩ _ (.inr rfl) w1)⟩
set_option maxRecDepth 100000 in
theorem above_ok (f s : Int) (hf : In64 f) (hr : Rr w B g v bs at_) (h : abV bs at_ f = some s) :
    Calls Try.prog 82 #[.pointer (some ⟨g, 0, none⟩), .int .i64 f] w fun e w' => e = .returned (.tuple #[.int .i64 s, .int .i64 0]) ∧ Rr w' B g v bs (at_ + (rdAt bs at_).2.1) ∧ w.grownBy w' (some g) := by
  have HS := RNumber_g B g at_ v bs w hr
  unfold abV at h
  split at h
  · rename_i hh
    obtain ⟨h0, h1⟩ := hh
    cases h
    obtain ⟨hf1, hf2⟩ := hf
    rw [h0] at HS
    have HS := Lib.hid HS
    have hlt := (rdAt_facts bs at_ hr.le).1
    generalize at_ + (rdAt bs at_).2.1 = a2 at *
    generalize (rdAt bs at_).1 = x at *
    have hm : IntKind.u64.wrap (9223372036854775807 - IntKind.u64.wrap f) = 9223372036854775807 - f := by
      rw [IntKind.wrap_u64, IntKind.wrap_u64]; omega
    have hd : decide (IntKind.u64.wrap (9223372036854775807 - IntKind.u64.wrap f) < (x : Int)) = false := by rw [hm]; simp; omega
    have HV : Hid (wrap64 (f + wrap64 (x : Int)) = f + (x : Int)) := Lib.hid (by unfold wrap64; omega)
    clear hr h0 hm h1
    go_enter Try.func82, Try.ntmps82
    go_wp2_with (first
      | (go_at_call 40; (with_reducible refine HS.out.mono ?_); rintro e w1 ⟨rfl, hr1, hg1⟩; have HR1 := Lib.hid hr1; have HG1 := Lib.hid hg1; clear hr1 hg1))
    go_ret2
    exact ⟨by rw [← HV.out]; rfl, HR1.out, HG1.out⟩
  · cases h
set_option maxRecDepth 100000 in
theorem above_bad (f : Int) (hf : In64 f) (hr : Rr w B g v bs at_) (h : abV bs at_ f = none) :
    Calls Try.prog 82 #[.pointer (some ⟨g, 0, none⟩), .int .i64 f] w fun e w' => e = .returned (.tuple #[.int .i64 0, .int .i64 290]) ∧ Rr w' B g v bs (at_ + (rdAt bs at_).2.1) ∧ w.grownBy w' (some g) := by
  have HS := RNumber_g B g at_ v bs w hr
  unfold abV at h
  split at h
  · cases h
  · rename_i hh
    obtain ⟨hf1, hf2⟩ := hf
    have hlt := (rdAt_facts bs at_ hr.le).1
    have hm : IntKind.u64.wrap (9223372036854775807 - IntKind.u64.wrap f) = 9223372036854775807 - f := by
      rw [IntKind.wrap_u64, IntKind.wrap_u64]; omega
    by_cases h0 : (rdAt bs at_).2.2 = 0
    · have h1 : ¬ ((rdAt bs at_).1 : Int) ≤ 9223372036854775807 - f := fun h => hh ⟨h0, h⟩
      rw [h0] at HS
      have HS := Lib.hid HS
      generalize at_ + (rdAt bs at_).2.1 = a2 at *
      generalize (rdAt bs at_).1 = x at *
      have hd : decide (IntKind.u64.wrap (9223372036854775807 - IntKind.u64.wrap f) < (x : Int)) = true := by rw [hm]; simp; omega
      clear hr h0 hm h1 hh
      go_enter Try.func82, Try.ntmps82
      go_wp2_with (first
        | (go_at_call 40; (with_reducible refine HS.out.mono ?_); rintro e w1 ⟨rfl, hr1, hg1⟩; have HR1 := Lib.hid hr1; have HG1 := Lib.hid hg1; clear hr1 hg1))
      go_ret2
      exact ⟨rfl, HR1.out, HG1.out⟩
    · have HS := Lib.hid HS
      generalize at_ + (rdAt bs at_).2.1 = a2 at *
      generalize (rdAt bs at_).1 = x at *
      generalize (rdAt bs at_).2.2 = z at *
      have hz : ((z : Int) != 0) = true := by simp; omega
      clear hr h0 hm hh
      go_enter Try.func82, Try.ntmps82
      go_wp2_with (first
        | (go_at_call 40; (with_reducible refine HS.out.mono ?_); rintro e w1 ⟨rfl, hr1, hg1⟩; have HR1 := Lib.hid hr1; have HG1 := Lib.hid hg1; clear hr1 hg1))
      go_ret2
      exact ⟨rfl, HR1.out, HG1.out⟩
/-- The value of a number above another one, and the error. -/
def abX (bs : List UInt8) (at_ : Nat) (from_ : Int) : Int × Int := match abV bs at_ from_ with
  | some s => (s, 0)
  | none => (0, 290)
theorem above_any (f : Int) (hf : In64 f) (hr : Rr w B g v bs at_) :
    Calls Try.prog 82 #[.pointer (some ⟨g, 0, none⟩), .int .i64 f] w fun e w' => e = .returned (.tuple #[.int .i64 (abX bs at_ f).1, .int .i64 (abX bs at_ f).2]) ∧ Rr w' B g v bs (at_ + (rdAt bs at_).2.1) ∧ w.grownBy w' (some g) := by
  cases h : abV bs at_ f with
  | some s =>
    have e : abX bs at_ f = (s, 0) := by unfold abX; rw [h]
    rw [e]; exact above_ok f s hf hr h
  | none =>
    have e : abX bs at_ f = (0, 290) := by unfold abX; rw [h]
    rw [e]; exact above_bad f hf hr h
set_option maxRecDepth 100000 in
theorem startGet0 (hx : Bk w q 93 cs) (hp : cs[0]? = some u0) (hF : Flds w c) (hr : Rr w B g v bs at_) :
    Calls Try.prog 81 #[.pointer (some ⟨g, 0, none⟩), .pointer (some ⟨q, 0, none⟩), .pointer none, .pointer (some ⟨c 0, 0, none⟩)] w fun e w' => e = .returned (.int .i64 ((rdAt bs at_).2.2 : Int)) ∧ Rr w' B g v bs (at_ + (rdAt bs at_).2.1) ∧
      Bk w' q 93 (cs.setIfInBounds 0 (.int .i64 (sgAt bs at_))) ∧ Only (fun r => r = g ∨ r = q) w w' := by
  have HS := Lib.hid (signedGet 79 (.pointer none) (gets0 q 0) hx hp hF.s0 hr)
  have z0 : w.cell? ⟨c 0, 1, none⟩ = some (.func (.func 100) #[] #[.pointer (some ⟨c 1, 0, none⟩)]) := hF.f0.cell 1
  clear hx hp hF hr
  generalize (rdAt bs at_).2.2 = z at *
  generalize c 0 = c0 at *
  generalize c 1 = c1 at *
  go_enter Try.func81, Try.ntmps81
  go_wp2_with (first
    | (go_at_call 100; (with_reducible refine HS.out.mono ?_); rintro e w1 ⟨rfl, h1, h2, h3⟩; have H1 := Lib.hid h1; have H2 := Lib.hid h2; have H3 := Lib.hid h3; clear h1 h2 h3))
  go_ret
  exact ⟨rfl, H1.out, H2.out, H3.out⟩
set_option maxRecDepth 100000 in
theorem startGet1 (cap : Value) (q2 o2 : Nat) (ys : Int) (hy : In64 ys) (hy2 : w.cell? ⟨q2, o2, none⟩ = some (.int .i64 ys)) (hx : Bk w q 93 cs) (hp : cs[0]? = some u0) (hr : Rr w B g v bs at_) :
    Calls Try.prog 81 #[.pointer (some ⟨g, 0, none⟩), .pointer (some ⟨q, 0, none⟩), .pointer (some ⟨q2, o2, none⟩), cap] w fun e w' => e = .returned (.int .i64 (abX bs at_ ys).2) ∧ Rr w' B g v bs (at_ + (rdAt bs at_).2.1) ∧
      Bk w' q 93 (cs.setIfInBounds 0 (.int .i64 (abX bs at_ ys).1)) ∧ Only (fun r => r = g ∨ r = q) w w' := by
  have HS := Lib.hid (above_any ys hy hr)
  have HX : Hid (∀ w1, w.grownBy w1 (some g) → Bk w1 q 93 cs) := Lib.hid fun w1 h1 => hx.grown h1 (hr.neq hx (by decide))
  have HP := Lib.hid hp
  clear hx hp hr hy
  generalize abX bs at_ ys = ab at *
  obtain ⟨a1, a2⟩ := ab
  simp only at HS ⊢
  go_enter Try.func81, Try.ntmps81
  go_wp2_with (first
    | (go_at_call 82; (with_reducible refine HS.out.mono ?_); rintro e w1 ⟨rfl, hr1, hg1⟩
       have hx1 := HX.out w1 hg1
       have zp : w1.cell? ⟨q, 0, none⟩ = some u0 := (hx1.cell 0).trans HP.out
       have fp : w1.frozen? ⟨q, 0, none⟩ = false := hx1.frozen 0
       have HR1 := Lib.hid hr1
       have HG1 := Lib.hid hg1
       have HX1 := Lib.hid hx1
       clear hr1 hg1 hx1))
  go_ret
  exact ⟨rfl, HR1.out.setq HX1.out 0 _ (by decide) (by decide), HX1.out.set 0 _, (Only.of_grown HG1.out (fun r e => by cases e; exact .inl (.inl rfl))).then (Only.set ⟨q, 0, none⟩ _ (.inr rfl) w1)⟩
set_option maxRecDepth 100000 in
theorem endGet (last : Value) (xs : Int) (hs : In64 xs) (hx : Bk w q 93 cs) (hp0 : cs[0]? = some (.int .i64 xs)) (hp : cs[1]? = some u0) (hr : Rr w B g v bs at_) :
    Calls Try.prog 84 #[.pointer (some ⟨g, 0, none⟩), .pointer (some ⟨q, 0, none⟩), last] w fun e w' => e = .returned (.int .i64 (abX bs at_ xs).2) ∧ Rr w' B g v bs (at_ + (rdAt bs at_).2.1) ∧
      Bk w' q 93 (cs.setIfInBounds 1 (.int .i64 (wrap64 ((abX bs at_ xs).1 + 1)))) ∧ Only (fun r => r = g ∨ r = q) w w' := by
  have HS := Lib.hid (above_any xs hs hr)
  have HX : Hid (∀ w1, w.grownBy w1 (some g) → Bk w1 q 93 cs) := Lib.hid fun w1 h1 => hx.grown h1 (hr.neq hx (by decide))
  have HP := Lib.hid hp
  have y0 : w.cell? ⟨q, 0, none⟩ = some (.int .i64 xs) := (hx.cell 0).trans hp0
  clear hx hp hr hs hp0
  generalize abX bs at_ xs = ab at *
  obtain ⟨a1, a2⟩ := ab
  simp only at HS ⊢
  go_enter Try.func84, Try.ntmps84
  go_wp2_with (first
    | (go_at_call 82; (with_reducible refine HS.out.mono ?_); rintro e w1 ⟨rfl, hr1, hg1⟩
       have hx1 := HX.out w1 hg1
       have zp : w1.cell? ⟨q, 1, none⟩ = some u0 := (hx1.cell 1).trans HP.out
       have fp : w1.frozen? ⟨q, 1, none⟩ = false := hx1.frozen 1
       have HR1 := Lib.hid hr1
       have HG1 := Lib.hid hg1
       have HX1 := Lib.hid hx1
       clear hr1 hg1 hx1))
  go_ret
  have hb1 := HX1.out.set 1 (.int .i64 a1)
  have hb2 := hb1.set 1 (.int .i64 (wrap64 (a1 + 1)))
  have he : (cs.setIfInBounds 1 (.int .i64 a1)).setIfInBounds 1 (.int .i64 (wrap64 (a1 + 1))) = cs.setIfInBounds 1 (.int .i64 (wrap64 (a1 + 1))) := by simp
  rw [he] at hb2
  exact ⟨rfl, (HR1.out.setq HX1.out 1 _ (by decide) (by decide)).setq hb1 1 _ (by decide) (by decide), hb2, ((Only.of_grown HG1.out (fun r e => by cases e; exact .inl (.inl rfl))).then (Only.set ⟨q, 1, none⟩ _ (.inr rfl) w1)).then (Only.set ⟨q, 1, none⟩ _ (.inr rfl) _)⟩
end
end Go.Proofs.Ytaechgnjdjijkaa
