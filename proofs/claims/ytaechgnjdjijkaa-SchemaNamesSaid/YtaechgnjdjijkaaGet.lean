/- A window's numbers, read: plainly; what each field's closure does; must. -/
import Derived.Test.YtaechgnjdjijkaaGetF
import Derived.Test.YtaechgnjdjijkaaPut
namespace Go.Proofs.Ytaechgnjdjijkaa
open Go.RowKit Go.Lib

def wn0 : Wn := ⟨0, 0, 0, 0, 0, 0, 0, 0, 0⟩
def Wn.put (x : Wn) (j : Nat) (z : Int) : Wn := match j with
  | 0 => { x with s := z }
  | 1 => { x with e := z }
  | 2 => { x with h := z }
  | 3 => { x with c := z }
  | 4 => { x with u := z }
  | 5 => { x with lo := z }
  | 6 => { x with hi := z }
  | 7 => { x with si := z }
  | _ => { x with pa := z }
/-- A field that is read: its value, the error. -/
def fget (bs : List UInt8) (last : Option Int) (x : Wn) (at_ : Nat) : Nat → Int × Int
  | 0 => match last with
    | none => (sgAt bs at_, ((rdAt bs at_).2.2 : Int))
    | some s => abX bs at_ s
  | 1 => (wrap64 ((abX bs at_ x.s).1 + 1), (abX bs at_ x.s).2)
  | 2 => (sgAt bs at_, ((rdAt bs at_).2.2 : Int))
  | 3 => (wrap64 ((rdAt bs at_).1 : Int), ((rdAt bs at_).2.2 : Int))
  | 4 => (sgAt bs at_, ((rdAt bs at_).2.2 : Int))
  | 5 => (sgAt bs at_, ((rdAt bs at_).2.2 : Int))
  | 6 => (sgAt bs at_, ((rdAt bs at_).2.2 : Int))
  | _ => (wrap64 ((rdAt bs at_).1 : Int), ((rdAt bs at_).2.2 : Int))
def rdTo (bs : List UInt8) (last : Option Int) (at0 : Nat) : Nat → Option (Wn × Nat)
  | 0 => some (wn0, at0)
  | k + 1 => match rdTo bs last at0 k with
    | none => none
    | some (x, at_) => if (fget bs last x at_ k).2 = 0 then some (x.put k (fget bs last x at_ k).1, at_ + (rdAt bs at_).2.1) else none
theorem rdTo_succ {bs : List UInt8} {last : Option Int} {at0 k : Nat} {x : Wn} {at_ : Nat} (h : rdTo bs last at0 k = some (x, at_)) (h2 : (fget bs last x at_ k).2 = 0) : rdTo bs last at0 (k + 1) = some (x.put k (fget bs last x at_ k).1, at_ + (rdAt bs at_).2.1) := by
  rw [rdTo, h]; simp only; rw [if_pos h2]
theorem rdTo_stop {bs : List UInt8} {last : Option Int} {at0 k : Nat} {x : Wn} {at_ : Nat} (h : rdTo bs last at0 k = some (x, at_)) (h2 : (fget bs last x at_ k).2 ≠ 0) : ∀ d, rdTo bs last at0 (k + 1 + d) = none
  | 0 => by rw [Nat.add_zero, rdTo, h]; simp only; rw [if_neg h2]
  | d + 1 => by rw [← Nat.add_assoc, rdTo, rdTo_stop h h2 d]
theorem wrap64_I (z : Int) : In64 (wrap64 z) := by unfold wrap64 In64; omega
theorem sgAt_I (bs : List UInt8) (at_ : Nat) (h : at_ ≤ bs.length) : In64 (sgAt bs at_) := by
  have := (rdAt_facts bs at_ h).1
  unfold sgAt unz In64
  split
  · split <;> omega
  · omega
theorem abX_I (bs : List UInt8) (at_ : Nat) (f : Int) (hf : In64 f) : In64 (abX bs at_ f).1 := by
  unfold abX abV
  unfold In64 at *
  split
  · rename_i s h
    split at h
    · cases h; simp only; omega
    · cases h
  · simp
theorem fget_I {bs : List UInt8} {last : Option Int} {x : Wn} {at_ : Nat} (hl : ∀ s, last = some s → In64 s) (_hx : In64 x.s) (hat : at_ ≤ bs.length) : ∀ j, In64 (fget bs last x at_ j).1
  | 0 => by
    unfold fget
    cases last with
    | none => exact sgAt_I bs at_ hat
    | some s => exact abX_I bs at_ s (hl s rfl)
  | 1 => wrap64_I _
  | 2 => sgAt_I bs at_ hat
  | 3 => wrap64_I _
  | 4 => sgAt_I bs at_ hat
  | 5 => sgAt_I bs at_ hat
  | 6 => sgAt_I bs at_ hat
  | n + 7 => wrap64_I _
theorem put_Fit {x : Wn} (h : x.Fit) {z : Int} (hz : In64 z) (j : Nat) : (x.put j z).Fit := by
  obtain ⟨a, b, c, d, e, f, g, i, k⟩ := h
  unfold Wn.put
  split <;> exact ⟨by assumption, by assumption, by assumption, by assumption, by assumption, by assumption, by assumption, by assumption, by assumption⟩
theorem wn0_Fit : wn0.Fit := by
  have h : In64 0 := by unfold In64; omega
  exact ⟨h, h, h, h, h, h, h, h, h⟩
theorem rdAt_pos {bs : List UInt8} {at_ : Nat} (hat : at_ ≤ bs.length) (h : (rdAt bs at_).2.2 = 0) : 0 < (rdAt bs at_).2.1 := (rdAt_facts bs at_ hat).2.2.1 h
theorem fget_err {bs : List UInt8} {last : Option Int} {x : Wn} {at_ : Nat} (j : Nat) (h : (fget bs last x at_ j).2 = 0) : (rdAt bs at_).2.2 = 0 := by
  have hab : ∀ f, (abX bs at_ f).2 = 0 → (rdAt bs at_).2.2 = 0 := fun f h => by
    unfold abX abV at h
    split at h
    · rename_i s h2
      split at h2
      · rename_i hh; exact hh.1
      · cases h2
    · cases h
  unfold fget at h
  split at h
  · split at h
    · simpa using h
    · exact hab _ h
  · exact hab _ h
  all_goals simpa using h
/-- What is read fits, and takes a byte a number at least. -/
theorem rdTo_facts {bs : List UInt8} {last : Option Int} {at0 : Nat} (hl : ∀ s, last = some s → In64 s) (h0 : at0 ≤ bs.length) : ∀ (k : Nat) (x : Wn) (at_ : Nat), rdTo bs last at0 k = some (x, at_) → x.Fit ∧ at_ ≤ bs.length ∧ at0 + k ≤ at_
  | 0, x, at_, h => by cases h; exact ⟨wn0_Fit, h0, Nat.le_refl _⟩
  | k + 1, x, at_, h => by
    rw [rdTo] at h
    split at h
    · cases h
    · rename_i y a hy
      obtain ⟨h1, h2, h3⟩ := rdTo_facts hl h0 k y a hy
      split at h
      · rename_i he
        cases h
        have hp := rdAt_pos h2 (fget_err k he)
        exact ⟨put_Fit h1 (fget_I hl h1.s h2 k) k, (rdAt_facts bs a h2).2.1, by omega⟩
      · cases h
theorem arr_put (x : Wn) (z : Int) : ∀ j, j < 9 → x.arr.setIfInBounds j (.int .i64 z) = (x.put j z).arr
  | 0, _ => rfl
  | 1, _ => rfl
  | 2, _ => rfl
  | 3, _ => rfl
  | 4, _ => rfl
  | 5, _ => rfl
  | 6, _ => rfl
  | 7, _ => rfl
  | 8, _ => rfl
  | j + 9, h => absurd h (by omega)

section
variable {B g q at_ : Nat} {v lp : Value} {bs : List UInt8} {w : World} {c : Nat → Nat} {x : Wn} {last : Option Int}
/-- What a field's reading closure does. -/
def GetsF (B g q : Nat) (v lp : Value) (bs : List UInt8) (at_ : Nat) (w : World) (x : Wn) (last : Option Int) (f : FuncId) (caps : Array Value) (j : Nat) : Prop :=
  Calls Try.prog f (#[.pointer (some ⟨g, 0, none⟩), .pointer (some ⟨q, 0, none⟩), lp] ++ caps) w fun e w' => e = .returned (.int .i64 (fget bs last x at_ j).2) ∧ Rr w' B g v bs (at_ + (rdAt bs at_).2.1) ∧ Bk w' q 93 (x.put j (fget bs last x at_ j).1).arr ∧ Only (fun r => r = g ∨ r = q) w w'
theorem fgot0 (hl : LastOk w lp last) (hli : ∀ s, last = some s → In64 s) (hx : Bk w q 93 x.arr) (_hs : In64 x.s) (hF : Flds w c) (hr : Rr w B g v bs at_) : GetsF B g q v lp bs at_ w x last 81 #[.pointer (some ⟨c 0, 0, none⟩)] 0 := by
  rcases hl with ⟨rfl, rfl⟩ | ⟨q2, o2, ys, rfl, rfl, hc⟩
  · have h := startGet0 (u0 := .int .i64 x.s) hx rfl hF hr
    rw [arr_put x _ 0 (by omega)] at h
    exact h
  · have h := startGet1 (u0 := .int .i64 x.s) (.pointer (some ⟨c 0, 0, none⟩)) q2 o2 ys (hli ys rfl) hc hx rfl hr
    rw [arr_put x _ 0 (by omega)] at h
    exact h
theorem fgot1 (_hl : LastOk w lp last) (_hli : ∀ s, last = some s → In64 s) (hx : Bk w q 93 x.arr) (hs : In64 x.s) (_hF : Flds w c) (hr : Rr w B g v bs at_) : GetsF B g q v lp bs at_ w x last 84 #[] 1 := by
  have h := endGet (u0 := .int .i64 x.e) lp x.s hs hx rfl rfl hr
  rw [arr_put x _ 1 (by omega)] at h
  exact h
theorem fgot2 (_hl : LastOk w lp last) (_hli : ∀ s, last = some s → In64 s) (hx : Bk w q 93 x.arr) (_hs : In64 x.s) (hF : Flds w c) (hr : Rr w B g v bs at_) : GetsF B g q v lp bs at_ w x last 100 #[.pointer (some ⟨c 2, 0, none⟩)] 2 := by
  have h := signedGet (u0 := .int .i64 x.h) (p := 2) 85 lp (by have := gets2 q 0; rwa [Nat.zero_add] at this) hx rfl hF.f2 hr
  rw [arr_put x _ 2 (by omega)] at h
  exact h
theorem fgot4 (_hl : LastOk w lp last) (_hli : ∀ s, last = some s → In64 s) (hx : Bk w q 93 x.arr) (_hs : In64 x.s) (hF : Flds w c) (hr : Rr w B g v bs at_) : GetsF B g q v lp bs at_ w x last 100 #[.pointer (some ⟨c 4, 0, none⟩)] 4 := by
  have h := signedGet (u0 := .int .i64 x.u) (p := 4) 88 lp (by have := gets4 q 0; rwa [Nat.zero_add] at this) hx rfl hF.f4 hr
  rw [arr_put x _ 4 (by omega)] at h
  exact h
theorem fgot5 (_hl : LastOk w lp last) (_hli : ∀ s, last = some s → In64 s) (hx : Bk w q 93 x.arr) (_hs : In64 x.s) (hF : Flds w c) (hr : Rr w B g v bs at_) : GetsF B g q v lp bs at_ w x last 100 #[.pointer (some ⟨c 5, 0, none⟩)] 5 := by
  have h := signedGet (u0 := .int .i64 x.lo) (p := 5) 89 lp (by have := gets5 q 0; rwa [Nat.zero_add] at this) hx rfl hF.f5 hr
  rw [arr_put x _ 5 (by omega)] at h
  exact h
theorem fgot6 (_hl : LastOk w lp last) (_hli : ∀ s, last = some s → In64 s) (hx : Bk w q 93 x.arr) (_hs : In64 x.s) (hF : Flds w c) (hr : Rr w B g v bs at_) : GetsF B g q v lp bs at_ w x last 100 #[.pointer (some ⟨c 6, 0, none⟩)] 6 := by
  have h := signedGet (u0 := .int .i64 x.hi) (p := 6) 90 lp (by have := gets6 q 0; rwa [Nat.zero_add] at this) hx rfl hF.f6 hr
  rw [arr_put x _ 6 (by omega)] at h
  exact h
theorem fgot3 (_hl : LastOk w lp last) (_hli : ∀ s, last = some s → In64 s) (hx : Bk w q 93 x.arr) (_hs : In64 x.s) (hF : Flds w c) (hr : Rr w B g v bs at_) : GetsF B g q v lp bs at_ w x last 103 #[.pointer (some ⟨c 3, 0, none⟩)] 3 := by
  have h := countGet (u0 := .int .i64 x.c) (p := 3) 87 lp (by have := gets3 q 0; rwa [Nat.zero_add] at this) hx rfl hF.f3 hr
  rw [arr_put x _ 3 (by omega)] at h
  exact h
theorem fgot7 (_hl : LastOk w lp last) (_hli : ∀ s, last = some s → In64 s) (hx : Bk w q 93 x.arr) (_hs : In64 x.s) (hF : Flds w c) (hr : Rr w B g v bs at_) : GetsF B g q v lp bs at_ w x last 103 #[.pointer (some ⟨c 7, 0, none⟩)] 7 := by
  have h := countGet (u0 := .int .i64 x.si) (p := 7) 91 lp (by have := gets7 q 0; rwa [Nat.zero_add] at this) hx rfl hF.f7 hr
  rw [arr_put x _ 7 (by omega)] at h
  exact h
theorem fgot8 (_hl : LastOk w lp last) (_hli : ∀ s, last = some s → In64 s) (hx : Bk w q 93 x.arr) (_hs : In64 x.s) (hF : Flds w c) (hr : Rr w B g v bs at_) : GetsF B g q v lp bs at_ w x last 103 #[.pointer (some ⟨c 8, 0, none⟩)] 8 := by
  have h := countGet (u0 := .int .i64 x.pa) (p := 8) 92 lp (by have := gets8 q 0; rwa [Nat.zero_add] at this) hx rfl hF.f8 hr
  rw [arr_put x _ 8 (by omega)] at h
  exact h
end
theorem must_ok (w : World) : Calls Try.prog 59 #[.int .i64 0] w fun e w' => e = .returned (.tuple #[]) ∧ w = w' := by
  go_enter Try.func59, Try.ntmps59
  go_wp2
  go_end0
  exact ⟨rfl, rfl⟩
/-- The panic of something that can't be read. -/
def refused (e : Ending) : Prop := ∃ z : Int, e = .panicked [{ v := .iface 68 (.agg #[.int .i64 z]), recovered := false }]
theorem must_bad (z : Int) (hz : z ≠ 0) (w : World) : Calls Try.prog 59 #[.int .i64 z] w fun e w' => refused e ∧ w = w' := by
  have h1 : (z != 0) = true := by simpa using hz
  clear hz
  go_enter Try.func59, Try.ntmps59
  go_wp2

  exact ⟨rfl, ⟨z, rfl⟩, rfl⟩
end Go.Proofs.Ytaechgnjdjijkaa
