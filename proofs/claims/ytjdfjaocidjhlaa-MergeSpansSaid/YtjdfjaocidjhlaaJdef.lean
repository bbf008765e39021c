/- Plain: what windows are joined to. -/
import Derived.Test.YtjdfjaocidjhlaaMem
namespace Go.Proofs.Ytjdfjaocidjhlaa
open Go.RowKit

def Wn.sp (x : Wn) : Sn := ⟨x.s, x.e⟩
def Wn.tl (x : Wn) : Tl := ⟨x.c, x.u, x.lo, x.hi⟩
def hld (W H : Int) (l : List Wn) : Int := l.foldl (fun m y => if y.e ≤ W then m else min m y.h) H
def sinc (l : List Wn) : Int := l.foldl (fun a y => min (a + y.si) 9007199254740992) 0
def pans (l : List Wn) : Int := l.foldl (fun a y => min (a + y.pa) 9007199254740992) 0
/-- The window that a span and the windows that it overlaps are joined to. -/
def jn (S E W H : Int) (l : List Wn) : Wn :=
  ⟨smin (⟨S, E⟩ :: l.map Wn.sp), smax (⟨S, E⟩ :: l.map Wn.sp), hld W H l, (tly (l.map Wn.tl)).c, (tly (l.map Wn.tl)).u, (tly (l.map Wn.tl)).lo, (tly (l.map Wn.tl)).hi, sinc l, pans l⟩
def midW (l : List Wn) (S E : Int) : List Wn := (l.take (too l E)).drop (frm l S)
def joinW (l : List Wn) (S E W H : Int) : List Wn := l.take (frm l S) ++ [jn S E W H (midW l S E)] ++ l.drop (too l E)

theorem foldl_take {α β : Type} (f : β → α → β) (a : β) {l : List α} {k : Nat} {x : α} (h : l[k]? = some x) : (l.take (k + 1)).foldl f a = f ((l.take k).foldl f a) x := by
  obtain ⟨hk, rfl⟩ := List.getElem?_eq_some_iff.1 h
  rw [List.take_succ_eq_append_getElem hk, List.foldl_append]
  rfl
theorem hld_take {W H : Int} {l : List Wn} {k : Nat} {x : Wn} (h : l[k]? = some x) : hld W H (l.take (k + 1)) = if x.e ≤ W then hld W H (l.take k) else min (hld W H (l.take k)) x.h := foldl_take _ _ h
theorem sinc_take {l : List Wn} {k : Nat} {x : Wn} (h : l[k]? = some x) : sinc (l.take (k + 1)) = min (sinc (l.take k) + x.si) 9007199254740992 := foldl_take _ _ h
theorem pans_take {l : List Wn} {k : Nat} {x : Wn} (h : l[k]? = some x) : pans (l.take (k + 1)) = min (pans (l.take k) + x.pa) 9007199254740992 := foldl_take _ _ h
theorem fold_bd (g : Wn → Int) : ∀ (l : List Wn) (a : Int), 0 ≤ a → a ≤ 9007199254740992 → (∀ x ∈ l, 0 ≤ g x) → 0 ≤ l.foldl (fun a y => min (a + g y) 9007199254740992) a ∧ l.foldl (fun a y => min (a + g y) 9007199254740992) a ≤ 9007199254740992
  | [], _, h0, h1, _ => ⟨h0, h1⟩
  | x :: l, a, h0, h1, h => by
    have := h x (by simp)
    exact fold_bd g l (min (a + g x) 9007199254740992) (by omega) (by omega) (fun y hy => h y (by simp [hy]))
theorem cnt_bd {n : Int} (h : cnt n = true) : 0 ≤ n ∧ n ≤ 9007199254740992 := of_decide_eq_true (p := 0 ≤ n ∧ n ≤ maxC) h
theorem sinc_bd {l : List Wn} (h : ∀ x ∈ l, Okw x) : 0 ≤ sinc l ∧ sinc l ≤ 9007199254740992 := fold_bd Wn.si l 0 (by decide) (by decide) fun x hx => (cnt_bd (h x hx).si).1
theorem pans_bd {l : List Wn} (h : ∀ x ∈ l, Okw x) : 0 ≤ pans l ∧ pans l ≤ 9007199254740992 := fold_bd Wn.pa l 0 (by decide) (by decide) fun x hx => (cnt_bd (h x hx).pa).1

theorem midW_okw {l : List Wn} (hap : Ap l) (S E : Int) : ∀ x ∈ midW l S E, Okw x := fun x hx => hap.1 x (List.mem_of_mem_take (List.mem_of_mem_drop hx))
theorem midW_length {l : List Wn} {S E : Int} (hap : Ap l) (hse : S < E) : (midW l S E).length = too l E - frm l S := by
  have h1 := too_le l E
  have h2 := frm_too hap hse
  unfold midW
  simp; omega
theorem joinW_length {l : List Wn} {S E W H : Int} : (joinW l S E W H).length = frm l S + 1 + (l.length - too l E) := by
  have h1 := too_le l E
  have h2 := frm_le l S
  unfold joinW
  simp; omega

theorem spanInfo : (Try.prog.info? 24).map (fun i => (i.zero, i.size, i.bytes)) = some (some (.agg #[.int .i64 0, .int .i64 0]), 2, 16) := by kernel_rfl
theorem tallyInfo : (Try.prog.info? 41).map (fun i => (i.zero, i.size, i.bytes)) = some (some (.agg #[.int .i64 0, .int .i64 0, .int .i64 0, .int .i64 0]), 4, 32) := by kernel_rfl
theorem winInfo : (Try.prog.info? 43).map (fun i => (i.zero, i.size, i.bytes)) = some (some (.agg #[.int .i64 0, .int .i64 0, .int .i64 0, .int .i64 0, .int .i64 0, .int .i64 0, .int .i64 0, .int .i64 0, .int .i64 0]), 9, 72) := by kernel_rfl

theorem winSl : Try.prog.underlying 22 = some (.slice (Try.prog.elem 22)) := by kernel_rfl
theorem winSz (W : World) : (sizeOf (Try.prog.elem 22)).run Try.prog W = .ok 9 W := by kernel_rfl

/-- A cut of a row, run. -/
theorem run_part {w : World} {a : Option Addr} {cap : Nat} {l : List Wn} (h : Rw w (.slice a l.length cap) l) (f z : Nat) (hfz : f ≤ z) (hz : z ≤ l.length) :
    ∃ A c, (∀ W : World, (Instr.sliceAt 22 (.slice a l.length cap) (some (.int .i64 (f : Int))) (some (.int .i64 (z : Int))) none).run Try.prog W = .ok (.slice A (z - f) c) W) ∧ Rw w (.slice A (z - f) c) ((l.take z).drop f) := by
  have hp := h.part f z hfz hz
  obtain ⟨_, _, hv, h1, h2, _⟩ := h
  cases hv
  refine ⟨_, _, fun W => ?_, hp⟩
  rw [run_sliceAt_slice _ _ _ _ _ _ winSl, run_slice_lh _ _ _ _ _ winSl _ _ _ _ (by omega) (by omega) (by omega)]
  simp only [Int.toNat_natCast, winSz, Result.andThen_ok]
  rfl
theorem run_front {w : World} {a : Option Addr} {cap : Nat} {l : List Wn} (h : Rw w (.slice a l.length cap) l) (z : Nat) (hz : z ≤ l.length) :
    ∃ A c, (∀ W : World, (Instr.sliceAt 22 (.slice a l.length cap) none (some (.int .i64 (z : Int))) none).run Try.prog W = .ok (.slice A z c) W) ∧ Rw w (.slice A z c) (l.take z) := by
  have hp := h.part 0 z (Nat.zero_le _) hz
  obtain ⟨_, _, hv, h1, h2, _⟩ := h
  cases hv
  refine ⟨_, _, fun W => ?_, hp⟩
  rw [run_sliceAt_slice _ _ _ _ _ _ winSl, run_slice_h _ _ _ _ _ winSl _ _ (by omega) (by omega)]
  simp only [Int.toNat_natCast, winSz, Result.andThen_ok]
  rfl
theorem run_back {w : World} {a : Option Addr} {cap : Nat} {l : List Wn} (h : Rw w (.slice a l.length cap) l) (f : Nat) (hf : f ≤ l.length) :
    ∃ A c, (∀ W : World, (Instr.sliceAt 22 (.slice a l.length cap) (some (.int .i64 (f : Int))) none none).run Try.prog W = .ok (.slice A (l.length - f) c) W) ∧ Rw w (.slice A (l.length - f) c) (l.drop f) := by
  have hp := h.part f l.length hf (Nat.le_refl _)
  rw [List.take_length] at hp
  obtain ⟨_, _, hv, h1, h2, _⟩ := h
  cases hv
  refine ⟨_, _, fun W => ?_, hp⟩
  rw [run_sliceAt_slice _ _ _ _ _ _ winSl, run_slice_l _ _ _ _ _ winSl _ _ (by omega) (by omega)]
  simp only [Int.toNat_natCast, winSz, Result.andThen_ok]
  rfl
end Go.Proofs.Ytjdfjaocidjhlaa
