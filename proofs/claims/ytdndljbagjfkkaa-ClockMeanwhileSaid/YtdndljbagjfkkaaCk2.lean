/- A clock: First, Outward, Marks, Len. -/
import Derived.Test.YtdndljbagjfkkaaCk1
import Derived.Deep.RegionHeld3
namespace Go.Proofs.Ytdndljbagjfkkaa
open Go.RowKit Go.Lib

/-- The first hold, if there is one. -/
def IsFirst (n : Nat) (T : ByteArray → Option Int) (s : ByteArray) (t : Int) (b : Bool) : Prop :=
  (n = 0 ∧ s = ⟨#[]⟩ ∧ t = 0 ∧ b = false) ∨ (0 < n ∧ b = true ∧ T s = some t ∧ ∀ s' t', T s' = some t' → ¬ (t' < t ∨ t' = t ∧ Op.bytesLess s'.toList s.toList = true))
/-- The outward mark. -/
def IsOut (L : List Int) (T : ByteArray → Option Int) (o : Int) : Prop := o ≤ mnL L ∧ (∀ s t, T s = some t → o ≤ t) ∧ (o = mnL L ∨ ∃ s, T s = some o)
section
variable {w w' : World} {X Y : Nat → Prop} {c : Nat} {L : List Int} {n : Nat} {T : ByteArray → Option Int}
theorem Ck.zero (h : Ck w X c L 0 T) : ∀ s, T s = none := fun s => by
  obtain ⟨XH, mv, v, nb, f, nm, tm, N, h⟩ := h
  rcases hT : T s with _ | t
  · rfl
  · obtain ⟨k, hk, _⟩ := (h.tms s t).1 hT
    omega
set_option maxRecDepth 100000 in
theorem First_none (h : Ck w X c L 0 T) : Calls Try.prog 31 #[.pointer (some ⟨c, 0, none⟩)] w fun e w' => e = .returned (.tuple #[.string ⟨#[]⟩, .int .i64 0, .bool false]) ∧ w = w' := by
  have HT := Lib.hid (there_any h)
  obtain ⟨XH, mv, v, nb, f, nm, tm, N, hh⟩ := h
  obtain ⟨A, cap, rfl, _, _⟩ := ownsRow_shape hh.hs.own
  have x1 : w.cell? ⟨c, 1, none⟩ = some (.slice A 0 cap) := hh.hs.blk.cell 1
  clear hh
  go_enter Try.func31, Try.ntmps31
  go_wp2_with (first
    | (go_at_call 34; (with_reducible refine HT.out.mono ?_); rintro e wn ⟨rfl, rfl⟩))
  go_ret3
  exact ⟨rfl, rfl⟩
set_option maxRecDepth 100000 in
theorem First_some (h : Ck w X c L (n + 1) T) : Calls Try.prog 31 #[.pointer (some ⟨c, 0, none⟩)] w fun e w' => (∃ s t, e = .returned (.tuple #[.string s, .int .i64 t, .bool true]) ∧ IsFirst (n + 1) T s t true) ∧ Below w.heap.size w w' := by
  have HT := Lib.hid (there_any h)
  obtain ⟨XH, mv, v, nb, f, nm, tm, N, hh⟩ := h
  obtain ⟨q, cap, rfl, h1, h2, hcell, -⟩ := hh.hs.at_ (k := 0) (by omega)
  unfold maxLen at h2
  have x1 : w.cell? ⟨c, 1, none⟩ = some (.slice (some ⟨q, 0, none⟩) (n + 1) cap) := hh.hs.blk.cell 1
  have x2 := (hcell 0 (by omega)).1
  have x3 : w.cell? ⟨f 0, 0, none⟩ = some (.string (nm (f 0))) := (hh.hs.ent 0 (by omega)).cell 0
  have x4 : w.cell? ⟨f 0, 1, none⟩ = some (.int .i64 (tm (f 0))) := (hh.hs.ent 0 (by omega)).cell 1
  have HF : Hid (IsFirst (n + 1) T (nm (f 0)) (tm (f 0)) true) := .inr ⟨by omega, rfl, (hh.tms _ _).2 ⟨0, by omega, rfl, rfl⟩, fun s' t' ht => by
    obtain ⟨k, hk, rfl, rfl⟩ := (hh.tms s' t').1 ht
    exact hh.hp.least (hlt_ord nm tm) k hk⟩
  have hn0 : (((n : Int) + 1) == 0) = false := by simp; omega
  have hn1 : (0 : Int) < (n : Int) + 1 := by omega
  clear hh hcell
  go_enter Try.func31, Try.ntmps31
  go_wp2_with (first
    | (go_at_call 34; (with_reducible refine HT.out.mono ?_); rintro e wn ⟨rfl, rfl⟩))
  go_region_held3 (fun W1 => W1.cell? ⟨c, 1, none⟩ = some (.slice (some ⟨q, 0, none⟩) (n + 1) cap) ∧ W1.cell? ⟨q, 0, none⟩ = some (.pointer (some ⟨f 0, 0, none⟩)) ∧ W1.cell? ⟨f 0, 0, none⟩ = some (.string (nm (f 0))) ∧ W1.cell? ⟨f 0, 1, none⟩ = some (.int .i64 (tm (f 0))))
    (first | exact ⟨x1, x2, x3, x4⟩) (fail)
  go_wp2
  go_ret3
  exact ⟨⟨_, _, rfl, HF.out⟩, below_drew w⟩
set_option maxRecDepth 100000 in
theorem Outward_any (h : Ck w X c L n T) : Calls Try.prog 11 #[.pointer (some ⟨c, 0, none⟩)] w fun e w' => (∃ o, e = .returned (.int .i64 o) ∧ IsOut L T o) ∧ Below w.heap.size w w' := by
  cases n with
  | zero =>
    have HF := Lib.hid (First_none h)
    have HM := Lib.hid (Mark_any h)
    have HO : Hid (IsOut L T (mnL L)) := ⟨Int.le_refl _, (fun s t hs => by rw [h.zero s] at hs; cases hs), .inl rfl⟩
    clear h
    go_enter Try.func11, Try.ntmps11
    go_wp2_with (first
      | (go_at_call 31; (with_reducible refine HF.out.mono ?_); rintro e wn ⟨rfl, rfl⟩)
      | (go_at_call 10; (with_reducible refine HM.out.mono ?_); rintro e wn ⟨rfl, rfl⟩))
    go_ret
    exact ⟨⟨_, rfl, HO.out⟩, Below.refl _ _⟩
  | succ n =>
    have HF := Lib.hid (First_some h)
    have HH := Lib.hid h
    clear h
    go_enter Try.func11, Try.ntmps11
    go_wp2_with (first
      | (go_at_call 31; (with_reducible refine HF.out.mono ?_); rintro e w1 ⟨⟨s, t, rfl, hf⟩, hb⟩
         have HFF := Lib.hid hf
         have HB := Lib.hid hb
         have HM := Lib.hid (Mark_any (HH.out.below hb))
         clear hf hb)
      | (go_at_call 10; (with_reducible refine HM.out.mono ?_); rintro e wn ⟨rfl, rfl⟩))
    go_ret
    rcases HFF.out with ⟨h0, _⟩ | ⟨-, -, hs, hl⟩
    · omega
    · refine ⟨⟨_, rfl, by omega, fun s' t' hs' => ?_, ?_⟩, HB.out⟩
      · have : ¬ t' < t := fun x => hl s' t' hs' (.inl x)
        omega
      · rcases Int.le_total t (mnL L) with h1 | h1
        · right; exact ⟨s, by rw [hs]; congr 1; omega⟩
        · left; omega
theorem IsOut.le {L : List Int} {T : ByteArray → Option Int} {o : Int} (h : IsOut L T o) : o ≤ mnL L := h.1
end
end Go.Proofs.Ytdndljbagjfkkaa
