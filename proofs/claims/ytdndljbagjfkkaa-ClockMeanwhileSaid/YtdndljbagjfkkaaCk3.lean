/- A clock: Clone, Marks, Len, Set. -/
import Derived.Test.YtdndljbagjfkkaaCk2
namespace Go.Proofs.Ytdndljbagjfkkaa
open Go.RowKit Go.Lib

set_option maxRecDepth 100000 in
theorem Clone_any (A : Option Addr) (m cap : Nat) (L : List Int) (W : World) (hr : Rd W (.slice A m cap) m (ic L)) (hm : L.length = m) (hn : m ≤ 17592186044416) :
    Calls Try.prog 36 #[.slice A m cap] W fun e w' => ∃ v', e = .returned v' ∧ Below W.heap.size W w' ∧ w'.ownsRow W.heap.size 2 1 v' m (ic L) := by
  obtain ⟨i0, hi0, hz0, hz1, hz2⟩ := info_parts i64Info
  cases A with
  | none =>
    have h0 : m = 0 := by
      obtain ⟨_, _, hv, _, _, h⟩ := hr
      cases hv
      rcases Nat.eq_zero_or_pos m with h1 | h1
      · exact h1
      · obtain ⟨g, o, e, _⟩ := h h1; cases e
    subst h0
    have hns : L = [] := List.eq_nil_of_length_eq_zero hm
    subst hns
    have heq := fun W : World => Lib.run_eql_slice_nil (P := Try.prog) W 32 2 none 0 cap 0 0 Try.underlying32
    clear hr hm
    go_enter Try.func36, Try.ntmps36
    go_wp2
    go_ret
    exact ⟨_, rfl, Below.refl _ _, World.ownsRow_nil _ _ _ _⟩
  | some ad =>
    have hal := below_alloc W (.cells #[] 2)
    have HR := Lib.hid (hr.below hal)
    have HM := Lib.hid hm
    have HA := Lib.hid hal
    have HO := Lib.hid (World.ownsRow_lit (base := W.heap.size) (e := 2) (size := 1) W #[] 0 (Nat.le_refl _) (by decide) rfl)
    have heq := fun W : World => Lib.run_eql_slice_nil (P := Try.prog) W 32 2 (some ad) m cap 0 0 Try.underlying32
    clear hr hm hal
    go_enter Try.func36, Try.ntmps36
    go_wp2_with (first
      | (at_builtin; refine wpList_append_rd _ rfl (.tmp 5) (.tmp 6) 32 rfl W.heap.size 2 i0 _ 1 8 Try.underlying32 hi0 hz0 hz1 hz2 rfl (by decide) _ 0 [] rfl HO.out (some ad) m cap (ic L) rfl (by rw [ic_length, HM.out, Nat.mul_one]) HR.out (ic_one _) (by simp only [maxLen]; omega) (by omega) (by simp) ?_; intro v1 w1 ho1 hg1 hat1
         have HB := Lib.hid (HA.out.grown hg1 (by simp) (fun r e => (HO.out.lt r e).1))
         have HO1 := Lib.hid ho1
         clear ho1 hg1 hat1))
    go_ret
    exact ⟨v1, rfl, HB.out, by have h := HO1.out; rw [Nat.zero_add] at h; exact h⟩
/-- Marks behind a Set. -/
def setL (L : List Int) (s t : Int) : List Int := if 0 ≤ s ∧ s < (L.length : Int) ∧ isTime t = true then L.set s.toNat (max (L.getD s.toNat 0) t) else L
theorem setL_length (L : List Int) (s t : Int) : (setL L s t).length = L.length := by unfold setL; split <;> simp
section
variable {w w' : World} {X Y : Nat → Prop} {c : Nat} {L : List Int} {n : Nat} {T : ByteArray → Option Int}
set_option maxRecDepth 100000 in
theorem Marks_any (h : Ck w X c L n T) : Calls Try.prog 12 #[.pointer (some ⟨c, 0, none⟩)] w fun e w' => ∃ v', e = .returned v' ∧ Below w.heap.size w w' ∧ w'.ownsRow w.heap.size 2 1 v' L.length (ic L) := by
  have HT := Lib.hid (there_any h)
  obtain ⟨mv, v, nb, h0, -, -, ho⟩ := h.cells
  have hlm := h.lm
  obtain ⟨A, cap, rfl, _, _⟩ := ownsRow_shape ho
  have HM := Lib.hid (Clone_any A _ cap L w (Rd.of_owns ho) rfl (by omega))
  clear h ho
  obtain ⟨m, hm⟩ : ∃ m, L.length = m := ⟨_, rfl⟩
  rw [hm] at HM h0 ⊢
  go_enter Try.func12, Try.ntmps12
  go_wp2_with (first
    | (go_at_call 34; (with_reducible refine HT.out.mono ?_); rintro e wn ⟨rfl, rfl⟩)
    | (go_at_call 36; (with_reducible refine HM.out.mono ?_); rintro e wn ⟨v1, rfl, hb, ho⟩; have HB := Lib.hid hb; have HO := Lib.hid ho; clear hb ho))
  go_ret
  exact ⟨v1, rfl, HB.out, HO.out⟩
set_option maxRecDepth 100000 in
theorem Len_any (h : Ck w X c L n T) : Calls Try.prog 32 #[.pointer (some ⟨c, 0, none⟩)] w fun e w' => e = .returned (.int .i64 (n : Int)) ∧ w = w' := by
  have HT := Lib.hid (there_any h)
  obtain ⟨XH, mv, v, nb, f, nm, tm, N, hh⟩ := h
  have x2 : w.cell? ⟨c, 2, none⟩ = some (.map (some nb)) := hh.hs.blk.cell 2
  have hl := hh.mp.len 3
  clear hh
  go_enter Try.func32, Try.ntmps32
  go_wp2_with (first
    | (go_at_call 34; (with_reducible refine HT.out.mono ?_); rintro e wn ⟨rfl, rfl⟩))
  go_ret
  exact ⟨rfl, rfl⟩
set_option maxRecDepth 100000 in
theorem Set_no (h : Ck w X c L n T) (s t : Int) (hno : ¬ (0 ≤ s ∧ s < (L.length : Int) ∧ isTime t = true)) : Calls Try.prog 13 #[.pointer (some ⟨c, 0, none⟩), .int .i64 s, .int .i64 t] w fun e w' => e = .returned (.tuple #[.int .i64 0, .int .i64 0, .int .i64 5]) ∧ w = w' := by
  have HT := Lib.hid (there_any h)
  have HTM := Lib.hid (time_any t)
  obtain ⟨mv, v, nb, h0, -, -, ho⟩ := h.cells
  obtain ⟨A, cap, rfl, _, _⟩ := ownsRow_shape ho
  clear h ho
  generalize L.length = m at *
  by_cases h1 : s < 0
  · have d1 : decide (s < 0) = true := by simpa using h1
    go_enter Try.func13, Try.ntmps13
    go_wp2_with (first
      | (go_at_call 34; (with_reducible refine HT.out.mono ?_); rintro e wn ⟨rfl, rfl⟩))
    go_ret3
    exact ⟨rfl, rfl⟩
  · have d1 : decide (s < 0) = false := by simpa using h1
    by_cases h2 : (m : Int) ≤ s
    · have d2 : decide ((m : Int) ≤ s) = true := by simpa using h2
      go_enter Try.func13, Try.ntmps13
      go_wp2_with (first
        | (go_at_call 34; (with_reducible refine HT.out.mono ?_); rintro e wn ⟨rfl, rfl⟩))
      go_ret3
      exact ⟨rfl, rfl⟩
    · have d2 : decide ((m : Int) ≤ s) = false := by simpa using h2
      have ht : isTime t = false := by
        rcases hb : isTime t with _ | _
        · rfl
        · exact absurd ⟨by omega, by omega, hb⟩ hno
      rw [ht] at HTM
      clear hno ht
      go_enter Try.func13, Try.ntmps13
      go_wp2_with (first
        | (go_at_call 34; (with_reducible refine HT.out.mono ?_); rintro e wn ⟨rfl, rfl⟩)
        | (go_at_call 37; (with_reducible refine (HTM.out _).mono ?_); rintro e wn ⟨rfl, rfl⟩))
      go_ret3
      exact ⟨rfl, rfl⟩
/-- The clock behind a store into its marks. -/
theorem CkS.marked {XH : Nat → Prop} {v : Value} {nb : Nat} {f : Nat → Nat} {nm : Nat → ByteArray} {tm : Nat → Int} {N : ByteArray → Option Nat} {q cap : Nat} (h : CkS w X XH c L n T (.slice (some ⟨q, 0, none⟩) L.length cap) v nb f nm tm N) (k : Nat) (x : Int) :
    CkS ((w.setCell ⟨q, k, none⟩ (.int .i64 x)).drew) X XH c (L.set k x) n T (.slice (some ⟨q, 0, none⟩) L.length cap) v nb f nm tm N ∧ Only X w (w.setCell ⟨q, k, none⟩ (.int .i64 x)).drew := by
  have hq : X q := h.mx q rfl
  have ho := ownsRow_set (j := k) h.mks (.int .i64 x)
  rw [ic_set] at ho
  have far : ∀ {g : Nat} {t : TypeId} {cs : Array Value}, Bk w g t cs → 2 ≠ t → Bk (w.setCell ⟨q, k, none⟩ (.int .i64 x)).drew g t cs := fun hb ht => (hb.far (p := ⟨q, k, none⟩) (fun e => own_bk_ne h.mks hb ht (by rw [e]; rfl)) _).drewN 1
  have hne : v.ownBlock ≠ some q := by
    rcases own_own_ne h.hs.own h.mks (by decide) with h1 | h1
    · rw [h1]; intro e; cases e
    · exact h1
  refine ⟨⟨⟨far h.hs.blk (by decide), ownsRow_drew (ownsRow_setCell_other h.hs.own hne _), fun k hk => far (h.hs.ent k hk) (by decide), h.hs.inj, h.hs.xc, h.hs.xv, h.hs.xf⟩, h.sub, h.mh, h.ph, h.hp, by rw [List.length_set]; exact ownsRow_drew ho, h.mx, ?_, h.px, h.nam, h.tms, by rw [List.length_set]; exact h.ln, by rw [List.length_set]; exact h.lm, fun b hb => ?_⟩, (Only.set ⟨q, k, none⟩ _ hq w).then (Only.drewN 1 _)⟩
  · exact (h.mp.set (p := ⟨q, k, none⟩) _ (fun e => h.mp.ne_own h.mks (by rw [← e]; rfl))).block rfl
  · exact Nat.lt_of_lt_of_le (h.xl b hb) (((Only.set (X := X) ⟨q, k, none⟩ (.int .i64 x) hq w).then (Only.drewN 1 _)).size)
set_option maxRecDepth 100000 in
theorem Set_yes_m (h : Ck w X c L n T) (s : Nat) (t : Int) (hs : s < L.length) (ht : isTime t = true) : Calls Try.prog 13 #[.pointer (some ⟨c, 0, none⟩), .int .i64 (s : Int), .int .i64 t] w fun e w' => e = .returned (.tuple #[.int .i64 (mnL L), .int .i64 (mnL (L.set s (max (L.getD s 0) t))), .int .i64 0]) ∧ Ck w' X c (L.set s (max (L.getD s 0) t)) n T ∧ Only X w w' ∧ w'.cell? ⟨c, 2, none⟩ = w.cell? ⟨c, 2, none⟩ := by
  have HT := Lib.hid (there_any h)
  have HM := Lib.hid (Mark_any h)
  have htm := time_any t
  rw [ht] at htm
  have HTM := Lib.hid htm
  obtain ⟨XH, mv, v, nb, f, nm, tm, N, hh⟩ := h
  have HCC : Hid (w.cell? ⟨c, 2, none⟩ = some (.map (some nb))) := hh.hs.blk.cell 2
  obtain ⟨A, cap, rfl, hc1, hc2⟩ := ownsRow_shape hh.mks
  obtain ⟨q, rfl, _, _, _, _, hcell, hfr⟩ := ownsRow_at hh.mks (by omega)
  unfold maxLen at hc2
  have hlx : L[s]? = some (L.getD s 0) := by rw [List.getElem?_eq_getElem hs, List.getD, List.getElem?_eq_getElem hs]; rfl
  have z0 := hcell s _ (ic_at hlx)
  have fz := hfr s
  have x0 : w.cell? ⟨c, 0, none⟩ = some (.slice (some ⟨q, 0, none⟩) L.length cap) := hh.hs.blk.cell 0
  have hcq : c ≠ q := fun e => own_bk_ne hh.mks hh.hs.blk (by decide) (by rw [e]; rfl)
  have HSET := Lib.hid (hh.marked s (max (L.getD s 0) t))
  have hs0 : (0 : Int) ≤ (s : Int) := by omega
  have d1 : decide ((s : Int) < 0) = false := by simp
  have d2 : decide (L.length ≤ s) = false := by simp; omega
  have hsi : (s : Int) < (L.length : Int) := by omega
  have hlm := hh.lm
  clear htm ht hh hlx hcell hfr
  obtain ⟨old, hold⟩ : ∃ old, L.getD s 0 = old := ⟨_, rfl⟩
  obtain ⟨ml, hml⟩ : ∃ ml, L.length = ml := ⟨_, rfl⟩
  rw [hold] at z0 HSET ⊢
  obtain ⟨M, hM⟩ : ∃ M, mnL L = M := ⟨_, rfl⟩
  rw [hM] at HM ⊢
  have HML := Lib.hid hml
  rw [hml] at x0 d2 hsi hlm hs hc1
  clear hold hml hM
  obtain ⟨k1, k2⟩ := HSET.out
  have HM2 := Lib.hid (Mark_any ⟨_, _, _, _, _, _, _, _, k1⟩)
  clear k1 k2
  generalize L.set s (max old t) = L2 at *
  generalize mnL L2 = M2 at *
  go_enter Try.func13, Try.ntmps13
  go_wp2_with (first
    | (go_at_call 34; (with_reducible refine HT.out.mono ?_); rintro e wn ⟨rfl, rfl⟩)
    | (go_at_call 37; (with_reducible refine (HTM.out _).mono ?_); rintro e wn ⟨rfl, rfl⟩)
    | (go_at_call 10; (with_reducible refine HM.out.mono ?_); rintro e wn ⟨rfl, rfl⟩))
  go_region
  go_wp2_with (first
    | (go_at_call 10; (with_reducible refine HM2.out.mono ?_); rintro e wn ⟨rfl, rfl⟩))
  go_ret3
  exact ⟨rfl, ⟨_, _, _, _, _, _, _, _, HSET.out.1⟩, HSET.out.2, by rw [HCC.out]; exact HSET.out.1.hs.blk.cell 2⟩
theorem Set_yes (h : Ck w X c L n T) (s : Nat) (t : Int) (hs : s < L.length) (ht : isTime t = true) : Calls Try.prog 13 #[.pointer (some ⟨c, 0, none⟩), .int .i64 (s : Int), .int .i64 t] w fun e w' => e = .returned (.tuple #[.int .i64 (mnL L), .int .i64 (mnL (L.set s (max (L.getD s 0) t))), .int .i64 0]) ∧ Ck w' X c (L.set s (max (L.getD s 0) t)) n T ∧ Only X w w' :=
  (Set_yes_m h s t hs ht).mono fun _ _ ⟨a, b, c, _⟩ => ⟨a, b, c⟩
end
end Go.Proofs.Ytdndljbagjfkkaa
