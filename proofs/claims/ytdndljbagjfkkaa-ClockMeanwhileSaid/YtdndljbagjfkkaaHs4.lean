/- The heap of holds: down. -/
import Derived.Test.YtdndljbagjfkkaaHs3
namespace Go.Proofs.Ytdndljbagjfkkaa
open Go.RowKit Go.Lib

section
variable {w w' : World} {X : Nat → Prop} {c : Nat} {mk mp v : Value} {n : Nat} {f : Nat → Nat} {nm : Nat → ByteArray} {tm : Nat → Int}
/-- What down leaves. -/
def Down (X : Nat → Prop) (c : Nat) (mk mp v : Value) (n N : Nat) (f : Nat → Nat) (nm : Nat → ByteArray) (tm : Nat → Int) (i0 : Nat) (w : World) (e : Ending) (w' : World) : Prop :=
  ∃ b, e = .returned (.bool b) ∧ ∃ f', Hs w' X c mk mp v n f' nm tm ∧ Only X w w' ∧ Turned n N f f' ∧ (b = true → Hp.Heap (hlt nm tm) N f') ∧ (b = false → f' = f ∧ Hp.Kids (hlt nm tm) N f i0)
/-- Between the rounds. -/
structure Dw (w : World) (X : Nat → Prop) (c : Nat) (mk mp v : Value) (n N : Nat) (f : Nat → Nat) (nm : Nat → ByteArray) (tm : Nat → Int) (i0 i : Nat) (f' : Nat → Nat) (wr : World) : Prop where
  hs : Hs wr X c mk mp v n f' nm tm
  on : Only X w wr
  tu : Turned n N f f'
  fl : Hp.Fl (hlt nm tm) N f' i
  go : i ≠ i0 → Hp.ok (hlt nm tm) f' i
  st : i = i0 → f' = f
  le : i0 ≤ i
  lt : i < N
theorem Dw.end_ {wr w1 : World} {N i0 i : Nat} {f' : Nat → Nat} (h : Dw w X c mk mp v n N f nm tm i0 i f' wr) (hb : Below wr.heap.size wr w1) (hk : ∀ s, 0 < s → s < N → (s - 1) / 2 = i → ¬ hlt nm tm (f' s) (f' i)) (B : Bool) (hB : B = decide (i0 < i)) : Down X c mk mp v n N f nm tm i0 w (.returned (.bool B)) w1 := by
  refine ⟨B, rfl, f', h.hs.below hb, h.on.then (Only.of_below hb), h.tu, fun e => ?_, fun e => ?_⟩
  · have hi : i ≠ i0 := by rw [hB] at e; simp at e; omega
    exact Hp.Heap.of_ok h.fl (Hp.down_kids hk) (fun _ => h.go hi)
  · have hi : i = i0 := by have := h.le; rw [hB] at e; simp at e; omega
    subst hi
    obtain rfl := h.st rfl
    exact ⟨rfl, Hp.down_kids hk⟩
theorem Dw.step {wr w1 w2 : World} {N i0 i j : Nat} {f' : Nat → Nat} (h : Dw w X c mk mp v n N f nm tm i0 i f' wr) (hb : Below wr.heap.size wr w1) (hs : Hs w2 X c mk mp v n (Hp.sw f' i j) nm tm) (ho : Only X w1 w2)
    (hj : 0 < j) (hjN : j < N) (hji : (j - 1) / 2 = i) (hl : hlt nm tm (f' j) (f' i)) (hbest : ∀ s, 0 < s → s < N → (s - 1) / 2 = i → s ≠ j → ¬ hlt nm tm (f' s) (f' j)) : Dw w X c mk mp v n N f nm tm i0 j (Hp.sw f' i j) w2 := by
  obtain ⟨k1, k2⟩ := Hp.down_step (hlt_ord nm tm) h.fl hj hjN hji hl hbest
  have hij : i < j := by omega
  exact ⟨hs, (h.on.then (Only.of_below hb)).then ho, h.tu.swap h.lt hjN, k1, fun _ => k2, fun e => by have := h.le; omega, by have := h.le; omega, hjN⟩
set_option maxRecDepth 100000 in
set_option maxHeartbeats 2000000 in
theorem down_any (i0 N : Nat) (h : Hs w X c mk mp v n f nm tm) (hi : i0 < N) (hN : N ≤ n) (hn : n ≤ 4398046511104) (hF : Hp.Fl (hlt nm tm) N f i0) :
    Calls Try.prog 56 #[.iface 80 (.pointer (some ⟨c, 1, none⟩)), .int .i64 (i0 : Int), .int .i64 (N : Int)] w (Down X c mk mp v n N f nm tm i0 w) := by
  obtain ⟨q, cap, rfl, h1, h2, -, -⟩ := h.at_ (k := i0) (by omega)
  unfold maxLen at h2
  have H0 : Hid (Dw w X c mk mp (.slice (some ⟨q, 0, none⟩) n cap) n N f nm tm i0 i0 f w) := ⟨h, Only.refl X w, Turned.refl n N f, hF, fun h => absurd rfl h, fun _ => rfl, Nat.le_refl _, hi⟩
  clear h hF
  go_enter Try.func56, Try.ntmps56
  go_wp2
  go_loopw [7] (fun iv wr => ∃ (i : Nat) (f' : Nat → Nat), iv = .int .i64 i ∧ Dw w X c mk mp (.slice (some ⟨q, 0, none⟩) n cap) n N f nm tm i0 i f' wr) (fun iv _ => N - (intOf iv).toNat)
  case atStart => exact ⟨i0, f, rfl, H0.out⟩
  case round =>
    obtain ⟨i, f', rfl, hd⟩ := hrel
    have HD := Lib.hid hd
    have hiN := hd.lt
    have iL := iLess (hd.hs.blk.cell 1)
    clear hd H0
    have e1 : (2 : Int) * (i : Int) + 1 = ((2 * i + 1 : Nat) : Int) := by omega
    obtain ⟨j1, hj1⟩ : ∃ j1, 2 * i + 1 = j1 := ⟨_, rfl⟩
    rw [hj1] at e1
    have HJ1 := Lib.hid hj1
    have hb1 : j1 ≤ 8796093022209 := by omega
    clear hj1
    by_cases hA : N ≤ j1
    · have d1 : decide (N ≤ j1) = true := by simpa using hA
      go_wp2
      go_ret
      exact HD.out.end_ (Below.refl _ _) (fun s h0 h1 h2 => by have := HJ1.out; omega) _ rfl
    · have d1 : decide (N ≤ j1) = false := by simpa using hA
      have d0 : decide ((j1 : Int) < 0) = false := by simp
      obtain ⟨j2, hj2⟩ : ∃ j2, j1 + 1 = j2 := ⟨_, rfl⟩
      have e2 : (j1 : Int) + 1 = (j2 : Int) := by omega
      have hb2 : j2 ≤ 8796093022210 := by omega
      have HJ2 := Lib.hid hj2
      clear hj2
      by_cases hB : j2 < N
      · have d2 : decide (j2 < N) = true := by simpa using hB
        by_cases hf : hlt nm tm (f' j2) (f' j1)
        · have HF := Lib.hid hf
          clear hf
          have HBEST := Lib.hid (show ∀ s, 0 < s → s < N → (s - 1) / 2 = i → s ≠ j2 → ¬ hlt nm tm (f' s) (f' j2) from fun s h0 h1 h2 h3 => by have hj := HJ1.out; have hk := HJ2.out; obtain rfl : s = j1 := (by omega); exact (hlt_ord nm tm).asymm _ _ HF.out)
          by_cases hl : hlt nm tm (f' j2) (f' i)
          · have HL := Lib.hid hl
            clear hl
            go_wp2_with (first
              | (go_at_call 103; (with_reducible refine (hLess_yes j2 j1 HD.out.hs (by omega) (by omega) HF.out).mono ?_); rintro e w1 ⟨rfl, hb1⟩
                 have hh1 := HD.out.hs.below hb1
                 have iL1 := iLess (hh1.blk.cell 1)
                 have HHC := Lib.hid hh1
                 have HBC := Lib.hid hb1
                 clear hb1 hh1)
              | (go_at_call 103; (with_reducible refine (hLess_yes j2 i HHC.out (by have := HJ1.out; have := HJ2.out; omega) (by omega) HL.out).mono ?_); rintro e w2 ⟨rfl, hb2⟩
                 have hh2 := HHC.out.below hb2
                 have iS := iSwap (hh2.blk.cell 1)
                 have HSW := Lib.hid (hSwap_any i j2 hh2 (by have := HJ1.out; have := HJ2.out; omega) (by omega) (by have := HJ1.out; have := HJ2.out; omega))
                 have HB2 := Lib.hid (below_trans HBC.out hb2)
                 clear hb2 hh2)
              | (go_at_call 104; (with_reducible refine HSW.out.mono ?_); rintro e w3 ⟨rfl, hs3, ho3⟩
                 have HS3 := Lib.hid hs3
                 have HO3 := Lib.hid ho3
                 clear hs3 ho3))
            go_roundw
            case rel => exact ⟨j2, _, rfl, HD.out.step HB2.out HS3.out HO3.out (by have := HJ1.out; have := HJ2.out; omega) (by have := HJ1.out; have := HJ2.out; omega) (by have := HJ1.out; have := HJ2.out; omega) HL.out HBEST.out⟩
            case measure => have := HJ1.out; have := HJ2.out; simp [intOf]; omega
          · have HL := Lib.hid hl
            clear hl
            go_wp2_with (first
              | (go_at_call 103; (with_reducible refine (hLess_yes j2 j1 HD.out.hs (by omega) (by omega) HF.out).mono ?_); rintro e w1 ⟨rfl, hb1⟩
                 have hh1 := HD.out.hs.below hb1
                 have iL1 := iLess (hh1.blk.cell 1)
                 have HHC := Lib.hid hh1
                 have HBC := Lib.hid hb1
                 clear hb1 hh1)
              | (go_at_call 103; (with_reducible refine (hLess_no j2 i HHC.out (by have := HJ1.out; have := HJ2.out; omega) (by omega) HL.out).mono ?_); rintro e w2 ⟨rfl, hb2⟩
                 have HB2 := Lib.hid (below_trans HBC.out hb2)
                 clear hb2))
            go_ret
            have hkids : ∀ s, 0 < s → s < N → (s - 1) / 2 = i → ¬ hlt nm tm (f' s) (f' i) := fun s h0 h1 h2 => by
              have hj := HJ1.out
              have hk := HJ2.out
              by_cases hs : s = j2
              · rw [hs]; exact HL.out
              · exact (hlt_ord nm tm).neg _ _ _ HL.out (HBEST.out s h0 h1 h2 hs)
            exact HD.out.end_ HB2.out hkids _ rfl
        · have HF := Lib.hid hf
          clear hf
          have HBEST := Lib.hid (show ∀ s, 0 < s → s < N → (s - 1) / 2 = i → s ≠ j1 → ¬ hlt nm tm (f' s) (f' j1) from fun s h0 h1 h2 h3 => by have hj := HJ1.out; have hk := HJ2.out; obtain rfl : s = j2 := (by omega); exact HF.out)
          by_cases hl : hlt nm tm (f' j1) (f' i)
          · have HL := Lib.hid hl
            clear hl
            go_wp2_with (first
              | (go_at_call 103; (with_reducible refine (hLess_no j2 j1 HD.out.hs (by omega) (by omega) HF.out).mono ?_); rintro e w1 ⟨rfl, hb1⟩
                 have hh1 := HD.out.hs.below hb1
                 have iL1 := iLess (hh1.blk.cell 1)
                 have HHC := Lib.hid hh1
                 have HBC := Lib.hid hb1
                 clear hb1 hh1)
              | (go_at_call 103; (with_reducible refine (hLess_yes j1 i HHC.out (by have := HJ1.out; have := HJ2.out; omega) (by omega) HL.out).mono ?_); rintro e w2 ⟨rfl, hb2⟩
                 have hh2 := HHC.out.below hb2
                 have iS := iSwap (hh2.blk.cell 1)
                 have HSW := Lib.hid (hSwap_any i j1 hh2 (by have := HJ1.out; have := HJ2.out; omega) (by omega) (by have := HJ1.out; have := HJ2.out; omega))
                 have HB2 := Lib.hid (below_trans HBC.out hb2)
                 clear hb2 hh2)
              | (go_at_call 104; (with_reducible refine HSW.out.mono ?_); rintro e w3 ⟨rfl, hs3, ho3⟩
                 have HS3 := Lib.hid hs3
                 have HO3 := Lib.hid ho3
                 clear hs3 ho3))
            go_roundw
            case rel => exact ⟨j1, _, rfl, HD.out.step HB2.out HS3.out HO3.out (by have := HJ1.out; have := HJ2.out; omega) (by have := HJ1.out; have := HJ2.out; omega) (by have := HJ1.out; have := HJ2.out; omega) HL.out HBEST.out⟩
            case measure => have := HJ1.out; have := HJ2.out; simp [intOf]; omega
          · have HL := Lib.hid hl
            clear hl
            go_wp2_with (first
              | (go_at_call 103; (with_reducible refine (hLess_no j2 j1 HD.out.hs (by omega) (by omega) HF.out).mono ?_); rintro e w1 ⟨rfl, hb1⟩
                 have hh1 := HD.out.hs.below hb1
                 have iL1 := iLess (hh1.blk.cell 1)
                 have HHC := Lib.hid hh1
                 have HBC := Lib.hid hb1
                 clear hb1 hh1)
              | (go_at_call 103; (with_reducible refine (hLess_no j1 i HHC.out (by have := HJ1.out; have := HJ2.out; omega) (by omega) HL.out).mono ?_); rintro e w2 ⟨rfl, hb2⟩
                 have HB2 := Lib.hid (below_trans HBC.out hb2)
                 clear hb2))
            go_ret
            have hkids : ∀ s, 0 < s → s < N → (s - 1) / 2 = i → ¬ hlt nm tm (f' s) (f' i) := fun s h0 h1 h2 => by
              have hj := HJ1.out
              have hk := HJ2.out
              by_cases hs : s = j1
              · rw [hs]; exact HL.out
              · exact (hlt_ord nm tm).neg _ _ _ HL.out (HBEST.out s h0 h1 h2 hs)
            exact HD.out.end_ HB2.out hkids _ rfl
      · have d2 : decide (j2 < N) = false := by simpa using hB
        have HHC := Lib.hid HD.out.hs
        have HBC := Lib.hid (Below.refl wr.heap.size wr)
        have HBEST := Lib.hid (show ∀ s, 0 < s → s < N → (s - 1) / 2 = i → s ≠ j1 → ¬ hlt nm tm (f' s) (f' j1) from fun s h0 h1 h2 h3 => by have hj := HJ1.out; have hk := HJ2.out; omega)
        by_cases hl : hlt nm tm (f' j1) (f' i)
        · have HL := Lib.hid hl
          clear hl
          go_wp2_with (first
            | (go_at_call 103; (with_reducible refine (hLess_yes j1 i HHC.out (by have := HJ1.out; have := HJ2.out; omega) (by omega) HL.out).mono ?_); rintro e w2 ⟨rfl, hb2⟩
               have hh2 := HHC.out.below hb2
               have iS := iSwap (hh2.blk.cell 1)
               have HSW := Lib.hid (hSwap_any i j1 hh2 (by have := HJ1.out; have := HJ2.out; omega) (by omega) (by have := HJ1.out; have := HJ2.out; omega))
               have HB2 := Lib.hid (below_trans HBC.out hb2)
               clear hb2 hh2)
            | (go_at_call 104; (with_reducible refine HSW.out.mono ?_); rintro e w3 ⟨rfl, hs3, ho3⟩
               have HS3 := Lib.hid hs3
               have HO3 := Lib.hid ho3
               clear hs3 ho3))
          go_roundw
          case rel => exact ⟨j1, _, rfl, HD.out.step HB2.out HS3.out HO3.out (by have := HJ1.out; have := HJ2.out; omega) (by have := HJ1.out; have := HJ2.out; omega) (by have := HJ1.out; have := HJ2.out; omega) HL.out HBEST.out⟩
          case measure => have := HJ1.out; have := HJ2.out; simp [intOf]; omega
        · have HL := Lib.hid hl
          clear hl
          go_wp2_with (first
            | (go_at_call 103; (with_reducible refine (hLess_no j1 i HHC.out (by have := HJ1.out; have := HJ2.out; omega) (by omega) HL.out).mono ?_); rintro e w2 ⟨rfl, hb2⟩
               have HB2 := Lib.hid (below_trans HBC.out hb2)
               clear hb2))
          go_ret
          have hkids : ∀ s, 0 < s → s < N → (s - 1) / 2 = i → ¬ hlt nm tm (f' s) (f' i) := fun s h0 h1 h2 => by
            have hj := HJ1.out
            have hk := HJ2.out
            by_cases hs : s = j1
            · rw [hs]; exact HL.out
            · exact (hlt_ord nm tm).neg _ _ _ HL.out (HBEST.out s h0 h1 h2 hs)
          exact HD.out.end_ HB2.out hkids _ rfl
end
end Go.Proofs.Ytdndljbagjfkkaa
