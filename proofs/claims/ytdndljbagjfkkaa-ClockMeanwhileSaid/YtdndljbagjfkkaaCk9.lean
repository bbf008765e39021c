/- The small clock that the document names: known. -/
import Derived.Test.YtdndljbagjfkkaaCk8
namespace Go.Proofs.Ytdndljbagjfkkaa
open Go.RowKit Go.Lib

theorem num_any (e : Int) (w : World) : Calls Try.prog 9 #[.int .i64 e] w fun x w' => x = .returned (.int .i64 e) ∧ w = w' := by
  go_enter Try.func9, Try.ntmps9
  go_wp2
  go_ret
  exact ⟨rfl, rfl⟩
def bA : ByteArray := ⟨#[97]⟩
def bB : ByteArray := ⟨#[98]⟩
def bD : ByteArray := ⟨#[100]⟩
theorem bA_list : bA.toList = [97] := by kernel_rfl
theorem bD_list : bD.toList = [100] := by kernel_rfl
theorem bA_bD : Op.bytesLess bA.toList bD.toList = true := by rw [bA_list, bD_list]; rfl
/-- The three holds. -/
def T3 : ByteArray → Option Int := updT (updT (updT (fun _ => none) bB (some 5)) bA (some 1)) bD (some 1)
theorem T3_d : T3 bD = some 1 := updT_same _ _ _
theorem T3_a : T3 bA = some 1 := by unfold T3; rw [updT_ne _ _ (by decide), updT_same]
theorem T3_of {s : ByteArray} {t : Int} (h : T3 s = some t) : (s = bA ∧ t = 1) ∨ (s = bB ∧ t = 5) ∨ (s = bD ∧ t = 1) := by
  unfold T3 at h
  by_cases h1 : s = bD
  · subst h1; rw [updT_same] at h; exact .inr (.inr ⟨rfl, (Option.some.inj h).symm⟩)
  · rw [updT_ne _ _ h1] at h
    by_cases h2 : s = bA
    · subst h2; rw [updT_same] at h; exact .inl ⟨rfl, (Option.some.inj h).symm⟩
    · rw [updT_ne _ _ h2] at h
      by_cases h3 : s = bB
      · subst h3; rw [updT_same] at h; exact .inr (.inl ⟨rfl, (Option.some.inj h).symm⟩)
      · rw [updT_ne _ _ h3] at h; cases h
theorem T3_first {n : Nat} {s : ByteArray} {t : Int} {b : Bool} (h : IsFirst (n + 1) T3 s t b) : s = ⟨#[97]⟩ ∧ t = 1 ∧ b = true := by
  rcases h with ⟨h, _⟩ | ⟨_, rfl, h1, h2⟩
  · omega
  · have ha := h2 bA 1 T3_a
    rcases T3_of h1 with ⟨rfl, rfl⟩ | ⟨rfl, rfl⟩ | ⟨rfl, rfl⟩
    · exact ⟨rfl, rfl, rfl⟩
    · exact absurd (.inl (by decide)) ha
    · exact absurd (.inr ⟨rfl, bA_bD⟩) ha
theorem T3_out {o : Int} (h : IsOut [7, 3] T3 o) : o = 1 := by
  have h1 := h.2.1 bA 1 T3_a
  rcases h.2.2 with e | ⟨s, e⟩
  · have : mnL [7, 3] = 3 := by decide
    omega
  · rcases T3_of e with ⟨_, h⟩ | ⟨_, h⟩ | ⟨_, h⟩ <;> omega
theorem known_setR1 : setR [-4611686018427387904, -4611686018427387904] 0 7 = .tuple #[.int .i64 (-4611686018427387904), .int .i64 (-4611686018427387904), .int .i64 0] := by unfold setR; rw [if_pos (by decide)]; rfl
theorem known_set1 : setL [-4611686018427387904, -4611686018427387904] 0 7 = [7, -4611686018427387904] := by decide
theorem known_setR2 : setR [7, -4611686018427387904] 1 3 = .tuple #[.int .i64 (-4611686018427387904), .int .i64 3, .int .i64 0] := by unfold setR; rw [if_pos (by decide)]; rfl
theorem known_set2 : setL [7, -4611686018427387904] 1 3 = [7, 3] := by decide
theorem xt_le {X : Nat → Prop} {B : Nat} {w w' : World} (h : ∀ k, X k → B ≤ k) (hB : B ≤ w.heap.size) : ∀ k, Xt X w w' k → B ≤ k := fun k hk => by
  rcases hk with h1 | h1
  · exact h k h1
  · omega
set_option maxRecDepth 100000 in
set_option maxHeartbeats 1000000 in
theorem known_any (w : World) : Calls Try.prog 7 #[] w fun e w' => e = .returned (.bool true) ∧ Below w.heap.size w w' := by
  have hn := New_ok 2 w (by decide) (by decide)
  rw [show ((2 : Nat) : Int) = 2 from rfl] at hn
  have HN := Lib.hid hn
  clear hn
  have HNUM := Lib.hid num_any
  go_enter Try.func7, Try.ntmps7
  go_wp2_with (first
    | (go_at_call 9; (with_reducible refine (HNUM.out _ _).mono ?_); rintro e wn ⟨rfl, rfl⟩)
    | (go_at_call 8; (with_reducible refine HN.out.mono ?_); rintro e w1 ⟨c, rfl, hc, hb⟩
       have hc1 := Set_c hc 0 7
       rw [List.replicate_succ, List.replicate_succ, List.replicate_zero, known_setR1, known_set1] at hc1
       have HS1 := Lib.hid hc1
       have HB1 := Lib.hid hb
       clear hc hb hc1)
    | (go_at_call 13; (with_reducible refine HS1.out.mono ?_); rintro e w2 ⟨rfl, hc, ho⟩
       have hc1 := Set_c hc 1 3
       rw [known_setR2, known_set2] at hc1
       have HS2 := Lib.hid hc1
       have HO2 := Lib.hid ho
       clear hc ho hc1)
    | (go_at_call 13; (with_reducible refine HS2.out.mono ?_); rintro e w3 ⟨rfl, hc, ho⟩
       have HH1 := Lib.hid (Hold_new hc ⟨#[98]⟩ 5 (by decide) rfl rfl (by decide))
       have HO3 := Lib.hid ho
       clear hc ho)
    | (go_at_call 15; (with_reducible refine HH1.out.mono ?_); rintro e w4 ⟨rfl, hc, ho⟩
       have HH2 := Lib.hid (Hold_new hc ⟨#[97]⟩ 1 (by decide) (by rw [updT_ne _ _ (by decide)]) rfl (by decide))
       have HO4 := Lib.hid ho
       clear hc ho)
    | (go_at_call 15; (with_reducible refine HH2.out.mono ?_); rintro e w5 ⟨rfl, hc, ho⟩
       have HH3 := Lib.hid (Hold_new hc ⟨#[100]⟩ 1 (by decide) (by rw [updT_ne _ _ (by decide), updT_ne _ _ (by decide)]) rfl (by decide))
       have HO5 := Lib.hid ho
       clear hc ho)
    | (go_at_call 15; (with_reducible refine HH3.out.mono ?_); rintro e w6 ⟨rfl, hc, ho⟩
       have HC := Lib.hid hc
       have HF := Lib.hid (First_some hc)
       have HO6 := Lib.hid ho
       clear hc ho)
    | (go_at_call 31; (with_reducible refine HF.out.mono ?_); rintro e w7 ⟨⟨s, t, rfl, hf⟩, hb⟩
       obtain ⟨rfl, rfl, -⟩ := T3_first hf
       have HC7 := Lib.hid (HC.out.below hb)
       have HOUT := Lib.hid (Outward_any (HC.out.below hb))
       have HB7 := Lib.hid hb
       clear hf hb)
    | (go_at_call 11; (with_reducible refine HOUT.out.mono ?_); rintro e w8 ⟨⟨o, rfl, ho⟩, hb⟩
       obtain rfl := T3_out ho
       have HM := Lib.hid (Mark_any (HC7.out.below hb))
       have HL := Lib.hid (Len_any (HC7.out.below hb))
       have HB8 := Lib.hid hb
       clear ho hb)
    | (go_at_call 10; (with_reducible refine HM.out.mono ?_); rintro e wn ⟨rfl, rfl⟩)
    | (go_at_call 32; (with_reducible refine HL.out.mono ?_); rintro e wn ⟨rfl, rfl⟩))
  go_ret
  have l1 : ∀ k, Nw w w1 k → w.heap.size ≤ k := fun k h => h.1
  have b2 := HB1.out.trans (HO2.out.below l1 HB1.out.size)
  have b3 := b2.trans (HO3.out.below l1 b2.size)
  have b4 := b3.trans (HO4.out.below l1 b3.size)
  have l4 := xt_le (w' := w4) l1 b3.size
  have b5 := b4.trans (HO5.out.below l4 b4.size)
  have l5 := xt_le (w' := w5) l4 b4.size
  have b6 := b5.trans (HO6.out.below l5 b5.size)
  have b7 := b6.trans (HB7.out.mono b6.size)
  exact ⟨rfl, b7.trans (HB8.out.mono b7.size)⟩
end Go.Proofs.Ytdndljbagjfkkaa
