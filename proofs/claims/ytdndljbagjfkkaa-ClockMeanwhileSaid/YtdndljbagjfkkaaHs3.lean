/- The heap of holds: up. -/
import Derived.Test.YtdndljbagjfkkaaHs2
namespace Go.Proofs.Ytdndljbagjfkkaa
open Go.RowKit Go.Lib

theorem mLen : (Try.prog.info? 80).map (fun i => (i.methods.find? (·.name == "Len")).map fun m => (m.path, m.func)) = some (some (#[], some (102, false))) := by kernel_rfl
theorem mLess : (Try.prog.info? 80).map (fun i => (i.methods.find? (·.name == "Less")).map fun m => (m.path, m.func)) = some (some (#[], some (103, false))) := by kernel_rfl
theorem mSwap : (Try.prog.info? 80).map (fun i => (i.methods.find? (·.name == "Swap")).map fun m => (m.path, m.func)) = some (some (#[], some (104, false))) := by kernel_rfl
theorem mPush : (Try.prog.info? 80).map (fun i => (i.methods.find? (·.name == "Push")).map fun m => (m.path, m.func)) = some (some (#[], some (106, true))) := by kernel_rfl
theorem mPop : (Try.prog.info? 80).map (fun i => (i.methods.find? (·.name == "Pop")).map fun m => (m.path, m.func)) = some (some (#[], some (105, true))) := by kernel_rfl
theorem iLen {w : World} {a : Addr} {q : Option Addr} {n c : Nat} (h : w.cell? a = some (.slice q n c)) : (method 252 80 (.pointer (some a)) "Len").run Try.prog w = .ok (102, .slice q n c) w := by
  refine method_through 251 mLen Try.underlying80 ?_
  go_simp
theorem iLess {w : World} {a : Addr} {q : Option Addr} {n c : Nat} (h : w.cell? a = some (.slice q n c)) : (method 252 80 (.pointer (some a)) "Less").run Try.prog w = .ok (103, .slice q n c) w := by
  refine method_through 251 mLess Try.underlying80 ?_
  go_simp
theorem iSwap {w : World} {a : Addr} {q : Option Addr} {n c : Nat} (h : w.cell? a = some (.slice q n c)) : (method 252 80 (.pointer (some a)) "Swap").run Try.prog w = .ok (104, .slice q n c) w := by
  refine method_through 251 mSwap Try.underlying80 ?_
  go_simp
theorem iPush {w : World} {a : Addr} : (method 252 80 (.pointer (some a)) "Push").run Try.prog w = .ok (106, .pointer (some a)) w := method_of 251 mPush Try.underlying80
theorem iPop {w : World} {a : Addr} : (method 252 80 (.pointer (some a)) "Pop").run Try.prog w = .ok (105, .pointer (some a)) w := method_of 251 mPop Try.underlying80
/-- The row below is turned among its first places. -/
structure Turned (n N : Nat) (f f' : Nat → Nat) : Prop where
  same : Hp.Same N f f'
  rest : ∀ k, N ≤ k → f' k = f k
theorem Turned.refl (n N : Nat) (f : Nat → Nat) : Turned n N f f := ⟨Hp.Same.refl N f, fun _ _ => rfl⟩
theorem Turned.swap {n N : Nat} {f f' : Nat → Nat} (h : Turned n N f f') {i j : Nat} (hi : i < N) (hj : j < N) : Turned n N f (Hp.sw f' i j) :=
  ⟨h.same.trans (Hp.Same.swap f' hi hj), fun k hk => by rw [Hp.sw_k f' (by omega) (by omega)]; exact h.rest k hk⟩
section
variable {w w' : World} {X : Nat → Prop} {c : Nat} {mk mp v : Value} {n : Nat} {f : Nat → Nat} {nm : Nat → ByteArray} {tm : Nat → Int}
/-- What up and down leave. -/
def Left (X : Nat → Prop) (c : Nat) (mk mp v : Value) (n N : Nat) (f : Nat → Nat) (nm : Nat → ByteArray) (tm : Nat → Int) (w w' : World) (Q : (Nat → Nat) → Prop) : Prop :=
  ∃ f', Hs w' X c mk mp v n f' nm tm ∧ Only X w w' ∧ Turned n N f f' ∧ Q f'
set_option maxRecDepth 100000 in
theorem up_any (j N : Nat) (h : Hs w X c mk mp v n f nm tm) (hj : j < N) (hN : N ≤ n) (hF : Hp.Fl (hlt nm tm) N f j) (hK : Hp.Kids (hlt nm tm) N f j) :
    Calls Try.prog 57 #[.iface 80 (.pointer (some ⟨c, 1, none⟩)), .int .i64 (j : Int)] w fun e w' => e = .returned (.tuple #[]) ∧ Left X c mk mp v n N f nm tm w w' (Hp.Heap (hlt nm tm) N) := by
  obtain ⟨q, cap, rfl, h1, h2, -, -⟩ := h.at_ (k := j) (by omega)
  unfold maxLen at h2
  have H0 := Lib.hid (show ∃ f', Hs w X c mk mp (.slice (some ⟨q, 0, none⟩) n cap) n f' nm tm ∧ Only X w w ∧ Turned n N f f' ∧ Hp.Fl (hlt nm tm) N f' j ∧ Hp.Kids (hlt nm tm) N f' j from ⟨f, h, Only.refl X w, Turned.refl n N f, hF, hK⟩)
  clear h hF hK
  go_enter Try.func57, Try.ntmps57
  go_wp2
  go_loopw [1] (fun jv wr => ∃ j : Nat, jv = .int .i64 j ∧ j < N ∧ ∃ f', Hs wr X c mk mp (.slice (some ⟨q, 0, none⟩) n cap) n f' nm tm ∧ Only X w wr ∧ Turned n N f f' ∧ Hp.Fl (hlt nm tm) N f' j ∧ Hp.Kids (hlt nm tm) N f' j) (fun jv _ => (intOf jv).toNat)
  case atStart => exact ⟨j, rfl, hj, H0.out⟩
  case round =>
    clear H0 hj j
    obtain ⟨j, rfl, hj, f', hh, hX, hT, hF, hK⟩ := hrel
    have HH := Lib.hid hh
    have HX := Lib.hid hX
    have HT := Lib.hid hT
    have HF := Lib.hid hF
    have HK := Lib.hid hK
    have iL := iLess (hh.blk.cell 1)
    clear hh hX hT hF hK
    rcases Nat.eq_zero_or_pos j with h0 | h0
    · subst h0
      go_wp2
      go_end0
      exact ⟨rfl, f', HH.out, HX.out, HT.out, Hp.up_end HF.out HK.out (.inl rfl)⟩
    · have hq : ((j : Int) - 1) / 2 = (((j - 1) / 2 : Nat) : Int) := by omega
      obtain ⟨i, hi⟩ : ∃ i, (j - 1) / 2 = i := ⟨_, rfl⟩
      rw [hi] at hq
      have hj1 : (0 : Int) ≤ (j : Int) - 1 := by omega
      have hij : ((i : Int) == (j : Int)) = false := by simp; omega
      by_cases hl : hlt nm tm (f' j) (f' i)
      · have HLY := Lib.hid (hLess_yes j i HH.out (by omega) (by omega) hl)
        have HL := Lib.hid hl
        clear hl
        go_wp2_with (first
          | (go_at_call 103; (with_reducible refine HLY.out.mono ?_); rintro e w1 ⟨rfl, hb1⟩
             have hh1 := HH.out.below hb1
             have iS := iSwap (hh1.blk.cell 1)
             have HSW := Lib.hid (hSwap_any i j hh1 (by omega) (by omega) (by omega))
             have HB1 := Lib.hid hb1
             clear hb1 hh1)
          | (go_at_call 104; (with_reducible refine HSW.out.mono ?_); rintro e w2 ⟨rfl, hs2, ho2⟩
             have HS2 := Lib.hid hs2
             have HO2 := Lib.hid ho2
             clear hs2 ho2))
        go_roundw
        case rel =>
          obtain ⟨k1, k2⟩ := Hp.up_step (hlt_ord nm tm) HF.out h0 hj (by rw [hi]; exact HL.out)
          rw [hi] at k1 k2
          exact ⟨i, rfl, by omega, Hp.sw f' i j, HS2.out, (HX.out.then (Only.of_below HB1.out)).then HO2.out, HT.out.swap (by omega) hj, k1, k2⟩
        case measure => simp [intOf]; omega
      · have HLN := Lib.hid (hLess_no j i HH.out (by omega) (by omega) hl)
        have HL := Lib.hid hl
        clear hl
        go_wp2_with (first
          | (go_at_call 103; (with_reducible refine HLN.out.mono ?_); rintro e w1 ⟨rfl, hb1⟩; have HB1 := Lib.hid hb1; clear hb1))
        go_end0
        exact ⟨rfl, f', HH.out.below HB1.out, HX.out.then (Only.of_below HB1.out), HT.out, Hp.up_end HF.out HK.out (.inr (by rw [hi]; exact HL.out))⟩
end
end Go.Proofs.Ytdndljbagjfkkaa
