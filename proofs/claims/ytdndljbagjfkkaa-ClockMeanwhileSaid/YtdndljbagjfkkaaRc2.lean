/- The document's clock: Outward, Set; it is made: New, Of. -/
import Derived.Test.YtdndljbagjfkkaaRc1
namespace Go.Proofs.Ytdndljbagjfkkaa
open Go.RowKit Go.Lib
section
variable {w w' : World} {X : Nat → Prop} {c : Nat} {L : List Int} {H : List Hd} {T : ByteArray → Option Int}
set_option maxRecDepth 100000 in
theorem rOut_any (h : Rc w X c L H) (ht : HT H T) : Calls Try.prog 51 #[.pointer (some ⟨c, 0, none⟩)] w fun e w' => (∃ o, e = .returned (.int .i64 o) ∧ IsOut L T o) ∧ Below w.heap.size w w' := by
  cases H with
  | nil =>
    have HF := Lib.hid (rFirst_none h)
    have HM := Lib.hid (rMark_any h)
    have HO : Hid (IsOut L T (mnL L)) := ⟨Int.le_refl _, (fun s t hs => by have := (ht.mem s t).1 hs; simp at this), .inl rfl⟩
    clear h ht
    go_enter Try.func51, Try.ntmps51
    go_wp2_with (first
      | (go_at_call 48; (with_reducible refine HF.out.mono ?_); rintro e wn ⟨rfl, rfl⟩)
      | (go_at_call 49; (with_reducible refine HM.out.mono ?_); rintro e wn ⟨rfl, rfl⟩))
    go_ret
    exact ⟨⟨_, rfl, HO.out⟩, Below.refl _ _⟩
  | cons y H =>
    have HF := Lib.hid (rFirst_some h ht.asc (by simp))
    have HH := Lib.hid h
    have HTT := Lib.hid ht
    clear h ht
    go_enter Try.func51, Try.ntmps51
    go_wp2_with (first
      | (go_at_call 48; (with_reducible refine HF.out.mono ?_); rintro e w1 ⟨⟨b, rfl, hf⟩, hb⟩
         have HFF := Lib.hid hf
         have HB := Lib.hid hb
         have HM := Lib.hid (rMark_any (HH.out.below hb))
         clear hf hb)
      | (go_at_call 49; (with_reducible refine HM.out.mono ?_); rintro e wn ⟨rfl, rfl⟩))
    go_ret
    have hfi := HTT.out.first HFF.out
    rcases hfi with ⟨h0, _⟩ | ⟨-, -, hs, hl⟩
    · simp at h0
    · refine ⟨⟨_, rfl, by omega, fun s' t' hs' => ?_, ?_⟩, HB.out⟩
      · have : ¬ t' < b.tm := fun x => hl s' t' hs' (.inl x)
        omega
      · by_cases hlt : b.tm < mnL L
        · right; exact ⟨_, by rw [hs]; congr 1; omega⟩
        · left; omega
theorem Rc.marked {q cl : Nat} {hv : Value} (h : RcS w X c L H (.slice (some ⟨q, 0, none⟩) L.length cl) hv) (k : Nat) (x : Int) :
    Rc (w.setCell ⟨q, k, none⟩ (.int .i64 x)).drew X c (L.set k x) H ∧ Only X w (w.setCell ⟨q, k, none⟩ (.int .i64 x)).drew := by
  have hq : X q := h.xm q rfl
  have ho := ownsRow_set (j := k) h.lr (.int .i64 x)
  rw [ic_set] at ho
  have hne : hv.ownBlock ≠ some q := by
    rcases own_own_ne h.hr h.lr (by decide) with h1 | h1
    · rw [h1]; intro e; cases e
    · exact h1
  have hon : Only X w (w.setCell ⟨q, k, none⟩ (.int .i64 x)).drew := (Only.set ⟨q, k, none⟩ _ hq w).then (Only.drewN 1 _)
  refine ⟨⟨.slice (some ⟨q, 0, none⟩) L.length cl, hv, (h.bk.far (p := ⟨q, k, none⟩) (fun e => own_bk_ne h.lr h.bk (by decide) (by rw [e]; rfl)) _).drewN 1, h.xc, by rw [List.length_set]; exact ownsRow_drew ho, h.xm, ownsRow_drew (ownsRow_setCell_other h.hr hne _), h.xh, by rw [List.length_set]; exact h.ln, by rw [List.length_set]; exact h.lm, fun b hb => Nat.lt_of_lt_of_le (h.xl b hb) hon.size⟩, hon⟩
set_option maxRecDepth 100000 in
theorem rSet_no (h : Rc w X c L H) (s t : Int) (hno : ¬ (0 ≤ s ∧ s < (L.length : Int) ∧ isTime t = true)) : Calls Try.prog 47 #[.pointer (some ⟨c, 0, none⟩), .int .i64 s, .int .i64 t] w fun e w' => e = .returned (.tuple #[.int .i64 0, .int .i64 0, .int .i64 5]) ∧ w = w' := by
  have HTM := Lib.hid (rtime_any t)
  obtain ⟨q, cl, hv, c0, -, -, -, -⟩ := h.reads
  clear h
  generalize L.length = m at *
  by_cases h1 : s < 0
  · have d1 : decide (s < 0) = true := by simpa using h1
    go_enter Try.func47, Try.ntmps47
    go_wp2
    go_ret3
    exact ⟨rfl, rfl⟩
  · have d1 : decide (s < 0) = false := by simpa using h1
    by_cases h2 : (m : Int) ≤ s
    · have d2 : decide ((m : Int) ≤ s) = true := by simpa using h2
      go_enter Try.func47, Try.ntmps47
      go_wp2
      go_ret3
      exact ⟨rfl, rfl⟩
    · have d2 : decide ((m : Int) ≤ s) = false := by simpa using h2
      have ht : isTime t = false := by
        rcases hb : isTime t with _ | _
        · rfl
        · exact absurd ⟨by omega, by omega, hb⟩ hno
      rw [ht] at HTM
      clear hno ht
      go_enter Try.func47, Try.ntmps47
      go_wp2_with (first
        | (go_at_call 41; (with_reducible refine (HTM.out _).mono ?_); rintro e wn ⟨rfl, rfl⟩))
      go_ret3
      exact ⟨rfl, rfl⟩
set_option maxRecDepth 100000 in
theorem rSet_yes (h : Rc w X c L H) (s : Nat) (t : Int) (hs : s < L.length) (ht : isTime t = true) : Calls Try.prog 47 #[.pointer (some ⟨c, 0, none⟩), .int .i64 (s : Int), .int .i64 t] w fun e w' => e = .returned (.tuple #[.int .i64 (mnL L), .int .i64 (mnL (L.set s (max (L.getD s 0) t))), .int .i64 0]) ∧ Rc w' X c (L.set s (max (L.getD s 0) t)) H ∧ Only X w w' := by
  have HM := Lib.hid (rMark_any h)
  have htm := rtime_any t
  rw [ht] at htm
  have HTM := Lib.hid htm
  obtain ⟨lv, hv, hh⟩ := h
  obtain ⟨A, cap, rfl, hc1, hc2⟩ := ownsRow_shape hh.lr
  obtain ⟨q, rfl, _, _, _, _, hcell, hfr⟩ := ownsRow_at hh.lr (by omega)
  unfold maxLen at hc2
  have hlx : L[s]? = some (L.getD s 0) := by rw [List.getElem?_eq_getElem hs, List.getD, List.getElem?_eq_getElem hs]; rfl
  have z0 := hcell s _ (ic_at hlx)
  have fz := hfr s
  have x0 : w.cell? ⟨c, 0, none⟩ = some (.slice (some ⟨q, 0, none⟩) L.length cap) := hh.bk.cell 0
  have hcq : c ≠ q := fun e => own_bk_ne hh.lr hh.bk (by decide) (by rw [e]; rfl)
  have HSET := Lib.hid (Rc.marked hh s (max (L.getD s 0) t))
  have hs0 : (0 : Int) ≤ (s : Int) := by omega
  have d1 : decide ((s : Int) < 0) = false := by simp
  have d2 : decide (L.length ≤ s) = false := by simp; omega
  have hsi : (s : Int) < (L.length : Int) := by omega
  have hlm := hh.lm
  clear htm ht hh hlx hcell hfr
  obtain ⟨old, hold⟩ : ∃ old, L.getD s 0 = old := ⟨_, rfl⟩
  obtain ⟨ml, hml⟩ : ∃ ml, L.length = ml := ⟨_, rfl⟩
  rw [hold] at z0 HSET ⊢
  obtain ⟨M, hM⟩ : ∃ M, mnL L = M := ⟨_, rfl⟩
  rw [hM] at HM ⊢
  rw [hml] at x0 d2 hsi hlm hs hc1
  clear hold hml hM
  have HM2 := Lib.hid (rMark_any HSET.out.1)
  generalize L.set s (max old t) = L2 at *
  generalize mnL L2 = M2 at *
  go_enter Try.func47, Try.ntmps47
  go_wp2_with (first
    | (go_at_call 41; (with_reducible refine (HTM.out _).mono ?_); rintro e wn ⟨rfl, rfl⟩)
    | (go_at_call 49; (with_reducible refine HM.out.mono ?_); rintro e wn ⟨rfl, rfl⟩))
  go_region
  go_wp2_with (first
    | (go_at_call 49; (with_reducible refine HM2.out.mono ?_); rintro e wn ⟨rfl, rfl⟩))
  go_ret3
  exact ⟨rfl, HSET.out.1, HSET.out.2⟩
theorem rSet_c (h : Rc w X c L H) (s t : Int) : Calls Try.prog 47 #[.pointer (some ⟨c, 0, none⟩), .int .i64 s, .int .i64 t] w fun e w' => e = .returned (setR L s t) ∧ Rc w' X c (setL L s t) H ∧ Only X w w' := by
  by_cases hy : 0 ≤ s ∧ s < (L.length : Int) ∧ isTime t = true
  · obtain ⟨k, rfl⟩ : ∃ k : Nat, s = (k : Int) := ⟨s.toNat, by omega⟩
    have := rSet_yes h k t (by omega) hy.2.2
    unfold setR setL
    rw [if_pos hy, if_pos hy]
    simpa using this
  · unfold setR setL
    rw [if_neg hy, if_neg hy]
    refine (rSet_no h s t hy).mono ?_
    rintro e w' ⟨he, rfl⟩
    exact ⟨he, h, Only.refl _ _⟩
end
/-- A row that was just made, to be read. -/
theorem rd_lit (w : World) (cs : Array Value) (t : TypeId) (n : Nat) (hn : n ≤ maxLen) : Rd (w.alloc (.cells cs t)) (.slice (some ⟨w.heap.size, 0, none⟩) n n) n cs.toList :=
  ⟨_, _, rfl, Nat.le_refl _, hn, fun _ => ⟨w.heap.size, 0, rfl, by simp, fun j u hj => by rw [Nat.zero_add, (Bk.new w t cs).cell j, ← hj]; simp⟩⟩
section
theorem rNew_bad (n : Int) (w : World) (hn : n < 1 ∨ 64 < n) : Calls Try.prog 17 #[.int .i64 n] w fun e w' => e = .returned (.tuple #[.pointer none, .int .i64 2]) ∧ w = w' := by
  by_cases h1 : n < 1
  · have d1 : decide (n < 1) = true := by simpa using h1
    clear hn h1
    go_enter Try.func17, Try.ntmps17
    go_wp2
    go_ret2
    exact ⟨rfl, rfl⟩
  · have d1 : decide (n < 1) = false := by simpa using h1
    have d2 : decide (64 < n) = true := by simp; omega
    clear hn h1
    go_enter Try.func17, Try.ntmps17
    go_wp2
    go_ret2
    exact ⟨rfl, rfl⟩
theorem Rc.made {W w1 : World} {g : Nat} {lv : Value} {L : List Int} (_hb : Below W.heap.size W w1) (hk : Bk w1 g 50 #[lv, .slice none 0 0]) (hg : W.heap.size ≤ g) (ho : w1.ownsRow W.heap.size 2 1 lv L.length (ic L)) (h0 : 0 < L.length) (h64 : L.length ≤ 64) :
    Rc w1 (Nw W w1) g L [] :=
  ⟨lv, .slice none 0 0, hk, ⟨hg, hk.lt⟩, own_mono ho (Nat.zero_le _), fun _ e => ho.lt _ e, World.ownsRow_nil _ _ _ _, fun r e => (by cases e), h0, h64, fun _ hk => hk.2⟩
set_option maxRecDepth 100000 in
set_option maxHeartbeats 1000000 in
theorem rNew_ok (n : Nat) (w : World) (h0 : 0 < n) (hn : n ≤ 64) : Calls Try.prog 17 #[.int .i64 (n : Int)] w fun e w' => ∃ c, e = .returned (.tuple #[.pointer (some ⟨c, 0, none⟩), .int .i64 0]) ∧ Rc w' (Nw w w') c (List.replicate n (-4611686018427387904)) [] ∧ Below w.heap.size w w' := by
  obtain ⟨iI, hiI, hI0, hI1, hI2⟩ := info_parts i64Info
  have d1 : decide ((n : Int) < 1) = false := by simp; omega
  have d2 : decide ((64 : Int) < (n : Int)) = false := by simp; omega
  go_enter Try.func17, Try.ntmps17
  go_wp2
  go_loopw [5] (fun iv wr => ∃ (k : Nat) (lv : Value), iv = .int .i64 k ∧ k ≤ n ∧ Bk wr w.heap.size 50 #[lv, .slice none 0 0] ∧ wr.ownsRow w.heap.size 2 1 lv k (ic (List.replicate k (-4611686018427387904))) ∧ Below w.heap.size w wr) (fun iv _ => n - (intOf iv).toNat)
  case atStart => exact ⟨0, .slice none 0 0, rfl, Nat.zero_le _, Bk.new _ _ _, World.ownsRow_nil _ _ _ _, below_alloc _ _⟩
  case round =>
    obtain ⟨k, lv, rfl, hk, hbk, ho, hb⟩ := hrel
    have HB := Lib.hid hb
    have HBK := Lib.hid hbk
    have HO := Lib.hid ho
    have x0 := hbk.cell 0
    have f0 := hbk.frozen 0
    clear ho
    by_cases hkn : k < n
    · have hsz := hb.size
      have hlt := hbk.lt
      obtain ⟨a0, k0, rfl, _, _⟩ := ownsRow_shape HO.out
      have HRD := Lib.hid (rd_lit wr #[.int .i64 (-4611686018427387904)] 2 1 (by decide))
      clear hbk hb
      go_wp2_with (first
        | (at_builtin; refine wpList_append_rd _ rfl (.tmp 23) (.tmp 24) 32 rfl w.heap.size 2 iI _ 1 8 Try.underlying32 hiI hI0 hI1 hI2 rfl (by decide) _ k _ rfl (HO.out.alloc _) _ 1 1 [.int .i64 (-4611686018427387904)] rfl rfl HRD.out (by simp [Value.oneCell']) (by simp only [maxLen]; omega) (by omega) (by simp; omega) ?_; intro v1 w1 ho1 hg1 _
           obtain ⟨a1, k1, rfl, _, _⟩ := ownsRow_shape ho1
           have HOA := Lib.hid (HO.out.alloc (.cells #[.int .i64 (-4611686018427387904)] 2))
           have HB1 := Lib.hid ((HB.out.alloc hsz (.cells #[.int .i64 (-4611686018427387904)] 2)).grown hg1 (by simp; omega) (fun r e => (HOA.out.lt r e).1))
           have HBK1 := Lib.hid ((HBK.out.alloc (.cells #[.int .i64 (-4611686018427387904)] 2)).grownOwn HOA.out (by decide) hg1)
           have HO1 := Lib.hid ho1
           have y0 := HBK1.out.cell 0
           have g0 := HBK1.out.frozen 0
           clear ho1 hg1))
      go_roundw
      case rel =>
        refine ⟨k + 1, _, by go_num, by omega, HBK1.out.set 0 _, ?_, HB1.out.setCell (p := ⟨w.heap.size, 0, none⟩) (Nat.le_refl _) _⟩
        rw [List.replicate_succ']
        have := own_set HO1.out HBK1.out (by decide) 0 (Value.slice a1 (k + 1) k1)
        rwa [show ic (List.replicate k (-4611686018427387904)) ++ [Value.int .i64 (-4611686018427387904)] = ic (List.replicate k (-4611686018427387904) ++ [-4611686018427387904]) by simp [ic]] at this
      case measure => simp [intOf]; omega
    · obtain rfl : k = n := by omega
      clear hbk hb
      go_wp2
      go_ret2
      exact ⟨_, rfl, Rc.made HB.out HBK.out (Nat.le_refl _) (by rw [List.length_replicate]; exact HO.out) (by simpa using h0) (by simpa using hn), HB.out⟩
end
end Go.Proofs.Ytdndljbagjfkkaa
