/- A clock is made: Of, New. -/
import Derived.Test.YtdndljbagjfkkaaCk6
import Derived.Carry
namespace Go.Proofs.Ytdndljbagjfkkaa
open Go.RowKit Go.Lib

set_option maxRecDepth 100000 in
theorem Of1_any (t : Int) (w : World) : Calls Try.prog 54 #[.int .i64 t] w fun e w' => e = .returned (.bool (!isTime t)) ∧ w = w' := by
  have HT := Lib.hid (time_any t)
  generalize isTime t = B at *
  go_enter Try.func54, Try.ntmps54
  go_wp2_with (first
    | (go_at_call 37; (with_reducible refine (HT.out _).mono ?_); rintro e wn ⟨rfl, rfl⟩))
  go_ret
  exact ⟨rfl, rfl⟩
def allT (L : List Int) : Bool := L.all isTime
theorem allT_step {L : List Int} {k : Nat} {x : Int} (hx : L[k]? = some x) (h : allT (L.take k) = true) (ht : isTime x = true) : allT (L.take (k + 1)) = true := by
  have hk := (List.getElem?_eq_some_iff.1 hx).1
  have he : L[k] = x := by rw [List.getElem?_eq_getElem hk] at hx; exact Option.some.inj hx
  unfold allT at h ⊢
  rw [List.take_succ_eq_append_getElem hk, List.all_append, h, he]
  simp [ht]
theorem allT_not {L : List Int} {k : Nat} {x : Int} (hx : L[k]? = some x) (ht : isTime x = false) : allT L = false := by
  unfold allT
  rw [List.all_eq_false]
  exact ⟨x, List.mem_of_getElem? hx, by simp [ht]⟩
set_option maxRecDepth 100000 in
theorem IndexFunc_any (A : Option Addr) (m cap : Nat) (L : List Int) (w : World) (hr : Rd w (.slice A m cap) m (ic L)) (hL : L.length = m) :
    Calls Try.prog 61 #[.slice A m cap, .func (.func 54) #[] #[]] w fun e w' => (∃ r : Int, e = .returned (.int .i64 r) ∧ decide (0 ≤ r) = !allT L) ∧ w = w' := by
  obtain ⟨_, _, hv, hc1, hc2, hx⟩ := hr
  cases hv
  unfold maxLen at hc2
  have cell : ∀ k, k < m → ∃ x q off, L[k]? = some x ∧ A = some ⟨q, off, none⟩ ∧ w.cell? ⟨q, off + k, none⟩ = some (.int .i64 x) := fun k hk => by
    obtain ⟨q, off, hA, hq, hx⟩ := hx (by omega)
    have hl : L[k]? = some L[k] := List.getElem?_eq_getElem (by omega)
    exact ⟨_, q, off, hl, hA, hx k _ (ic_at hl)⟩
  have HC := Lib.hid cell
  have HL := Lib.hid hL
  clear hx cell hL
  go_enter Try.func61, Try.ntmps61
  go_wp2
  go_loop [8] (fun iv => ∃ k : Nat, k ≤ m ∧ iv = .int .i64 k ∧ allT (L.take k) = true) (fun iv => m - (intOf iv).toNat)
  case atStart => exact ⟨0, Nat.zero_le _, rfl, rfl⟩
  case round =>
    obtain ⟨k, hk, rfl, hall⟩ := hrel
    have HA := Lib.hid hall
    clear hall
    by_cases hkm : k < m
    · obtain ⟨x, q, off, hlx, rfl, zk⟩ := HC.out k hkm
      have HT := Lib.hid (Of1_any x w)
      have HLX := Lib.hid hlx
      clear hlx
      rcases hb : isTime x with _ | _
      · rw [hb] at HT
        have HB := Lib.hid hb
        clear hb
        go_wp2_with (first
          | (go_at_call 54; (with_reducible refine HT.out.mono ?_); rintro e wn ⟨rfl, rfl⟩))
        go_ret
        exact ⟨⟨_, rfl, by rw [allT_not HLX.out HB.out]; simp⟩, rfl⟩
      · rw [hb] at HT
        have HB := Lib.hid hb
        clear hb
        go_wp2_with (first
          | (go_at_call 54; (with_reducible refine HT.out.mono ?_); rintro e wn ⟨rfl, rfl⟩))
        go_round
        case rel => exact ⟨k + 1, by omega, by go_num, allT_step HLX.out HA.out HB.out⟩
        case measure => simp [intOf]; omega
    · obtain rfl : k = m := by omega
      go_wp2
      go_ret
      refine ⟨⟨-1, rfl, ?_⟩, rfl⟩
      have h := HA.out
      rw [List.take_of_length_le (by rw [HL.out]; exact Nat.le_refl _)] at h
      rw [h]; rfl
set_option maxRecDepth 100000 in
theorem ContainsFunc_any (A : Option Addr) (m cap : Nat) (L : List Int) (w : World) (hr : Rd w (.slice A m cap) m (ic L)) (hL : L.length = m) :
    Calls Try.prog 53 #[.slice A m cap, .func (.func 54) #[] #[]] w fun e w' => e = .returned (.bool (!allT L)) ∧ w = w' := by
  have HI := Lib.hid (IndexFunc_any A m cap L w hr hL)
  clear hr hL
  go_enter Try.func53, Try.ntmps53
  go_wp2_with (first
    | (go_at_call 61; (with_reducible refine HI.out.mono ?_); rintro e wn ⟨⟨r, rfl, hr⟩, rfl⟩))
  go_ret
  exact ⟨rfl, rfl⟩
/-- The blocks that are new. -/
def Nw (w w' : World) (k : Nat) : Prop := w.heap.size ≤ k ∧ k < w'.heap.size
theorem nm_made {w w' : World} (_h : Below w.heap.size w w') : Nm (w'.alloc (.map #[] 0)) w'.heap.size 0 (fun _ => none) := Nm.made w'
/-- A new clock. -/
theorem Ck.made {W w1 : World} {mv : Value} {L : List Int} (hb : Below W.heap.size W w1) (ho : w1.ownsRow W.heap.size 2 1 mv L.length (ic L)) (h0 : 0 < L.length) (h64 : L.length ≤ 64) :
    Ck ((w1.alloc (.map #[] 0)).alloc (.cells #[mv, .slice none 0 0, .map (some w1.heap.size)] 70)) (Nw W ((w1.alloc (.map #[] 0)).alloc (.cells #[mv, .slice none 0 0, .map (some w1.heap.size)] 70))) (w1.heap.size + 1) L 0 (fun _ => none) := by
  have hbk : Bk ((w1.alloc (.map #[] 0)).alloc (.cells #[mv, .slice none 0 0, .map (some w1.heap.size)] 70)) (w1.heap.size + 1) 70 #[mv, .slice none 0 0, .map (some w1.heap.size)] := Bk.new' _ _ _ _ (by simp)
  have hb2 : Below w1.heap.size w1 ((w1.alloc (.map #[] 0)).alloc (.cells #[mv, .slice none 0 0, .map (some w1.heap.size)] 70)) := below_trans (below_alloc _ _) (below_alloc _ _)
  have ho2 := own_below ho hb2
  have hsz := hb.size
  have hsz2 : ((w1.alloc (.map #[] 0)).alloc (.cells #[mv, .slice none 0 0, .map (some w1.heap.size)] 70)).heap.size = w1.heap.size + 2 := by simp
  refine ⟨fun k => k = w1.heap.size + 1, mv, .slice none 0 0, w1.heap.size, fun _ => 0, fun _ => ⟨#[]⟩, fun _ => 0, fun _ => none, ⟨⟨hbk, World.ownsRow_nil _ _ _ _, fun k hk => absurd hk (Nat.not_lt_zero _), fun k l hk => absurd hk (Nat.not_lt_zero _), rfl, fun r e => by simp [Value.ownBlock] at e, fun k hk => absurd hk (Nat.not_lt_zero _)⟩, ?_, ?_, ?_, ?_, own_mono ho2 (Nat.zero_le _), ?_, ?_, ?_, ?_, ?_, h0, h64, ?_⟩⟩
  · rintro k rfl; exact ⟨by omega, by rw [hsz2]; omega⟩
  · rintro r e rfl; exact own_bk_ne ho2 hbk (by decide) e
  · show ¬ (w1.heap.size = w1.heap.size + 1); omega
  · intro k h1 h2; omega
  · intro r e; have := ho.lt r e; exact ⟨this.1, by rw [hsz2]; omega⟩
  · exact (Nm.made w1).below (below_alloc _ _)
  · exact ⟨hsz, by rw [hsz2]; omega⟩
  · intro s b; constructor
    · intro e; cases e
    · rintro ⟨k, hk, _⟩; omega
  · intro s b; constructor
    · intro e; cases e
    · rintro ⟨k, hk, _⟩; omega
  · intro k hk; exact hk.2
/-- May a clock have these marks? -/
def okL (L : List Int) : Prop := 0 < L.length ∧ L.length ≤ 64 ∧ allT L = true
set_option maxRecDepth 100000 in
theorem Of_bad (A : Option Addr) (m cap : Nat) (L : List Int) (w : World) (hr : Rd w (.slice A m cap) m (ic L)) (hL : L.length = m) (hno : ¬ okL L) :
    Calls Try.prog 25 #[.slice A m cap] w fun e w' => e = .returned (.tuple #[.pointer none, .int .i64 2]) ∧ w = w' := by
  have HC := Lib.hid (ContainsFunc_any A m cap L w hr hL)
  by_cases h1 : m < 1
  · have d1 : decide ((m : Int) < 1) = true := by simp; omega
    have d1' : decide (m < 1) = true := by simpa using h1
    clear hr hL hno h1
    go_enter Try.func25, Try.ntmps25
    go_wp2
    go_ret2
    exact ⟨rfl, rfl⟩
  · have d1 : decide ((m : Int) < 1) = false := by simp; omega
    have d1' : decide (m < 1) = false := by simpa using h1
    by_cases h2 : 64 < m
    · have d2 : decide ((64 : Int) < (m : Int)) = true := by simp; omega
      have d2' : decide (64 < m) = true := by simpa using h2
      clear hr hL hno h1 h2
      go_enter Try.func25, Try.ntmps25
      go_wp2
      go_ret2
      exact ⟨rfl, rfl⟩
    · have d2 : decide ((64 : Int) < (m : Int)) = false := by simp; omega
      have d2' : decide (64 < m) = false := by simpa using h2
      have hall : allT L = false := by
        rcases hb : allT L with _ | _
        · rfl
        · exact absurd ⟨by omega, by omega, hb⟩ hno
      rw [hall] at HC
      clear hr hL hno hall h1 h2
      go_enter Try.func25, Try.ntmps25
      go_wp2_with (first
        | (go_at_call 53; (with_reducible refine HC.out.mono ?_); rintro e wn ⟨rfl, rfl⟩))
      go_ret2
      exact ⟨rfl, rfl⟩
set_option maxRecDepth 100000 in
theorem Of_ok (A : Option Addr) (m cap : Nat) (L : List Int) (w : World) (hr : Rd w (.slice A m cap) m (ic L)) (hL : L.length = m) (hok : okL L) :
    Calls Try.prog 25 #[.slice A m cap] w fun e w' => ∃ c, e = .returned (.tuple #[.pointer (some ⟨c, 0, none⟩), .int .i64 0]) ∧ Ck w' (Nw w w') c L 0 (fun _ => none) ∧ Below w.heap.size w w' := by
  obtain ⟨h0, h64, hall⟩ := hok
  have hc := ContainsFunc_any A m cap L w hr hL
  rw [hall] at hc
  have HC := Lib.hid hc
  have HCL := Lib.hid (Clone_any A m cap L w hr hL (by omega))
  have H0 := Lib.hid h0
  have H64 := Lib.hid h64
  have HL := Lib.hid hL
  have d1 : decide ((m : Int) < 1) = false := by simp; omega
  have d1' : decide (m < 1) = false := by simp; omega
  have d2 : decide ((64 : Int) < (m : Int)) = false := by simp; omega
  have d2' : decide (64 < m) = false := by simp; omega
  have hmm := @run_makeMap Try.prog
  clear hr hc hL h0 h64 hall
  go_enter Try.func25, Try.ntmps25
  go_wp2_with (first
    | (go_at_call 53; (with_reducible refine HC.out.mono ?_); rintro e wn ⟨rfl, rfl⟩)
    | (go_at_call 36; (with_reducible refine HCL.out.mono ?_); rintro e w1 ⟨mv, rfl, hb, ho⟩; obtain ⟨A1, cap1, rfl, _, _⟩ := ownsRow_shape ho; have HB := Lib.hid hb; have HO := Lib.hid ho; clear hb ho))
  go_ret2
  have ho := HO.out
  rw [← HL.out] at ho
  have h := Ck.made HB.out ho H0.out H64.out
  rw [HL.out] at h
  exact ⟨_, rfl, h, below_trans HB.out (below_trans (below_alloc _ _) (below_alloc _ _))⟩
set_option maxRecDepth 100000 in
theorem New_bad (n : Int) (w : World) (hn : n < 1 ∨ 64 < n) : Calls Try.prog 8 #[.int .i64 n] w fun e w' => e = .returned (.tuple #[.pointer none, .int .i64 2]) ∧ w = w' := by
  by_cases h1 : n < 1
  · have d1 : decide (n < 1) = true := by simpa using h1
    clear hn h1
    go_enter Try.func8, Try.ntmps8
    go_wp2
    go_ret2
    exact ⟨rfl, rfl⟩
  · have d1 : decide (n < 1) = false := by simpa using h1
    have d2 : decide (64 < n) = true := by simp; omega
    clear hn h1
    go_enter Try.func8, Try.ntmps8
    go_wp2
    go_ret2
    exact ⟨rfl, rfl⟩
theorem okL_rep (n : Nat) (h0 : 0 < n) (hn : n ≤ 64) : okL (List.replicate n (-4611686018427387904)) := ⟨by simpa using h0, by simpa using hn, by unfold allT; rw [List.all_eq_true]; intro x hx; rw [(List.mem_replicate.1 hx).2]; decide⟩
set_option maxRecDepth 100000 in
theorem New_ok (n : Nat) (w : World) (h0 : 0 < n) (hn : n ≤ 64) : Calls Try.prog 8 #[.int .i64 (n : Int)] w fun e w' => ∃ c, e = .returned (.tuple #[.pointer (some ⟨c, 0, none⟩), .int .i64 0]) ∧ Ck w' (Nw w w') c (List.replicate n (-4611686018427387904)) 0 (fun _ => none) ∧ Below w.heap.size w w' := by
  have d1 : decide ((n : Int) < 1) = false := by simp; omega
  have d1' : decide (n < 1) = false := by simp; omega
  have d2 : decide ((64 : Int) < (n : Int)) = false := by simp; omega
  have d2' : decide (64 < n) = false := by simp; omega
  have HR := Lib.hid (Repeat_one w.heap.size 1 n (-4611686018427387904) (w.alloc (.cells #[.int .i64 (-4611686018427387904)] 2)) ((Bk.new w 2 #[.int .i64 (-4611686018427387904)]).cell 0) hn h0)
  have HAL := Lib.hid (below_alloc w (.cells #[.int .i64 (-4611686018427387904)] 2))
  have HOK := Lib.hid (okL_rep n h0 hn)
  go_enter Try.func8, Try.ntmps8
  go_wp2_with (first
    | (go_at_call 33; (with_reducible refine HR.out.mono ?_); rintro e w1 ⟨v1, rfl, hb, ho⟩
       obtain ⟨A, cap, rfl, _, _⟩ := ownsRow_shape ho
       have HB := Lib.hid (below_trans HAL.out hb)
       have HO := Lib.hid (Of_ok A n cap _ w1 (Rd.of_owns ho) (by simp) HOK.out)
       clear hb ho)
    | (go_at_call 25; (with_reducible refine HO.out.mono ?_); rintro e w2 ⟨c, rfl, hc, hb⟩
       have HC := Lib.hid hc; have HB2 := Lib.hid hb; clear hc hb))
  go_ret2
  refine ⟨_, rfl, ?_, below_trans HB.out HB2.out⟩
  obtain ⟨XH, mv, v, nb, f, nm, tm, N, h⟩ := HC.out
  exact ⟨XH, mv, v, nb, f, nm, tm, N, h.wide (fun k hk => ⟨Nat.le_trans HB.out.size hk.1, hk.2⟩) (fun k hk => hk.2)⟩
end Go.Proofs.Ytdndljbagjfkkaa
