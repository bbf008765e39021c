/- Numbers that are lent, with marks behind them. -/
import Derived.Test.YtdndljbagjfkkaaPo
namespace Go.Proofs.Ytdndljbagjfkkaa
open Go.RowKit Go.Lib
def mk3 (L : List Int) : List Int := L ++ [-7000, -7001, -7002]
theorem mk3_length (L : List Int) : (mk3 L).length = L.length + 3 := by simp [mk3]
theorem mk3_front (L : List Int) : (mk3 L).take L.length = L := by simp [mk3]
theorem mk3_at (L : List Int) (k : Nat) (hk : k < 3) : (mk3 L)[L.length + k]? = some (-7000 - (k : Int)) := by
  unfold mk3
  rw [List.getElem?_append_right (by omega), Nat.add_sub_cancel_left]
  match k with
  | 0 => rfl
  | 1 => rfl
  | 2 => rfl
  | k + 3 => omega
theorem ic_snoc (l : List Int) (x : Int) : ic (l ++ [x]) = ic l ++ [.int .i64 x] := by simp [ic]
theorem run_front_i (g z n cap : Nat) (hz : z ≤ cap) (hn : n ≤ cap) (W : World) :
    (Instr.sliceAt 32 (.slice (some ⟨g, 0, none⟩) n cap) none (some (.int .i64 (z : Int))) none).run Try.prog W = .ok (.slice (some ⟨g, 0, none⟩) z cap) W := by
  have hs : Try.prog.underlying 32 = some (.slice (Try.prog.elem 32)) := by kernel_rfl
  have hz1 : ∀ W : World, (sizeOf (Try.prog.elem 32)).run Try.prog W = .ok 1 W := fun W => by kernel_rfl
  rw [run_sliceAt_slice _ _ _ _ _ _ hs, run_slice_h _ _ _ _ _ hs _ _ (by omega) (by omega)]
  simp only [Int.toNat_natCast, hz1, Result.andThen_ok]
  unfold sliced
  by_cases h : cap = 0
  · subst h; simp
  · rw [if_neg h]; simp [Addr.add]
/-- Numbers that were lent: the list and the marks behind it. -/
structure Ln (w : World) (B g n c : Nat) (L : List Int) : Prop where
  row : w.ownsRow B 2 1 (.slice (some ⟨g, 0, none⟩) (n + 3) c) (n + 3) (ic (mk3 L))
  len : L.length = n
theorem Ln.rd {w : World} {B g n c : Nat} {L : List Int} (h : Ln w B g n c L) : Rd w (.slice (some ⟨g, 0, none⟩) n c) n (ic L) := by
  obtain ⟨_, e, _, hg, h1, h2, hc, _⟩ := ownsRow_at h.row (by omega)
  cases e
  refine ⟨_, _, rfl, by omega, h2, fun _ => ⟨g, 0, rfl, hg, fun j u hj => ?_⟩⟩
  rw [Nat.zero_add]
  refine hc j u ?_
  have hl := (List.getElem?_eq_some_iff.1 hj).1
  rw [← hj]
  unfold mk3 ic
  rw [List.map_append, List.getElem?_append_left (by simpa [ic] using hl)]
set_option maxRecDepth 100000 in
set_option maxHeartbeats 1000000 in
theorem LendInts_any (A : Option Addr) (n cap : Nat) (L : List Int) (w : World) (hr : Rd w (.slice A n cap) n (ic L)) (hL : L.length = n) (hn : n ≤ 17592186044410) :
    Calls Try.prog 24 #[.slice A n cap] w fun e w' => ∃ g c, e = .returned (.slice (some ⟨g, 0, none⟩) n c) ∧ Ln w' w.heap.size g n c L ∧ Below w.heap.size w w' := by
  obtain ⟨iI, hiI, hI0, hI1, hI2⟩ := info_parts i64Info
  have HR : Hid (∀ W, Below w.heap.size w W → Rd W (.slice A n cap) n (ic L)) := fun W hW => hr.below hW
  have HL := Lib.hid hL
  have HLL : Hid ((ic L).length = n * 1) := by show _ = _; rw [ic_length, hL, Nat.mul_one]
  have HO0 := Lib.hid (own_lit (base := w.heap.size) (e := 2) (size := 1) w #[] 0 w.heap.size rfl (Nat.le_refl _) (by decide) rfl)
  have HB0 := Lib.hid (below_alloc w (.cells #[] 2))
  clear hr hL
  go_enter Try.func24, Try.ntmps24
  go_wp2_with (first
    | (at_builtin; refine wpList_append_rd _ rfl (.tmp 5) (.tmp 6) 32 rfl w.heap.size 2 iI _ 1 8 Try.underlying32 hiI hI0 hI1 hI2 rfl (by decide) _ 0 _ rfl HO0.out _ n cap (ic L) rfl HLL.out (HR.out _ HB0.out) (ic_one _) (by simp only [maxLen]; omega) (by omega) HB0.out.size ?_; intro v1 w1 ho1 hg1 _
       simp only [Nat.zero_add, List.nil_append] at ho1
       have HB1 := Lib.hid (HB0.out.grown hg1 HB0.out.size (fun r e => (HO0.out.lt r e).1))
       have HO1 := Lib.hid ho1
       clear ho1 hg1))
  go_loopw [3, 4] (fun v iv wr => ∃ k : Nat, iv = .int .i64 (k : Int) ∧ k ≤ 3 ∧ wr.ownsRow w.heap.size 2 1 v (n + k) (ic ((mk3 L).take (n + k))) ∧ Below w.heap.size w wr) (fun _ iv _ => 3 - (intOf iv).toNat)
  case atStart => exact ⟨0, rfl, by omega, by rw [Nat.add_zero, show (mk3 L).take n = L by rw [← HL.out]; exact mk3_front L]; exact HO1.out, HB1.out⟩
  case round =>
    obtain ⟨k, rfl, hk, ho, hb⟩ := hrel
    have HO := Lib.hid ho
    have HB := Lib.hid hb
    clear ho hb
    by_cases hk3 : k < 3
    · have hx := mk3_at L k hk3
      rw [HL.out] at hx
      have HX : Hid (ic ((mk3 L).take (n + k)) ++ [.int .i64 (-7000 - (k : Int))] = ic ((mk3 L).take (n + (k + 1)))) := by
        show _ = _
        rw [← Nat.add_assoc, List.take_add_one, hx, ← ic_snoc]; rfl
      have HRD := Lib.hid (rd_lit wr #[.int .i64 (-7000 - (k : Int))] 2 1 (by decide))
      have hsz := HB.out.size
      have hki : (k : Int) < 3 := by omega
      obtain ⟨a0, c0, rfl, _, _⟩ := ownsRow_shape HO.out
      clear hx
      go_wp2_with (first
        | (at_builtin; refine wpList_append_rd _ rfl (.tmp 12) (.tmp 15) 32 rfl w.heap.size 2 iI _ 1 8 Try.underlying32 hiI hI0 hI1 hI2 rfl (by decide) _ (n + k) _ rfl (HO.out.alloc _) _ 1 1 [.int .i64 (-7000 - (k : Int))] rfl rfl HRD.out (by simp [Value.oneCell']) (by simp only [maxLen]; omega) (by omega) (by simp; omega) ?_; intro v1 w1 ho1 hg1 _
           have HOA := Lib.hid (HO.out.alloc (.cells #[.int .i64 (-7000 - (k : Int))] 2))
           have HB1 := Lib.hid ((HB.out.alloc hsz (.cells #[.int .i64 (-7000 - (k : Int))] 2)).grown hg1 (by simp; omega) (fun r e => (HOA.out.lt r e).1))
           have HO1 := Lib.hid ho1
           clear ho1 hg1))
      go_roundw
      case rel => exact ⟨k + 1, by go_num, by omega, by rw [← HX.out]; exact HO1.out, HB1.out⟩
      case measure => simp [intOf]; omega
    · obtain rfl : k = 3 := by omega
      obtain ⟨a0, c0, rfl, hc1, hc2⟩ := ownsRow_shape HO.out
      obtain ⟨g, rfl, _, _, _, _, _, _⟩ := ownsRow_at HO.out (by omega)
      have hsl := run_front_i g n (n + 3) c0 (by omega) hc1
      go_wp2
      go_ret
      refine ⟨g, c0, rfl, ⟨?_, HL.out⟩, HB.out⟩
      have := HO.out
      rw [List.take_of_length_le (by rw [mk3_length, HL.out]; exact Nat.le_refl _)] at this
      exact this
set_option maxRecDepth 100000 in
set_option maxHeartbeats 1000000 in
theorem KeptInts_any (B g n c : Nat) (A : Option Addr) (cap : Nat) (L : List Int) (w : World) (h : Ln w B g n c L) (hr : Rd w (.slice A n cap) n (ic L)) (hn : n ≤ 17592186044410) :
    Calls Try.prog 27 #[.slice (some ⟨g, 0, none⟩) n c, .slice A n cap] w fun e w' => e = .returned (.bool true) ∧ Below w.heap.size w w' := by
  have HI := Lib.hid (Ints_any _ _ n n c cap L L w h.rd hr h.len h.len)
  obtain ⟨_, e, _, hgl, h1, h2, hc, _⟩ := ownsRow_at h.row (by omega)
  cases e
  have HC : Hid (∀ k, k < 3 → w.cell? ⟨g, n + k, none⟩ = some (.int .i64 (-7000 - (k : Int)))) := fun k hk => by
    refine hc _ _ ?_
    have := mk3_at L k hk
    rw [h.len] at this
    exact ic_at this
  have hsl := fun W => run_front_i g (n + 3) n c (by omega) (by omega) W
  obtain ⟨N, hN⟩ : ∃ N, n + 3 = N := ⟨_, rfl⟩
  rw [hN] at hsl
  have hNi : (n : Int) + 3 = (N : Int) := by omega
  have hNc : n + 3 = N := hN
  clear h hr hc hN
  go_enter Try.func27, Try.ntmps27
  go_wp2_with (first
    | (go_at_call 16; (with_reducible refine HI.out.mono ?_); rintro e w1 ⟨rfl, hb⟩; have HB1 := Lib.hid hb; clear hb))
  go_loop [6] (fun iv => ∃ k : Nat, iv = .int .i64 (k : Int) ∧ k ≤ 3) (fun iv => 3 - (intOf iv).toNat)
  case atStart => exact ⟨0, rfl, by omega⟩
  case round =>
    obtain ⟨k, rfl, hk⟩ := hrel
    by_cases hk3 : k < 3
    · have z0 := (HB1.out.cell (p := ⟨g, n + k, none⟩) hgl).trans (HC.out k hk3)
      have hki : (k : Int) < 3 := by omega
      have hnk : (n : Int) + (k : Int) = ((n + k : Nat) : Int) := by push_cast; rfl
      have hnN : n + k < N := by omega
      have hnNi : (n : Int) + (k : Int) < (N : Int) := by omega
      clear hNi hNc
      obtain ⟨q, hq⟩ : ∃ q, n + k = q := ⟨_, rfl⟩
      rw [hq] at z0 hnk hnN
      have hqN : (q : Int) < (N : Int) := by omega
      clear hq
      go_wp2
      go_round
      case rel => exact ⟨k + 1, by go_num, by omega⟩
      case measure => simp [intOf]; omega
    · obtain rfl : k = 3 := by omega
      go_wp2
      go_ret
      exact ⟨rfl, HB1.out⟩
end Go.Proofs.Ytdndljbagjfkkaa
