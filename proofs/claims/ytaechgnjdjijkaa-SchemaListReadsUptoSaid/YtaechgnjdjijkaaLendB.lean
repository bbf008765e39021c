/- Bytes lent with marks behind them; are they as they were lent? -/
import Derived.Test.YtaechgnjdjijkaaLends
namespace Go.Proofs.Ytaechgnjdjijkaa
open Go.RowKit Go.Lib

def bmarks : List UInt8 := [165, 166, 167]
theorem bmarks_take (i : Nat) (hi : i < 3) : bmarks.take (i + 1) = bmarks.take i ++ [UInt8.ofNat (165 + i)] := by
  have : i = 0 ∨ i = 1 ∨ i = 2 := by omega
  rcases this with rfl | rfl | rfl <;> rfl
/-- The front of a row of the call's own. -/
theorem own_front {w : World} {B : Nat} {e : TypeId} {g n m cap : Nat} {xs ys : List Value} (h : w.ownsRow B e 1 (.slice (some ⟨g, 0, none⟩) m cap) m (xs ++ ys)) (hn : xs.length = n) (hm : n ≤ m) : w.ownsRow B e 1 (.slice (some ⟨g, 0, none⟩) n cap) n xs := by
  obtain ⟨hl, h⟩ := h
  refine ⟨by omega, ?_⟩
  rcases h with ⟨h1, h2⟩ | ⟨q, c', cur, hq, h1, h2, h3, h4, h5, h6⟩
  · cases h1
  · cases hq
    refine .inr ⟨g, cap, cur, rfl, h1, h2, by omega, h4, h5, ?_⟩
    have h7 : (cur.toList.take (m * 1)).take (n * 1) = cur.toList.take (n * 1) := by rw [List.take_take]; congr 1; omega
    rw [← h7, h6, List.take_append_of_le_length (by omega), List.take_of_length_le (by omega)]
/-- Bytes that are lent. -/
def Lb (w : World) (B : Nat) (v : Value) (n : Nat) (bs : List UInt8) : Prop := ∃ g cap, v = .slice (some ⟨g, 0, none⟩) n cap ∧ n + 3 ≤ cap ∧ cap ≤ maxLen ∧ w.ownsRow B 5 1 (.slice (some ⟨g, 0, none⟩) (n + 3) cap) (n + 3) (bc (bs ++ bmarks))
theorem Lb.below {w w' : World} {B : Nat} {v : Value} {n : Nat} {bs : List UInt8} (h : Lb w B v n bs) (hb : Below w.heap.size w w') : Lb w' B v n bs := by
  obtain ⟨g, cap, h1, h2, h3, h4⟩ := h
  exact ⟨g, cap, h1, h2, h3, own_below h4 hb⟩
theorem Lb.own {w : World} {B g cap n : Nat} {bs : List UInt8} (h : w.ownsRow B 5 1 (.slice (some ⟨g, 0, none⟩) (n + 3) cap) (n + 3) (bc (bs ++ bmarks))) (hl : bs.length = n) : w.ownsRow B 5 1 (.slice (some ⟨g, 0, none⟩) n cap) n (bc bs) := by
  rw [bc_append] at h
  exact own_front h (by rw [bc_length, hl]) (by omega)
theorem run_u8_front (ad : Addr) (m z cap : Nat) (hz : z ≤ cap) (hc : 0 < cap) : ∀ W : World, (Instr.sliceAt 25 (.slice (some ad) m cap) none (some (.int .i64 (z : Int))) none).run Try.prog W = .ok (.slice (some ad) z cap) W := by
  intro W
  rw [run_sliceAt_slice _ _ _ _ _ _ u8Sl, run_slice_h _ _ _ _ _ u8Sl _ _ (by omega) (by omega)]
  simp only [Int.toNat_natCast, u8Sz, Result.andThen_ok]
  unfold sliced
  rw [if_neg (by omega)]
  simp [Addr.add]
set_option maxRecDepth 100000 in
set_option maxHeartbeats 1000000 in
theorem LendBytes_any (A : Option Addr) (n cap : Nat) (bs : List UInt8) (W : World) (hr : Rd W (.slice A n cap) n (bc bs)) (hl : bs.length = n) (hn : n + 3 ≤ 140737488355328) :
    Calls Try.prog 9 #[.slice A n cap] W fun e w' => ∃ v, e = .returned v ∧ Below W.heap.size W w' ∧ Lb w' W.heap.size v n bs := by
  obtain ⟨i0, hi0, hz0, hz1, hz2⟩ := info_parts u8Info
  have hcap : n ≤ cap ∧ cap ≤ maxLen := by obtain ⟨_, _, hv, h1, h2, _⟩ := hr; cases hv; exact ⟨h1, h2⟩
  unfold maxLen at hcap
  obtain ⟨hcap1, hcap2⟩ := hcap
  have HR : Hid (Rd (W.alloc (.cells #[] 5)) (.slice A n cap) n (bc bs)) := Lib.hid (hr.below (below_alloc W _))
  have HL := Lib.hid hl
  clear hr hl
  have HO0 : Hid ((W.alloc (.cells #[] 5)).ownsRow W.heap.size 5 1 (.slice (some ⟨W.heap.size, 0, none⟩) 0 0) 0 []) := Lib.hid (own_lit (base := W.heap.size) (size := 1) W #[] 0 W.heap.size rfl (by omega) (by unfold maxLen; omega) rfl)
  go_enter Try.func9, Try.ntmps9
  go_wp2_with (first
    | (at_builtin; refine wpList_append_rd _ rfl (.tmp 5) (.tmp 6) 25 rfl W.heap.size 5 i0 _ 1 1 Try.underlying25 hi0 hz0 hz1 hz2 rfl (by decide) _ 0 _ rfl HO0.out A n cap (bc bs) rfl (by rw [bc_length, HL.out, Nat.mul_one]) HR.out (bc_one _) (by simp only [maxLen]; omega) (by omega) (by simp) ?_; intro v3 w3 ho3 hg3 hat3; have HB3 := Lib.hid ((below_alloc W (.cells #[] 5)).grown hg3 (below_alloc W (.cells #[] 5)).size (fun r e => (own_lt HO0.out e).1)); obtain ⟨A3, c3, rfl, -, -⟩ := ownsRow_shape ho3; simp only [Nat.zero_add, List.nil_append] at ho3; have HO3 := Lib.hid ho3; clear ho3 hg3 hat3))
  go_loopw [3, 4] (fun sv q wr => ∃ (i : Nat) (Av : Option Addr) (cv : Nat), sv = .slice Av (n + i) cv ∧ q = .int .i64 i ∧ i ≤ 3 ∧ wr.ownsRow W.heap.size 5 1 (.slice Av (n + i) cv) (n + i) (bc (bs ++ bmarks.take i)) ∧ Below W.heap.size W wr) (fun _ q _ => 3 - (intOf q).toNat)
  case atStart => exact ⟨0, A3, c3, by simp, rfl, by omega, by simpa using HO3.out, HB3.out⟩
  case round =>
    clear HO3 HB3 HO0 HR
    obtain ⟨i, Av, cv, rfl, rfl, hi, ho, hb⟩ := hrel
    have hcv : n + i ≤ cv ∧ cv ≤ maxLen := by obtain ⟨_, _, hv, h1, h2⟩ := ownsRow_shape ho; cases hv; exact ⟨h1, h2⟩
    unfold maxLen at hcv
    obtain ⟨hcv1, hcv2⟩ := hcv
    have HO := Lib.hid ho
    have HB := Lib.hid hb
    clear ho hb
    by_cases hi3 : i < 3
    · have hd : decide ((i : Int) < 3) = true := by simp; omega
      have hi4 : (i : Int) < 3 := by omega
      have HBC : Hid (bc (bs ++ bmarks.take i) ++ [.int .u8 (165 + (i : Int))] = bc (bs ++ bmarks.take (i + 1))) := Lib.hid (by
        rw [bmarks_take i hi3, ← List.append_assoc, bc_append (bs ++ bmarks.take i), bc_small (by omega)]
        congr 2)
      go_wp2_with (first
        | (at_builtin; refine wpList_append_rd _ rfl (.tmp 12) (.tmp 16) 25 rfl W.heap.size 5 i0 _ 1 1 Try.underlying25 hi0 hz0 hz1 hz2 rfl (by decide) _ (n + i) _ rfl (HO.out.alloc _) (some ⟨wr.heap.size, 0, none⟩) 1 1 [.int .u8 (165 + (i : Int))] rfl rfl (Rd.of_owns (own_lit (base := 0) (size := 1) wr _ 1 _ rfl (Nat.zero_le _) (by unfold maxLen; omega) rfl)) (by simp [Value.oneCell']) (by simp only [maxLen]; omega) (by omega) (by have := HB.out.size; simp; omega) ?_; intro v4 w4 ho4 hg4 hat4; have HB4 := Lib.hid ((HB.out.alloc HB.out.size _).grown hg4 (HB.out.alloc HB.out.size _).size (fun r e => (own_lt HO.out e).1)); obtain ⟨A4, c4, rfl, -, -⟩ := ownsRow_shape ho4; rw [HBC.out] at ho4; have HO4 := Lib.hid ho4; clear ho4 hg4 hat4))
      go_roundw
      case rel => exact ⟨i + 1, A4, c4, rfl, by go_num, by omega, HO4.out, HB4.out⟩
      case measure => simp [intOf]; omega
    · obtain rfl : i = 3 := by omega
      obtain ⟨g, hA, -⟩ := ownsRow_at HO.out (by omega)
      subst hA
      have hrun := run_own_front g (n + 3) n cv (by omega) (by omega) (by omega)
      have hd : decide ((3 : Int) < 3) = false := by simp
      go_wp2
      go_ret
      exact ⟨_, rfl, HB.out, g, cv, rfl, hcv1, by unfold maxLen; omega, HO.out⟩
set_option maxRecDepth 100000 in
set_option maxHeartbeats 1000000 in
theorem KeptBytes_any (mv : Value) (A : Option Addr) (n cap : Nat) (bs : List UInt8) (B : Nat) (W : World) (hm : Lb W B mv n bs) (hr : Rd W (.slice A n cap) n (bc bs)) (hl : bs.length = n) (hn : n + 3 ≤ 140737488355328) :
    Calls Try.prog 16 #[mv, .slice A n cap] W fun e w' => e = .returned (.bool true) ∧ Below W.heap.size W w' := by
  obtain ⟨g, c1, rfl, h1, h2, ho⟩ := hm
  have HBY : Hid (Calls Try.prog 20 #[.slice (some ⟨g, 0, none⟩) n c1, .slice A n cap] W fun e w' => e = .returned (.bool true) ∧ W = w') := Lib.hid (by
    have h := kitBytes_any W (some ⟨g, 0, none⟩) A n n c1 cap bs bs (Rd.of_owns (Lb.own ho hl)) hl hr hl
    rwa [show (bs == bs) = true by simp] at h)
  have HZ : Hid (∀ i, i < 3 → W.cell? ⟨g, n + i, none⟩ = some (.int .u8 (165 + (i : Int)))) := Lib.hid fun i hi => by
    obtain ⟨g', hA, -, -, -, -, hc, -⟩ := ownsRow_at ho (by omega)
    cases hA
    refine hc (n + i) _ ?_
    rw [bc_append, List.getElem?_append_right (by rw [bc_length]; omega), bc_length, hl, Nat.add_sub_cancel_left]
    have : i = 0 ∨ i = 1 ∨ i = 2 := by omega
    rcases this with rfl | rfl | rfl <;> rfl
  have hcap : n ≤ cap ∧ cap ≤ maxLen := by obtain ⟨_, _, hv, h1, h2, _⟩ := hr; cases hv; exact ⟨h1, h2⟩
  unfold maxLen at hcap h2
  obtain ⟨hcap1, hcap2⟩ := hcap
  have hrun := run_u8_front ⟨g, 0, none⟩ n (n + 3) c1 (by omega) (by omega)
  have hcast : ((n + 3 : Nat) : Int) = (n : Int) + 3 := by omega
  rw [hcast] at hrun
  clear hr hl ho hcast
  go_enter Try.func16, Try.ntmps16
  go_wp2_with (first
    | (go_at_call 20; (with_reducible refine HBY.out.mono ?_); rintro e w1 ⟨rfl, rfl⟩))
  go_loop [6] (fun q => ∃ i : Nat, q = .int .i64 i ∧ i ≤ 3) (fun q => 3 - (intOf q).toNat)
  case atStart => exact ⟨0, rfl, by omega⟩
  case round =>
    obtain ⟨i, rfl, hi⟩ := hrel
    by_cases hi3 : i < 3
    · have z0 := HZ.out i hi3
      have hi1 : (n : Int) + (i : Int) < (n : Int) + 3 := by omega
      have hi0 : (0 : Int) ≤ (n : Int) + (i : Int) := by omega
      have hi2 : ((n : Int) + (i : Int)).toNat = n + i := by omega
      have hi4 : (i : Int) < 3 := by omega
      go_wp2
      go_round
      case rel => exact ⟨i + 1, by go_num, by omega⟩
      case measure => simp [intOf]; omega
    · obtain rfl : i = 3 := by omega
      go_wp2
      go_ret
      exact ⟨rfl, Below.refl _ _⟩
end Go.Proofs.Ytaechgnjdjijkaa
