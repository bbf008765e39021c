/- The walks of the reference's Number, of Size, and of fold and unfold. -/
import Derived.Test.YtaechgnjdjijkaaNum
namespace Go.Proofs.Ytaechgnjdjijkaa
open Go.RowKit

set_option maxRecDepth 100000 in
set_option maxHeartbeats 1000000 in
theorem refNumber_any (x : Nat) (w : World) (hx : x < 18446744073709551616) :
    Calls Try.prog 73 #[.int .u64 (x : Int)] w fun e w' => ∃ v', e = .returned v' ∧ Below w.heap.size w w' ∧ w'.ownsRow w.heap.size 5 1 v' (num7 x).length (bc (num7 x)) := by
  obtain ⟨i0, hi0, hz0, hz1, hz2⟩ := info_parts u8Info
  have hl := num7_le x hx
  obtain ⟨L, hL⟩ : ∃ L, L = num7 x := ⟨_, rfl⟩
  have HL := Lib.hid hL
  rw [← hL] at hl ⊢
  clear hL
  go_enter Try.func73, Try.ntmps73
  go_wp2
  go_loopw [0, 3] (fun q p wr => ∃ (k y : Nat) (pre : List UInt8), q = .int .u64 (y : Int) ∧ y < 18446744073709551616 ∧ L = pre ++ num7 y ∧ pre.length = k ∧ Below w.heap.size w wr ∧ wr.ownsRow w.heap.size 5 1 p k (bc pre)) (fun q _ _ => (intOf q).toNat)
  case atStart => exact ⟨0, x, [], rfl, hx, HL.out, rfl, Below.refl _ _, World.ownsRow_nil _ _ _ _⟩
  case round =>
    obtain ⟨k, y, pre, rfl, hy, hpre, hk, hg, ho⟩ := hrel
    have HP := Lib.hid hpre
    have HK := Lib.hid hk
    have HG := Lib.hid hg
    have HOK := Lib.hid ho
    have hsz := hg.size
    have hkL : k ≤ 10 := by have := congrArg List.length hpre; rw [List.length_append] at this; omega
    clear hpre hg ho hk
    by_cases hlt : y < 128
    · have hlt' : decide ((128 : Int) ≤ (y : Int)) = false := by simp; omega
      have HA := Lib.hid (HOK.out.alloc (.cells #[.int .u8 (y : Int)] 5))
      go_wp2_with (first
        | (at_builtin; refine wpList_append_own_at _ rfl (.tmp 15) (.tmp 18) 25 rfl w.heap.size 5 i0 _ 1 1 Try.underlying25 hi0 hz0 hz1 hz2 rfl (by decide) _ k _ rfl HA.out ⟨wr.heap.size, 0, none⟩ 1 1 [.int .u8 (y : Int)] rfl rfl (news_lit wr #[.int .u8 (y : Int)] 5 wr.heap.size rfl) (by simp [Value.oneCell']) (by simp only [maxLen]; omega) (by omega) (by simp; omega) ?_; intro v' w' hown' hgrow _ hat
           have HG' := Lib.hid ((HG.out.alloc hsz (.cells #[.int .u8 (y : Int)] 5)).grown hgrow (by simp; omega) (fun r e => (HA.out.lt r e).1))
           have HO' := Lib.hid hown'
           clear hown' hgrow hat))
      go_ret
      have e1 : L.length = k + 1 := by have h := congrArg List.length HP.out; have h2 := HK.out; rw [num7_small hlt, List.length_append] at h; simp at h; omega
      refine ⟨v', rfl, HG'.out, ?_⟩
      have h := HO'.out
      rw [e1, HP.out, num7_small hlt, bc_append, bc_small (by omega)]
      exact h
    · have hlt' : decide ((128 : Int) ≤ (y : Int)) = true := by simp; omega
      have hb1 : (y : Int) % 128 ≤ 127 := by omega
      have hb0 : 0 ≤ (y : Int) % 128 := by omega
      have HA := Lib.hid (HOK.out.alloc (.cells #[.int .u8 ((y : Int) % 128 + 128)] 5))
      go_wp2_with (first
        | (at_builtin; refine wpList_append_own_at _ rfl (.tmp 6) (.tmp 11) 25 rfl w.heap.size 5 i0 _ 1 1 Try.underlying25 hi0 hz0 hz1 hz2 rfl (by decide) _ k _ rfl HA.out ⟨wr.heap.size, 0, none⟩ 1 1 [.int .u8 ((y : Int) % 128 + 128)] rfl rfl (news_lit wr #[.int .u8 ((y : Int) % 128 + 128)] 5 wr.heap.size rfl) (by simp [Value.oneCell']) (by simp only [maxLen]; omega) (by omega) (by simp; omega) ?_; intro v' w' hown' hgrow _ hat
           have HG' := Lib.hid ((HG.out.alloc hsz (.cells #[.int .u8 ((y : Int) % 128 + 128)] 5)).grown hgrow (by simp; omega) (fun r e => (HA.out.lt r e).1))
           have HO' := Lib.hid hown'
           clear hown' hgrow hat))
      go_roundw
      case rel => exact ⟨k + 1, y / 128, pre ++ [UInt8.ofNat (y % 128 + 128)], by go_num, by omega, by rw [HP.out, num7_big hlt]; simp, by rw [List.length_append, HK.out]; rfl, HG'.out, by
        have h := HO'.out
        rw [bc_append, bc_small (by omega)]
        rw [show (((y % 128 + 128 : Nat)) : Int) = (y : Int) % 128 + 128 by omega]
        exact h⟩
      case measure => simp [intOf]; omega

/-- The number of a signed form. -/
def zig (x : Int) : Nat := if 0 ≤ x then (2 * x).toNat else (-2 * x - 1).toNat
theorem zig_lt {x : Int} (h1 : -9223372036854775808 ≤ x) (h2 : x ≤ 9223372036854775807) : zig x < 18446744073709551616 := by unfold zig; split <;> omega

theorem xor_all (a : Nat) (h : a < 18446744073709551616) : a ^^^ 18446744073709551615 = 18446744073709551615 - a := by
  have e := congrArg BitVec.toNat (BitVec.xor_allOnes (x := BitVec.ofNat 64 a))
  rw [BitVec.toNat_xor, BitVec.toNat_allOnes, BitVec.toNat_not, BitVec.toNat_ofNat, Nat.mod_eq_of_lt (by simpa using h)] at e
  exact e
theorem fold_pos {x : Int} (h : 0 ≤ x) (h2 : x ≤ 9223372036854775807) : bits .xor .u64 (x * 2) (x / 9223372036854775808) = (zig x : Int) := by
  have e : x / 9223372036854775808 = 0 := by omega
  rw [e]
  obtain ⟨n, rfl⟩ := Int.eq_ofNat_of_zero_le h
  have := u64_xor_nat (n * 2) 0 (by omega) (by decide)
  rw [Nat.xor_zero] at this
  unfold zig
  rw [if_pos h]
  have e2 : (((n * 2 : Nat)) : Int) = (n : Int) * 2 := by omega
  rw [e2] at this
  rw [show ((0 : Nat) : Int) = 0 from rfl] at this
  rw [this]
  omega
theorem fold_neg {x : Int} (h : x < 0) (h1 : -9223372036854775808 ≤ x) : bits .xor .u64 (IntKind.u64.wrap (IntKind.u64.wrap x * 2)) (IntKind.u64.wrap (x / 9223372036854775808)) = (zig x : Int) := by
  have e : x / 9223372036854775808 = -1 := by omega
  obtain ⟨n, hn⟩ : ∃ n : Nat, (n : Int) = 2 * x + 18446744073709551616 := ⟨(2 * x + 18446744073709551616).toNat, by omega⟩
  have w1 : IntKind.u64.wrap (IntKind.u64.wrap x * 2) = (n : Int) := by
    rw [IntKind.wrap_u64, IntKind.wrap_u64]; omega
  have w2 : IntKind.u64.wrap (-1) = ((18446744073709551615 : Nat) : Int) := by decide
  rw [e, w1, w2, u64_xor_nat n 18446744073709551615 (by omega) (by decide), xor_all n (by omega)]
  unfold zig
  rw [if_neg (by omega)]
  omega
theorem fold_any (x : Int) (w : World) (h1 : -9223372036854775808 ≤ x) (h2 : x ≤ 9223372036854775807) : Calls Try.prog 104 #[.int .i64 x] w fun e w' => e = .returned (.int .u64 (zig x : Nat)) ∧ w = w' := by
  by_cases h : 0 ≤ x
  · have hz := Lib.hid (fold_pos h h2)
    go_enter Try.func104, Try.ntmps104
    go_wp2
    go_ret
    exact ⟨ret_int hz.out, rfl⟩
  · have hz := Lib.hid (fold_neg (by omega) h1)
    go_enter Try.func104, Try.ntmps104
    go_wp2
    go_ret
    exact ⟨ret_int hz.out, rfl⟩
theorem refFold_any (x : Int) (w : World) (h1 : -9223372036854775808 ≤ x) (h2 : x ≤ 9223372036854775807) : Calls Try.prog 93 #[.int .i64 x] w fun e w' => e = .returned (.int .u64 (zig x : Nat)) ∧ w = w' := by
  by_cases h : 0 ≤ x
  · have hz : Hid (2 * x = (zig x : Int)) := by show _ = _; unfold zig; rw [if_pos h]; omega
    go_enter Try.func93, Try.ntmps93
    go_wp2
    go_ret
    exact ⟨ret_int hz.out, rfl⟩
  · have hz : Hid (2 * -(x + 1) + 1 = (zig x : Int)) := by show _ = _; unfold zig; rw [if_neg h]; omega
    go_enter Try.func93, Try.ntmps93
    go_wp2
    go_ret
    exact ⟨ret_int hz.out, rfl⟩

/-- The number whose signed form a number is. -/
def unz (u : Nat) : Int := if u % 2 = 0 then ((u / 2 : Nat) : Int) else -((u / 2 : Nat) : Int) - 1
theorem and_one (u : Nat) (h : u < 18446744073709551616) : bits .and .u64 (u : Int) 1 = (u : Int) % 2 := by
  have := u64_and_nat u 1 h (by decide)
  rw [Nat.and_one_is_mod] at this
  rw [show (1 : Int) = ((1 : Nat) : Int) from rfl, this]
  omega
theorem xor_zero_i64 (a : Nat) (h : a < 9223372036854775808) : bits .xor .i64 (a : Int) 0 = (a : Int) := by
  show IntKind.i64.wrap ((BitVec.ofInt 64 (a : Int) ^^^ BitVec.ofInt 64 0).toNat : Int) = _
  have e : (BitVec.ofInt 64 0) = 0#64 := by decide
  rw [e, BitVec.xor_zero, ofInt_u64 a (by omega)]
  exact IntWalk.i64_in _ (by omega)
theorem xor_m1_i64 (a : Nat) (h : a < 9223372036854775808) : bits .xor .i64 (a : Int) (-1) = -(a : Int) - 1 := by
  show IntKind.i64.wrap ((BitVec.ofInt 64 (a : Int) ^^^ BitVec.ofInt 64 (-1)).toNat : Int) = _
  have e : (BitVec.ofInt 64 (-1)) = BitVec.allOnes 64 := by decide
  rw [e, BitVec.toNat_xor, ofInt_u64 a (by omega), BitVec.toNat_allOnes]
  have := xor_all a (by omega)
  rw [show (2 ^ 64 - 1 : Nat) = 18446744073709551615 by decide, this, IntKind.wrap_i64]
  omega
theorem unfold_even {u : Nat} (h : u < 18446744073709551616) (h2 : u % 2 = 0) : bits .xor .i64 ((u : Int) / 2) (wrap64 (-wrap64 (bits .and .u64 (u : Int) 1))) = unz u := by
  rw [and_one u h]
  have e : (u : Int) % 2 = 0 := by omega
  rw [e]
  have e2 : wrap64 (-wrap64 0) = 0 := by unfold wrap64; decide
  have e3 : (u : Int) / 2 = ((u / 2 : Nat) : Int) := by omega
  rw [e2, e3, xor_zero_i64 _ (by omega)]
  unfold unz; rw [if_pos h2]
theorem unfold_odd {u : Nat} (h : u < 18446744073709551616) (h2 : ¬ u % 2 = 0) : bits .xor .i64 ((u : Int) / 2) (wrap64 (-wrap64 (bits .and .u64 (u : Int) 1))) = unz u := by
  rw [and_one u h]
  have e : (u : Int) % 2 = 1 := by omega
  rw [e]
  have e2 : wrap64 (-wrap64 1) = -1 := by unfold wrap64; decide
  have e3 : (u : Int) / 2 = ((u / 2 : Nat) : Int) := by omega
  rw [e2, e3, xor_m1_i64 _ (by omega)]
  unfold unz; rw [if_neg h2]
theorem unfold_any (u : Nat) (w : World) (h : u < 18446744073709551616) : Calls Try.prog 105 #[.int .u64 (u : Int)] w fun e w' => e = .returned (.int .i64 (unz u)) ∧ w = w' := by
  by_cases h2 : u % 2 = 0
  · have hz := Lib.hid (unfold_even h h2)
    go_enter Try.func105, Try.ntmps105
    go_wp2
    go_ret
    exact ⟨ret_int hz.out, rfl⟩
  · have hz := Lib.hid (unfold_odd h h2)
    go_enter Try.func105, Try.ntmps105
    go_wp2
    go_ret
    exact ⟨ret_int hz.out, rfl⟩
theorem refUnfold_any (u : Nat) (w : World) (h : u < 18446744073709551616) : Calls Try.prog 68 #[.int .u64 (u : Int)] w fun e w' => e = .returned (.int .i64 (unz u)) ∧ w = w' := by
  by_cases h2 : u % 2 = 0
  · have h2' : ((u : Int) % 2 == 0) = true := by simp; omega
    have hz : Hid ((u : Int) / 2 = unz u) := by show _ = _; unfold unz; rw [if_pos h2]; omega
    go_enter Try.func68, Try.ntmps68
    go_wp2
    go_ret
    exact ⟨ret_int hz.out, rfl⟩
  · have h2' : ((u : Int) % 2 == 0) = false := by simp; omega
    have hz : Hid (-((u : Int) / 2) - 1 = unz u) := by show _ = _; unfold unz; rw [if_neg h2]; omega
    go_enter Try.func68, Try.ntmps68
    go_wp2
    go_ret
    exact ⟨ret_int hz.out, rfl⟩
end Go.Proofs.Ytaechgnjdjijkaa
