/- The walks of number, the program's and the reference's. -/
import Derived.Test.YtaechgnjdjijkaaMem
import Derived.Lib.MinMax
import Derived.IntWalk
import Derived.Laws.BitsAllLaws
namespace Go.Proofs.Ytaechgnjdjijkaa
open Go.RowKit

/-- Bytes as cells. -/
def bc (l : List UInt8) : List Value := l.map fun b => .int .u8 (b.toNat : Int)
theorem bc_append (a b : List UInt8) : bc (a ++ b) = bc a ++ bc b := by simp [bc]
theorem bc_length (a : List UInt8) : (bc a).length = a.length := by simp [bc]
theorem bc_one (l : List UInt8) : ∀ u ∈ bc l, u.oneCell' = true := by
  intro u hu
  simp only [bc, List.mem_map] at hu
  obtain ⟨x, _, rfl⟩ := hu
  rfl
theorem bc_at {l : List UInt8} {k : Nat} {b : UInt8} (h : l[k]? = some b) : (bc l)[k]? = some (.int .u8 (b.toNat : Int)) := by simp [bc, h]

/-- The number form. -/
def num7 (x : Nat) : List UInt8 := if h : x < 128 then [UInt8.ofNat x] else UInt8.ofNat (x % 128 + 128) :: num7 (x / 128)
termination_by x
decreasing_by omega
theorem num7_small {x : Nat} (h : x < 128) : num7 x = [UInt8.ofNat x] := by unfold num7; rw [dif_pos h]
theorem num7_big {x : Nat} (h : ¬ x < 128) : num7 x = UInt8.ofNat (x % 128 + 128) :: num7 (x / 128) := by rw [num7, dif_neg h]
theorem num7_len : ∀ (k x : Nat), x < 128 ^ (k + 1) → (num7 x).length ≤ k + 1
  | 0, x, h => by rw [num7_small (by simpa using h)]; simp
  | k + 1, x, h => by
    by_cases hx : x < 128
    · rw [num7_small hx]; simp
    · rw [num7_big hx, List.length_cons]
      have := num7_len k (x / 128) (by rw [Nat.div_lt_iff_lt_mul (by decide)]; rw [Nat.pow_succ] at h; exact h)
      omega
theorem num7_le (x : Nat) (h : x < 18446744073709551616) : (num7 x).length ≤ 10 := num7_len 9 x (Nat.lt_of_lt_of_le h (by decide))
theorem num7_pos (x : Nat) : 0 < (num7 x).length := by
  by_cases hx : x < 128
  · rw [num7_small hx]; simp
  · rw [num7_big hx]; simp

theorem or128 : ∀ a : Nat, a < 256 → a ||| 128 = a % 128 + 128 := by decide +kernel
theorem bits_or128 (y : Nat) : bits .or .u8 ((y : Int) % 256) 128 = (y : Int) % 128 + 128 := by
  have h := u8_or_nat (y % 256) 128 (Nat.mod_lt _ (by decide)) (by decide)
  rw [or128 _ (Nat.mod_lt _ (by decide))] at h
  have e : (y % 256) % 128 = y % 128 := by omega
  rw [e] at h
  have e2 : (((y % 256 : Nat)) : Int) = (y : Int) % 256 := by omega
  rw [e2] at h
  rw [show (128 : Int) = ((128 : Nat) : Int) from rfl, h]
  omega
theorem bc_small {y : Nat} (h : y < 256) : bc [UInt8.ofNat y] = [.int .u8 (y : Int)] := by
  simp only [bc, List.map_cons, List.map_nil, UInt8.toNat_ofNat']
  rw [Nat.mod_eq_of_lt (by omega)]

theorem u8Info : (Try.prog.info? 5).map (fun i => (i.zero, i.size, i.bytes)) = some (some (.int .u8 0), 1, 1) := by kernel_rfl

set_option maxRecDepth 100000 in
set_option maxHeartbeats 1000000 in
theorem number_any (B : Nat) (v : Value) (n x : Nat) (bs : List Value) (w : World) (ho : w.ownsRow B 5 1 v n bs) (hB : B ≤ w.heap.size) (hx : x < 18446744073709551616) (hn : n + 20 ≤ 140737488355328) :
    Calls Try.prog 96 #[v, .int .u64 (x : Int)] w fun e w' => ∃ v', e = .returned v' ∧ Grew w w' v v' ∧ w'.ownsRow B 5 1 v' (n + (num7 x).length) (bs ++ bc (num7 x)) := by
  obtain ⟨i0, hi0, hz0, hz1, hz2⟩ := info_parts u8Info
  have HO := Lib.hid ho
  have hl := num7_le x hx
  obtain ⟨L, hL⟩ : ∃ L, L = num7 x := ⟨_, rfl⟩
  have HL := Lib.hid hL
  rw [← hL] at hl ⊢
  clear ho hL
  go_enter Try.func96, Try.ntmps96
  go_wp2
  go_loopw [0, 1] (fun p q wr => ∃ (k y : Nat) (pre : List UInt8), q = .int .u64 (y : Int) ∧ y < 18446744073709551616 ∧ L = pre ++ num7 y ∧ pre.length = k ∧ Grew w wr v p ∧ wr.ownsRow B 5 1 p (n + k) (bs ++ bc pre)) (fun _ q _ => (intOf q).toNat)
  case atStart => exact ⟨0, x, [], rfl, hx, HL.out, rfl, Grew.refl _ _, by simpa [bc] using HO.out⟩
  case round =>
    obtain ⟨k, y, pre, rfl, hy, hpre, hk, hg, ho⟩ := hrel
    have HP := Lib.hid hpre
    have HK := Lib.hid hk
    have HG := Lib.hid hg
    have HOK := Lib.hid ho
    have hsz := hg.only.size
    have hkL : k ≤ 10 := by have := congrArg List.length hpre; rw [List.length_append] at this; omega
    clear hpre hg ho hk
    by_cases hlt : y < 128
    · have hlt' : decide ((127 : Int) < (y : Int)) = false := by simp; omega
      have HA := Lib.hid (HOK.out.alloc (.cells #[.int .u8 (y : Int)] 5))
      go_wp2_with (first
        | (at_builtin; refine wpList_append_own_at _ rfl (.tmp 15) (.tmp 18) 25 rfl B 5 i0 _ 1 1 Try.underlying25 hi0 hz0 hz1 hz2 rfl (by decide) _ (n + k) _ rfl HA.out ⟨wr.heap.size, 0, none⟩ 1 1 [.int .u8 (y : Int)] rfl rfl (news_lit wr #[.int .u8 (y : Int)] 5 wr.heap.size rfl) (by simp [Value.oneCell']) (by simp only [maxLen]; omega) (by omega) (by simp; omega) ?_; intro v' w' hown' hgrow _ hat
           have HG' := Lib.hid ((HG.out.trans (Grew.alloc _ _)).trans (Grew.of_append hgrow hat))
           have HO' := Lib.hid hown'
           clear hown' hgrow hat))
      go_ret
      have e1 : L.length = k + 1 := by have h := congrArg List.length HP.out; have h2 := HK.out; rw [num7_small hlt, List.length_append] at h; simp at h; omega
      refine ⟨v', rfl, HG'.out, ?_⟩
      have h := HO'.out
      rw [e1, HP.out, num7_small hlt, bc_append, bc_small (by omega), ← List.append_assoc, ← Nat.add_assoc]
      exact h
    · have hlt' : decide ((127 : Int) < (y : Int)) = true := by simp; omega
      have hbits := bits_or128 y
      have HA := Lib.hid (HOK.out.alloc (.cells #[.int .u8 ((y : Int) % 128 + 128)] 5))
      go_wp2_with (first
        | (at_builtin; refine wpList_append_own_at _ rfl (.tmp 9) (.tmp 13) 25 rfl B 5 i0 _ 1 1 Try.underlying25 hi0 hz0 hz1 hz2 rfl (by decide) _ (n + k) _ rfl HA.out ⟨wr.heap.size, 0, none⟩ 1 1 [.int .u8 ((y : Int) % 128 + 128)] rfl rfl (news_lit wr #[.int .u8 ((y : Int) % 128 + 128)] 5 wr.heap.size rfl) (by simp [Value.oneCell']) (by simp only [maxLen]; omega) (by omega) (by simp; omega) ?_; intro v' w' hown' hgrow _ hat
           have HG' := Lib.hid ((HG.out.trans (Grew.alloc _ _)).trans (Grew.of_append hgrow hat))
           have HO' := Lib.hid hown'
           clear hown' hgrow hat))
      go_roundw
      case rel => exact ⟨k + 1, y / 128, pre ++ [UInt8.ofNat (y % 128 + 128)], by go_num, by omega, by rw [HP.out, num7_big hlt]; simp, by rw [List.length_append, HK.out]; rfl, HG'.out, by
        have h := HO'.out
        rw [bc_append, bc_small (by omega), ← List.append_assoc]
        rw [show (((y % 128 + 128 : Nat)) : Int) = (y : Int) % 128 + 128 by omega]
        exact h⟩
      case measure => simp [intOf]; omega
end Go.Proofs.Ytaechgnjdjijkaa
