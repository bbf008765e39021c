/- The walk of WireSizes. -/
import Derived.Test.YtmcgagjjgomkeaaKnown3
import Derived.Lib.MinMax
namespace Go.Proofs.Ytmcgagjjgomkeaa
open Go.RowKit Go.Lib

theorem num7_mono : ∀ (n a b : Nat), b < n → a ≤ b → (num7 a).length ≤ (num7 b).length
  | 0, _, _, h, _ => by omega
  | n + 1, a, b, h, hab => by
    by_cases ha : a < 128
    · rw [num7_small ha]
      exact num7_pos b
    · rw [num7_big ha, num7_big (show ¬ b < 128 by omega)]
      simp only [List.length_cons]
      have := num7_mono n (a / 128) (b / 128) (by omega) (by omega)
      omega
/-- How many bytes a number's form has. -/
def sz (z : Int) : Int := ((num7 z.toNat).length : Nat)
theorem sz_mono {a b : Int} (h : a ≤ b) : sz a ≤ sz b := by
  have := num7_mono (b.toNat + 1) a.toNat b.toNat (by omega) (by omega)
  unfold sz
  omega
theorem Size_z (z : Int) (h0 : 0 ≤ z) (h1 : z < 18446744073709551616) (w : World) : Calls Try.prog 9 #[.int .u64 z] w fun e w' => e = .returned (.int .i64 (sz z)) ∧ Below w.heap.size w w' := by
  have e : z = ((z.toNat : Nat) : Int) := by omega
  have h := Size_any z.toNat w (by omega)
  rw [← e] at h
  exact h
theorem refSize_z (z : Int) (h0 : 0 ≤ z) (h1 : z < 18446744073709551616) (w : World) : Calls Try.prog 10 #[.int .u64 z] w fun e w' => e = .returned (.int .i64 (sz z)) ∧ Below w.heap.size w w' := by
  have e : z = ((z.toNat : Nat) : Int) := by omega
  have h := refSize_any z.toNat w (by omega)
  rw [← e] at h
  exact h

set_option maxRecDepth 100000 in
theorem wireSizes_any (x y : Int) (hx0 : 0 ≤ x) (hx1 : x < 18446744073709551616) (hy0 : 0 ≤ y) (hy1 : y < 18446744073709551616) (W : World) :
    Calls Try.prog 3 #[.int .u64 x, .int .u64 y] W fun e w' => e = .returned (.bool true) ∧ Below W.heap.size W w' := by
  have HS1 := Lib.hid (Size_z (min x y) (by omega) (by omega))
  have HS2 := Lib.hid (Size_z (max x y) (by omega) (by omega))
  have HS3 := Lib.hid (Size_z x hx0 hx1)
  have HS4 := Lib.hid (Size_z y hy0 hy1)
  have HR3 := Lib.hid (refSize_z x hx0 hx1)
  have HR4 := Lib.hid (refSize_z y hy0 hy1)
  have hm := sz_mono (show min x y ≤ max x y by omega)
  have hd : decide (sz (min x y) ≤ sz (max x y)) = true := by simp [hm]
  have HK := Lib.hid known_any
  have HB0 : Hid (Below W.heap.size W W) := Below.refl _ _
  go_enter Try.func3, Try.ntmps3
  go_wp2_with (first
    | (go_at_call 9; (with_reducible refine (HS1.out _).mono ?_); rintro e w1 ⟨rfl, hb⟩; have HB1 := Lib.hid hb; clear hb)
    | (go_at_call 9; (with_reducible refine (HS2.out _).mono ?_); rintro e w2 ⟨rfl, hb⟩; have HB2 := Lib.hid hb; clear hb)
    | (go_at_call 9; (with_reducible refine (HS3.out _).mono ?_); rintro e w3 ⟨rfl, hb⟩; have HB3 := Lib.hid hb; clear hb)
    | (go_at_call 9; (with_reducible refine (HS4.out _).mono ?_); rintro e w4 ⟨rfl, hb⟩; have HB4 := Lib.hid hb; clear hb)
    | (go_at_call 10; (with_reducible refine (HR3.out _).mono ?_); rintro e w5 ⟨rfl, hb⟩; have HB5 := Lib.hid hb; clear hb)
    | (go_at_call 10; (with_reducible refine (HR4.out _).mono ?_); rintro e w6 ⟨rfl, hb⟩; have HB6 := Lib.hid hb; clear hb)
    | (go_at_call 11; (with_reducible refine (HK.out _).mono ?_); rintro e w7 ⟨rfl, hb⟩; have HB7 := Lib.hid hb; clear hb))
  go_ret
  exact ⟨rfl, below_trans (below_trans (below_trans (below_trans (below_trans (below_trans HB1.out HB2.out) HB3.out) HB5.out) HB4.out) HB6.out) HB7.out⟩
end Go.Proofs.Ytmcgagjjgomkeaa
