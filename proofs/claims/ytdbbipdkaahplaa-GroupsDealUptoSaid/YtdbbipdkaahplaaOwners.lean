/- The walk of owners: whose each group is. -/
import Derived.Test.YtdbbipdkaahplaaSame
namespace Go.Proofs.Ytdbbipdkaahplaa
open Go.RowKit

theorem intInfo : (Try.prog.info? 3).map (fun i => (i.zero, i.size, i.bytes)) = some (some (.int .i64 0), 1, 8) := by kernel_rfl

def ownL (p g : Int) (n : Nat) : List Value := (List.range n).map fun (x : Nat) => Value.int .i64 (owner p g (x : Int))
theorem ownL_succ (p g : Int) (n : Nat) : ownL p g (n + 1) = ownL p g n ++ [.int .i64 (owner p g (n : Int))] := by simp [ownL, List.range_succ]
theorem ownL_length (p g : Int) (n : Nat) : (ownL p g n).length = n := by simp [ownL]

theorem owner_eq {p g x k : Int} (hp : 1 ≤ p) (hg : 1 ≤ g) (h1 : k * g / p ≤ x) (h2 : x < (k + 1) * g / p) : owner p g x = k := by
  have a := (le_wrk (w := k) (x := x) hp hg).2 h1
  have b : ¬ (k + 1 ≤ ((x + 1) * p - 1) / g) := fun h => by have := (le_wrk (w := k + 1) (x := x) hp hg).1 h; omega
  unfold owner
  omega

theorem st_mono {p g k : Int} (hp : 1 ≤ p) (hg : 1 ≤ g) : k * g / p ≤ (k + 1) * g / p := by
  apply Int.ediv_le_ediv (by omega)
  exact Int.mul_le_mul_of_nonneg_right (by omega) (by omega)
theorem st_nonneg {p g k : Int} (hp : 1 ≤ p) (hg : 1 ≤ g) (hk : 0 ≤ k) : 0 ≤ k * g / p := Int.ediv_nonneg (Int.mul_nonneg hk (by omega)) (by omega)
theorem st_le {p g k : Int} (hp : 1 ≤ p) (hg : 1 ≤ g) (hk : k ≤ p) : k * g / p ≤ g := by
  have h1 : k * g ≤ g * p := by rw [Int.mul_comm g]; exact Int.mul_le_mul_of_nonneg_right (by omega) (by omega)
  have h2 := Int.ediv_le_ediv (c := p) (by omega) h1
  rwa [Int.mul_ediv_cancel _ (by omega)] at h2
theorem st_all {p g : Int} (hp : 1 ≤ p) : p * g / p = g := by rw [Int.mul_comm]; exact Int.mul_ediv_cancel _ (by omega)

set_option maxRecDepth 100000 in
set_option maxHeartbeats 1000000 in
theorem owners_any (p g : Int) (w : World) (hm : mayB p g) :
    Calls Try.prog 32 #[.int .i64 p, .int .i64 g] w fun e w' => ∃ v, e = .returned v ∧ Below w.heap.size w w' ∧ w'.ownsRow w.heap.size 3 1 v g.toNat (ownL p g g.toNat) := by
  have H := Lib.hid hm
  obtain ⟨g1, g2, p1, p2⟩ := id hm
  clear hm
  obtain ⟨i0, hi0, hz0, hz1, hz2⟩ := info_parts intInfo
  obtain ⟨B, hB⟩ : ∃ B, w.heap.size = B := ⟨_, rfl⟩
  rw [hB]
  go_enter Try.func32, Try.ntmps32
  go_wp2
  go_loopw [5, 6] (fun v i wr => ∃ k : Int, i = .int .i64 k ∧ 0 ≤ k ∧ k ≤ p ∧ Below B w wr ∧ wr.ownsRow B 3 1 v (k * g / p).toNat (ownL p g (k * g / p).toNat)) (fun _ i _ => (p - intOf i).toNat)
  case atStart => exact ⟨0, rfl, by omega, by omega, Below.refl _ _, by simp [ownL]; exact World.ownsRow_nil _ _ _ _⟩
  case round =>
    obtain ⟨k, rfl, hk0, hk1, hb, hrow⟩ := hrel
    by_cases hlt : k < p
    · have s0 := st_nonneg (k := k) p1 g1 hk0
      have s1 := st_mono (k := k) p1 g1
      have s2 := st_le (k := k + 1) p1 g1 (by omega)
      have he : Hid (∀ x : Nat, k * g / p ≤ x → (x : Int) < (k + 1) * g / p → owner p g x = k) := fun x h1 h2 => owner_eq p1 g1 h1 h2
      have hs := Lib.hid (fun W => refStretch_yes k p g W H.out hk0 hlt)
      have HR := Lib.hid hrow
      clear hrow
      generalize hq1 : (k + 1) * g / p = e1 at *
      have HQ1 := Lib.hid hq1
      clear hq1
      generalize k * g / p = e0 at *
      obtain ⟨n0, rfl⟩ : ∃ n : Nat, e0 = n := ⟨e0.toNat, by omega⟩
      obtain ⟨n1, rfl⟩ : ∃ n : Nat, e1 = n := ⟨e1.toNat, by omega⟩
      go_wp2_with (go_at_call 10; (with_reducible refine (hs.out _).mono ?_); rintro e w1 ⟨rfl, hb1⟩)
      have hrow1 := HR.out.kept (below_grown hb1 none) (by cases hv : u5.ownBlock <;> simp)
      have HB := Lib.hid (hb.trans (hb1.mono (hB ▸ hb.size)))
      rw [Int.toNat_natCast] at hrow1
      have HR1 := Lib.hid hrow1
      have hsz1 : B ≤ w1.heap.size := hB ▸ HB.out.size
      have HB1 := Lib.hid hb1
      clear hrow1 HR hb hb1 hs
      obtain ⟨wo, rfl⟩ : ∃ wo : World, wo = wr := ⟨_, rfl⟩
      go_loopw [5, 10] (fun v i wr => ∃ m : Nat, i = .int .i64 (m : Int) ∧ n0 ≤ m ∧ m ≤ n1 ∧ Below B w wr ∧ wr.ownsRow B 3 1 v m (ownL p g m)) (fun _ i _ => n1 - (intOf i).toNat)
      case atStart => exact ⟨n0, rfl, Nat.le_refl _, by omega, HB.out, HR1.out⟩
      case round =>
        obtain ⟨m, rfl, hm0, hm1, hb2, hrow2⟩ := hrel
        have hsz2 : B ≤ wr.heap.size := hB ▸ hb2.size
        have HR4 := Lib.hid hrow2
        have HR2 := Lib.hid (hrow2.alloc (.cells #[.int .i64 k] 3))
        have HB2 := Lib.hid hb2
        have hlt2 := hrow2.lt
        have HL2 := Lib.hid hlt2
        clear hrow2 hb2 hlt2
        by_cases hml : m < n1
        · go_wp2_with (at_builtin; refine wpList_append_own _ rfl _ _ 67 rfl B 3 i0 _ 1 8 Try.underlying67 hi0 hz0 hz1 hz2 rfl (by decide) _ _ _ rfl HR2.out ⟨wr.heap.size, 0, none⟩ 1 1 [.int .i64 k] rfl rfl (cell_one_new _ _ _) (by simp [Value.oneCell']) (by simp only [maxLen]; omega) (by omega) (by simp; omega) ?_; intro v' w4 hown' hgrow _)
          go_roundw
          case rel => exact ⟨m + 1, by go_num, by omega, by omega, (HB2.out.alloc hsz2 _).grown hgrow (by simp; omega) (fun k e => (HL2.out k e).1), by rw [ownL_succ, he.out m (by omega) (by omega)]; exact hown'⟩
          case measure => simp [intOf]; omega
        · have hmn : m = n1 := by omega
          have HMN := Lib.hid hmn
          clear hmn
          go_wp2
          go_roundw
          case rel => exact ⟨k + 1, rfl, by omega, by omega, HB2.out, by rw [HQ1.out, Int.toNat_natCast, ← HMN.out]; exact HR4.out⟩
          case measure => simp [intOf]; omega
    · have hkp : k = p := by omega
      have e1 : k * g / p = g := by rw [hkp]; exact st_all p1
      have E1 := Lib.hid e1
      have HR := Lib.hid hrow
      clear hkp e1 hrow
      go_wp2
      go_ret
      exact ⟨_, rfl, hb, by have h := HR.out; rw [E1.out] at h; exact h⟩
end Go.Proofs.Ytdbbipdkaahplaa
