/- The walk of the reference's join of tallies. -/
import Derived.Test.YtjdfjaocidjhlaaTal
namespace Go.Proofs.Ytjdfjaocidjhlaa
open Go.RowKit

set_option maxRecDepth 100000 in
set_option maxHeartbeats 1000000 in
theorem refTallyJoin_any (v : Value) (l : List Tl) (w : World) (hr : Rd w v l.length (tcells l)) :
    Calls Try.prog 32 #[v] w fun e w' => e = .returned (.agg #[.int .i64 (tly l).c, .int .i64 (tly l).u, .int .i64 (tly l).lo, .int .i64 (tly l).hi]) ∧ Below w.heap.size w w' := by
  obtain ⟨a, cap, rfl, hc, hm, hr⟩ := hr
  obtain ⟨n, hn⟩ : ∃ n, l.length = n := ⟨_, rfl⟩
  rw [hn] at hc hr ⊢
  unfold maxLen at hm
  have HN := Lib.hid hn
  have HR := Lib.hid hr
  clear hn hr
  go_enter Try.func32, Try.ntmps32
  go_wp2
  have hz0 : TBox ((w.alloc (.cells #[.int .i64 0, .int .i64 0, .int .i64 0, .int .i64 0] 41)).alloc (.cells #[.int .i64 0, .int .i64 0, .int .i64 0, .int .i64 0] 41)) w.heap.size ⟨0, 0, 0, 0⟩ := by constructor <;> go_simp
  have hz1 : TBox ((w.alloc (.cells #[.int .i64 0, .int .i64 0, .int .i64 0, .int .i64 0] 41)).alloc (.cells #[.int .i64 0, .int .i64 0, .int .i64 0, .int .i64 0] 41)) (w.heap.size + 1) ⟨0, 0, 0, 0⟩ := by constructor <;> go_simp
  have HZ0 := Lib.hid hz0
  have HZ1 := Lib.hid hz1
  clear hz0 hz1
  go_loopw [4] (fun i wr => ∃ k : Nat, i = .int .i64 k ∧ k ≤ n ∧ Below w.heap.size w wr ∧ w.heap.size + 2 ≤ wr.heap.size ∧ TBox wr w.heap.size ⟨0, 0, 0, 0⟩ ∧ TBox wr (w.heap.size + 1) (tly (l.take k))) (fun i _ => n - (intOf i).toNat)
  case atStart => exact ⟨0, rfl, Nat.zero_le _, (below_alloc _ _).alloc (by simp) _, by simp, HZ0.out, HZ1.out⟩
  case round =>
    obtain ⟨k, rfl, hk, hb, hsz, hr0, hr1⟩ := hrel
    have hw1 : w.heap.size < wr.heap.size := by omega
    have hw2 : w.heap.size + 1 < wr.heap.size := by omega
    obtain ⟨tb0, tb1⟩ := tly_bd (l.take k)
    obtain ⟨r0, r1, r2, r3, q0, q1, q2, q3⟩ := hr0
    obtain ⟨t0, t1, t2, t3, p0, p1, p2, p3⟩ := hr1
    by_cases hlt : k < n
    · obtain ⟨g, off, rfl, hg, hx⟩ := HR.out (by omega)
      obtain ⟨x, hxk⟩ : ∃ x, l[k]? = some x := ⟨_, List.getElem?_eq_getElem (by have := HN.out; omega)⟩
      have HT : Hid (tly (l.take (k + 1)) = tstep (tly (l.take k)) x) := tly_take hxk
      have hcl := fun (j : Nat) (u : Value) (hj : x.cells[j]? = some u) => (hb.cell (p := ⟨g, off + (k * 4 + j), none⟩) hg).trans (hx _ _ (flat_at Tl.cells 4 (fun _ => rfl) l k x hxk j u hj))
      have c0 : wr.cell? ⟨g, off + k * 4, none⟩ = some (.int .i64 x.c) := hcl 0 _ rfl
      have c1 : wr.cell? ⟨g, off + k * 4 + 1, none⟩ = some (.int .i64 x.u) := hcl 1 _ rfl
      have c2 : wr.cell? ⟨g, off + k * 4 + 2, none⟩ = some (.int .i64 x.lo) := hcl 2 _ rfl
      have c3 : wr.cell? ⟨g, off + k * 4 + 3, none⟩ = some (.int .i64 x.hi) := hcl 3 _ rfl
      have hgr : g < wr.heap.size := by omega
      clear hx hxk hcl
      generalize tly (l.take k) = t at *
      by_cases h1 : x.c < 1
      · have HS : Hid (tstep t x = t) := by unfold tstep; rw [if_pos h1]; trivial
        go_wp2
        go_roundw
        case rel => exact ⟨k + 1, by go_num, by omega, hb.alloc (by omega) _, by simp; omega, by constructor <;> go_simp, by rw [HT.out, HS.out]; constructor <;> go_simp⟩
        case measure => simp [intOf]; omega
      · by_cases h2 : 0 < t.c
        · have HS : Hid (tstep t x = ⟨min (t.c + min x.c 9007199254740992) 9007199254740992, wrap64 (t.u + x.u), min t.lo x.lo, max t.hi x.hi⟩) := by unfold tstep; rw [if_neg h1, if_pos h2]; trivial
          have hq0 : (t.c == 0) = false := by simp; omega
          have m1 : 1 ≤ min x.c 9007199254740992 := by omega
          have m2 : min x.c 9007199254740992 ≤ 9007199254740992 := by omega
          go_wp2
          go_roundw
          case rel => exact ⟨k + 1, by go_num, by omega, by (repeat (first | exact hb | (refine Below.setCell ?_ (by simp <;> omega) _) | (refine Below.alloc ?_ (by simp <;> omega) _))), by simp; omega, by constructor <;> go_simp, by rw [HT.out, HS.out]; constructor <;> go_simp⟩
          case measure => simp [intOf]; omega
        · have HS : Hid (tstep t x = ⟨min x.c 9007199254740992, x.u, x.lo, x.hi⟩) := by unfold tstep; rw [if_neg h1, if_neg h2]; trivial
          have hq0 : (t.c == 0) = true := by simp; omega
          go_wp2
          go_roundw
          case rel => exact ⟨k + 1, by go_num, by omega, by (repeat (first | exact hb | (refine Below.setCell ?_ (by simp <;> omega) _) | (refine Below.alloc ?_ (by simp <;> omega) _))), by simp; omega, by constructor <;> go_simp, by rw [HT.out, HS.out]; constructor <;> go_simp⟩
          case measure => simp [intOf]; omega
    · obtain rfl : k = n := by omega
      have HE : Hid (tly (l.take k) = tly l) := by rw [List.take_of_length_le (by have := HN.out; omega)]; trivial
      go_wp2
      rw [HE.out]
      exact bodyPost_ret (v := .agg #[.int .i64 (tly l).c, .int .i64 (tly l).u, .int .i64 (tly l).lo, .int .i64 (tly l).hi]) (by simp [results, Try.results32, go_sem, r0, r1, r2, r3]) rfl ⟨rfl, by (repeat (first | exact hb | (refine Below.setCell ?_ (by simp <;> omega) _)))⟩
end Go.Proofs.Ytjdfjaocidjhlaa
