/- The walks of tally.Join and of its reference. -/
import Derived.Test.YtjdfjaocidjhlaaRefTouch
namespace Go.Proofs.Ytjdfjaocidjhlaa
open Go.RowKit

structure Tl where
  c : Int
  u : Int
  lo : Int
  hi : Int
def Tl.cells (x : Tl) : List Value := [.int .i64 x.c, .int .i64 x.u, .int .i64 x.lo, .int .i64 x.hi]
def tcells (l : List Tl) : List Value := l.flatMap Tl.cells

theorem flat_at {α : Type} (f : α → List Value) (m : Nat) (hf : ∀ x, (f x).length = m) : ∀ (l : List α) (k : Nat) (x : α), l[k]? = some x → ∀ (j : Nat) (u : Value), (f x)[j]? = some u → (l.flatMap f)[k * m + j]? = some u
  | [], _, _, h => by simp at h
  | y :: l, 0, x, h => fun j u hj => by
    simp only [List.getElem?_cons_zero, Option.some.injEq] at h
    subst h
    rw [List.flatMap_cons, Nat.zero_mul, Nat.zero_add, List.getElem?_append_left (List.getElem?_eq_some_iff.1 hj).1]
    exact hj
  | y :: l, k + 1, x, h => fun j u hj => by
    have ih := flat_at f m hf l k x (by simpa using h) j u hj
    have e : (k + 1) * m + j = k * m + j + m := by rw [Nat.succ_mul]; omega
    rw [List.flatMap_cons, e, List.getElem?_append_right (by rw [hf]; omega), hf, Nat.add_sub_cancel]
    exact ih
theorem flat_length {α : Type} (f : α → List Value) (m : Nat) (hf : ∀ x, (f x).length = m) : ∀ (l : List α), (l.flatMap f).length = l.length * m
  | [] => by simp
  | x :: l => by rw [List.flatMap_cons, List.length_append, hf, flat_length f m hf l, List.length_cons, Nat.succ_mul]; omega

/-- A slice that reads as these cells (n elements). -/
def Rd (w : World) (v : Value) (n : Nat) (xs : List Value) : Prop := ∃ a cap, v = .slice a n cap ∧ n ≤ cap ∧ cap ≤ maxLen ∧ (0 < n → ∃ g off, a = some ⟨g, off, none⟩ ∧ g < w.heap.size ∧ ∀ (j : Nat) (u : Value), xs[j]? = some u → w.cell? ⟨g, off + j, none⟩ = some u)

theorem Rd.of_owns {w : World} {base : Nat} {e : TypeId} {size : Nat} {v : Value} {n : Nat} {xs : List Value} (h : w.ownsRow base e size v n xs) : Rd w v n xs := by
  cases n with
  | zero =>
    rcases h.2 with ⟨rfl, _⟩ | ⟨g, cap, cur, rfl, _, _, hc, hm, _, _⟩
    · exact ⟨none, 0, rfl, Nat.le_refl _, by decide, fun h => by omega⟩
    · exact ⟨_, cap, rfl, hc, hm, fun h => by omega⟩
  | succ k =>
    obtain ⟨g, cap, rfl, _, hg, hc, hm, hcell, _⟩ := ownsRow_open h
    exact ⟨_, cap, rfl, hc, hm, fun _ => ⟨g, 0, rfl, hg, fun j u hj => by rw [Nat.zero_add]; exact hcell j u hj⟩⟩

theorem Rd.below {w w' : World} {v : Value} {n : Nat} {xs : List Value} (h : Rd w v n xs) (hb : Below w.heap.size w w') : Rd w' v n xs := by
  obtain ⟨a, cap, hv, hc, hm, hr⟩ := h
  refine ⟨a, cap, hv, hc, hm, fun hn => ?_⟩
  obtain ⟨g, off, ha, hg, hcell⟩ := hr hn
  exact ⟨g, off, ha, Nat.lt_of_lt_of_le hg hb.size, fun j u hj => (hb.cell (p := ⟨g, off + j, none⟩) hg).trans (hcell j u hj)⟩

/-- A tally put to a tally. -/
def tstep (t x : Tl) : Tl := if x.c < 1 then t else if 0 < t.c then ⟨min (t.c + min x.c 9007199254740992) 9007199254740992, wrap64 (t.u + x.u), min t.lo x.lo, max t.hi x.hi⟩ else ⟨min x.c 9007199254740992, x.u, x.lo, x.hi⟩
def tly (l : List Tl) : Tl := l.foldl tstep ⟨0, 0, 0, 0⟩
theorem tly_snoc (l : List Tl) (x : Tl) : tly (l ++ [x]) = tstep (tly l) x := by simp [tly]
theorem tly_take {l : List Tl} {k : Nat} {x : Tl} (h : l[k]? = some x) : tly (l.take (k + 1)) = tstep (tly (l.take k)) x := by
  obtain ⟨hk, rfl⟩ := List.getElem?_eq_some_iff.1 h
  rw [List.take_succ_eq_append_getElem hk, tly_snoc]
theorem tstep_bd {t x : Tl} (h0 : 0 ≤ t.c) (h1 : t.c ≤ 9007199254740992) : 0 ≤ (tstep t x).c ∧ (tstep t x).c ≤ 9007199254740992 := by
  unfold tstep
  split
  · exact ⟨h0, h1⟩
  · split
    · simp only; omega
    · simp only; omega
theorem tly_bd (l : List Tl) : 0 ≤ (tly l).c ∧ (tly l).c ≤ 9007199254740992 := by
  have : ∀ (l : List Tl) (t : Tl), 0 ≤ t.c → t.c ≤ 9007199254740992 → 0 ≤ (l.foldl tstep t).c ∧ (l.foldl tstep t).c ≤ 9007199254740992 := by
    intro l
    induction l with
    | nil => exact fun t h0 h1 => ⟨h0, h1⟩
    | cons x l ih => exact fun t h0 h1 => ih _ (tstep_bd h0 h1).1 (tstep_bd h0 h1).2
  exact this l _ (by decide) (by decide)

/-- A box with a tally. -/
structure TBox (W : World) (B : Nat) (t : Tl) : Prop where
  c0 : W.cell? ⟨B, 0, none⟩ = some (.int .i64 t.c)
  c1 : W.cell? ⟨B, 1, none⟩ = some (.int .i64 t.u)
  c2 : W.cell? ⟨B, 2, none⟩ = some (.int .i64 t.lo)
  c3 : W.cell? ⟨B, 3, none⟩ = some (.int .i64 t.hi)
  f0 : W.frozen? ⟨B, 0, none⟩ = false
  f1 : W.frozen? ⟨B, 1, none⟩ = false
  f2 : W.frozen? ⟨B, 2, none⟩ = false
  f3 : W.frozen? ⟨B, 3, none⟩ = false

set_option maxRecDepth 100000 in
set_option maxHeartbeats 1000000 in
theorem tallyJoin_any (v : Value) (l : List Tl) (w : World) (hr : Rd w v l.length (tcells l)) :
    Calls Try.prog 30 #[v] w fun e w' => e = .returned (.agg #[.int .i64 (tly l).c, .int .i64 (tly l).u, .int .i64 (tly l).lo, .int .i64 (tly l).hi]) ∧ Below w.heap.size w w' := by
  obtain ⟨a, cap, rfl, hc, hm, hr⟩ := hr
  obtain ⟨n, hn⟩ : ∃ n, l.length = n := ⟨_, rfl⟩
  rw [hn] at hc hr ⊢
  unfold maxLen at hm
  have HN := Lib.hid hn
  have HR := Lib.hid hr
  clear hn hr
  go_enter Try.func30, Try.ntmps30
  go_wp2
  have hz0 : TBox ((w.alloc (.cells #[.int .i64 0, .int .i64 0, .int .i64 0, .int .i64 0] 41)).alloc (.cells #[.int .i64 0, .int .i64 0, .int .i64 0, .int .i64 0] 41)) w.heap.size ⟨0, 0, 0, 0⟩ := by constructor <;> go_simp
  have hz1 : TBox ((w.alloc (.cells #[.int .i64 0, .int .i64 0, .int .i64 0, .int .i64 0] 41)).alloc (.cells #[.int .i64 0, .int .i64 0, .int .i64 0, .int .i64 0] 41)) (w.heap.size + 1) ⟨0, 0, 0, 0⟩ := by constructor <;> go_simp
  have HZ0 := Lib.hid hz0
  have HZ1 := Lib.hid hz1
  clear hz0 hz1
  go_loopw [8] (fun i wr => ∃ k : Nat, i = .int .i64 k ∧ k ≤ n ∧ Below w.heap.size w wr ∧ w.heap.size + 2 ≤ wr.heap.size ∧ TBox wr w.heap.size ⟨0, 0, 0, 0⟩ ∧ TBox wr (w.heap.size + 1) (tly (l.take k))) (fun i _ => n - (intOf i).toNat)
  case atStart => exact ⟨0, rfl, Nat.zero_le _, (below_alloc _ _).alloc (by simp) _, by simp, HZ0.out, HZ1.out⟩
  case round =>
    obtain ⟨k, rfl, hk, hb, hsz, hr0, hr1⟩ := hrel
    have hw1 : w.heap.size < wr.heap.size := by omega
    have hw2 : w.heap.size + 1 < wr.heap.size := by omega
    obtain ⟨tb0, tb1⟩ := tly_bd (l.take k)
    obtain ⟨r0, r1, r2, r3, q0, q1, q2, q3⟩ := hr0
    obtain ⟨t0, t1, t2, t3, p0, p1, p2, p3⟩ := hr1
    by_cases hlt : k < n
    · obtain ⟨g, off, rfl, hg, hx⟩ := HR.out (by omega)
      obtain ⟨x, hxk⟩ : ∃ x, l[k]? = some x := ⟨_, List.getElem?_eq_getElem (by have := HN.out; omega)⟩
      have HT : Hid (tly (l.take (k + 1)) = tstep (tly (l.take k)) x) := tly_take hxk
      have hcl := fun (j : Nat) (u : Value) (hj : x.cells[j]? = some u) => (hb.cell (p := ⟨g, off + (k * 4 + j), none⟩) hg).trans (hx _ _ (flat_at Tl.cells 4 (fun _ => rfl) l k x hxk j u hj))
      have c0 : wr.cell? ⟨g, off + k * 4, none⟩ = some (.int .i64 x.c) := hcl 0 _ rfl
      have c1 : wr.cell? ⟨g, off + k * 4 + 1, none⟩ = some (.int .i64 x.u) := hcl 1 _ rfl
      have c2 : wr.cell? ⟨g, off + k * 4 + 2, none⟩ = some (.int .i64 x.lo) := hcl 2 _ rfl
      have c3 : wr.cell? ⟨g, off + k * 4 + 3, none⟩ = some (.int .i64 x.hi) := hcl 3 _ rfl
      have hgr : g < wr.heap.size := by omega
      clear hx hxk hcl
      generalize tly (l.take k) = t at *
      by_cases h1 : x.c < 1
      · have HS : Hid (tstep t x = t) := by unfold tstep; rw [if_pos h1]; trivial
        go_wp2
        go_roundw
        case rel => exact ⟨k + 1, by go_num, by omega, hb.alloc (by omega) _, by simp; omega, by constructor <;> go_simp, by rw [HT.out, HS.out]; constructor <;> go_simp⟩
        case measure => simp [intOf]; omega
      · by_cases h2 : 0 < t.c
        · have HS : Hid (tstep t x = ⟨min (t.c + min x.c 9007199254740992) 9007199254740992, wrap64 (t.u + x.u), min t.lo x.lo, max t.hi x.hi⟩) := by unfold tstep; rw [if_neg h1, if_pos h2]; trivial
          have m1 : 1 ≤ min x.c 9007199254740992 := by omega
          have m2 : min x.c 9007199254740992 ≤ 9007199254740992 := by omega
          go_wp2
          go_roundw
          case rel => exact ⟨k + 1, by go_num, by omega, by (repeat (first | exact hb | (refine Below.setCell ?_ (by simp <;> omega) _) | (refine Below.alloc ?_ (by simp <;> omega) _))), by simp; omega, by constructor <;> go_simp, by rw [HT.out, HS.out]; constructor <;> go_simp⟩
          case measure => simp [intOf]; omega
        · have HS : Hid (tstep t x = ⟨min x.c 9007199254740992, x.u, x.lo, x.hi⟩) := by unfold tstep; rw [if_neg h1, if_neg h2]; trivial
          go_wp2
          go_roundw
          case rel => exact ⟨k + 1, by go_num, by omega, by (repeat (first | exact hb | (refine Below.setCell ?_ (by simp <;> omega) _) | (refine Below.alloc ?_ (by simp <;> omega) _))), by simp; omega, by constructor <;> go_simp, by rw [HT.out, HS.out]; constructor <;> go_simp⟩
          case measure => simp [intOf]; omega
    · obtain rfl : k = n := by omega
      have HE : Hid (tly (l.take k) = tly l) := by rw [List.take_of_length_le (by have := HN.out; omega)]; trivial
      go_wp2
      rw [HE.out]
      exact bodyPost_ret (v := .agg #[.int .i64 (tly l).c, .int .i64 (tly l).u, .int .i64 (tly l).lo, .int .i64 (tly l).hi]) (by simp [results, Try.results30, go_sem, r0, r1, r2, r3]) rfl ⟨rfl, by (repeat (first | exact hb | (refine Below.setCell ?_ (by simp <;> omega) _)))⟩
end Go.Proofs.Ytjdfjaocidjhlaa
