/- The walk of window.Join over spans that all have some time. -/
import Derived.Test.YtjdfjaocidjhlaaRefTal
namespace Go.Proofs.Ytjdfjaocidjhlaa
open Go.RowKit

structure Sn where
  s : Int
  e : Int
def Sn.cells (x : Sn) : List Value := [.int .i64 x.s, .int .i64 x.e]
def scells (l : List Sn) : List Value := l.flatMap Sn.cells
def smin (l : List Sn) : Int := l.foldl (fun m x => min m x.s) 9223372036854775807
def smax (l : List Sn) : Int := l.foldl (fun m x => max m x.e) (-9223372036854775808)
theorem smin_snoc (l : List Sn) (x : Sn) : smin (l ++ [x]) = min (smin l) x.s := by simp [smin]
theorem smax_snoc (l : List Sn) (x : Sn) : smax (l ++ [x]) = max (smax l) x.e := by simp [smax]
theorem smin_take {l : List Sn} {k : Nat} {x : Sn} (h : l[k]? = some x) : smin (l.take (k + 1)) = min (smin (l.take k)) x.s := by
  obtain ⟨hk, rfl⟩ := List.getElem?_eq_some_iff.1 h
  rw [List.take_succ_eq_append_getElem hk, smin_snoc]
theorem smax_take {l : List Sn} {k : Nat} {x : Sn} (h : l[k]? = some x) : smax (l.take (k + 1)) = max (smax (l.take k)) x.e := by
  obtain ⟨hk, rfl⟩ := List.getElem?_eq_some_iff.1 h
  rw [List.take_succ_eq_append_getElem hk, smax_snoc]
theorem smin_le {l : List Sn} : ∀ x ∈ l, smin l ≤ x.s := by
  have : ∀ (l : List Sn) (m : Int), l.foldl (fun m x => min m x.s) m ≤ m ∧ ∀ x ∈ l, l.foldl (fun m x => min m x.s) m ≤ x.s := by
    intro l
    induction l with
    | nil => exact fun m => ⟨Int.le_refl _, by simp⟩
    | cons y l ih =>
      intro m
      obtain ⟨h1, h2⟩ := ih (min m y.s)
      refine ⟨by simp only [List.foldl_cons]; omega, fun x hx => ?_⟩
      simp only [List.foldl_cons]
      rcases List.mem_cons.1 hx with rfl | hx
      · omega
      · exact h2 x hx
  exact (this l _).2
theorem smax_ge {l : List Sn} : ∀ x ∈ l, x.e ≤ smax l := by
  have : ∀ (l : List Sn) (m : Int), m ≤ l.foldl (fun m x => max m x.e) m ∧ ∀ x ∈ l, x.e ≤ l.foldl (fun m x => max m x.e) m := by
    intro l
    induction l with
    | nil => exact fun m => ⟨Int.le_refl _, by simp⟩
    | cons y l ih =>
      intro m
      obtain ⟨h1, h2⟩ := ih (max m y.e)
      refine ⟨by simp only [List.foldl_cons]; omega, fun x hx => ?_⟩
      simp only [List.foldl_cons]
      rcases List.mem_cons.1 hx with rfl | hx
      · omega
      · exact h2 x hx
  exact (this l _).2

/-- A box with a span. -/
structure SBox (W : World) (B : Nat) (a b : Int) : Prop where
  c0 : W.cell? ⟨B, 0, none⟩ = some (.int .i64 a)
  c1 : W.cell? ⟨B, 1, none⟩ = some (.int .i64 b)
  f0 : W.frozen? ⟨B, 0, none⟩ = false
  f1 : W.frozen? ⟨B, 1, none⟩ = false

set_option maxRecDepth 100000 in
set_option maxHeartbeats 1000000 in
theorem winJoin_any (v : Value) (l : List Sn) (w : World) (hr : Rd w v l.length (scells l)) (hv : ∀ x ∈ l, x.s < x.e) (h0 : 0 < l.length) :
    Calls Try.prog 29 #[v] w fun e w' => e = .returned (.tuple #[.agg #[.int .i64 (smin l), .int .i64 (smax l)], .bool true]) ∧ Below w.heap.size w w' := by
  have hlt : smin l < smax l := by
    have hx : l[0]? = some l[0] := List.getElem?_eq_getElem h0
    have hm := List.mem_of_getElem? hx
    have h1 := smin_le _ hm
    have h2 := smax_ge _ hm
    have h3 := hv _ hm
    omega
  obtain ⟨a, cap, rfl, hc, hm, hr⟩ := hr
  obtain ⟨n, hn⟩ : ∃ n, l.length = n := ⟨_, rfl⟩
  rw [hn] at hc hr h0 ⊢
  unfold maxLen at hm
  have HN := Lib.hid hn
  have HR := Lib.hid hr
  have HV := Lib.hid hv
  clear hn hr hv
  go_enter Try.func29, Try.ntmps29
  go_wp2
  have hz0 : SBox ((w.alloc (.cells #[.int .i64 0, .int .i64 0] 24)).alloc (.cells #[.int .i64 9223372036854775807, .int .i64 (-9223372036854775808)] 24)) w.heap.size 0 0 := by constructor <;> go_simp
  have hz1 : SBox ((w.alloc (.cells #[.int .i64 0, .int .i64 0] 24)).alloc (.cells #[.int .i64 9223372036854775807, .int .i64 (-9223372036854775808)] 24)) (w.heap.size + 1) (smin (l.take 0)) (smax (l.take 0)) := by rw [List.take_zero]; constructor <;> go_simp <;> rfl
  have HZ0 := Lib.hid hz0
  have HZ1 := Lib.hid hz1
  clear hz0 hz1
  go_loopw [10] (fun i wr => ∃ k : Nat, i = .int .i64 k ∧ k ≤ n ∧ Below w.heap.size w wr ∧ w.heap.size + 2 ≤ wr.heap.size ∧ SBox wr w.heap.size 0 0 ∧ SBox wr (w.heap.size + 1) (smin (l.take k)) (smax (l.take k))) (fun i _ => n - (intOf i).toNat)
  case atStart => exact ⟨0, rfl, Nat.zero_le _, (below_alloc _ _).alloc (by simp) _, by simp, HZ0.out, HZ1.out⟩
  case round =>
    obtain ⟨k, rfl, hk, hb, hsz, hr0, hr1⟩ := hrel
    have hw1 : w.heap.size < wr.heap.size := by omega
    have hw2 : w.heap.size + 1 < wr.heap.size := by omega
    obtain ⟨r0, r1, q0, q1⟩ := hr0
    obtain ⟨t0, t1, p0, p1⟩ := hr1
    by_cases hlt2 : k < n
    · obtain ⟨g, off, rfl, hg, hx⟩ := HR.out (by omega)
      obtain ⟨x, hxk⟩ : ∃ x, l[k]? = some x := ⟨_, List.getElem?_eq_getElem (by have := HN.out; omega)⟩
      have HT1 := Lib.hid (smin_take hxk)
      have HT2 := Lib.hid (smax_take hxk)
      have hval : x.s < x.e := HV.out x (List.mem_of_getElem? hxk)
      have hcl := fun (j : Nat) (u : Value) (hj : x.cells[j]? = some u) => (hb.cell (p := ⟨g, off + (k * 2 + j), none⟩) hg).trans (hx _ _ (flat_at Sn.cells 2 (fun _ => rfl) l k x hxk j u hj))
      have c0 : wr.cell? ⟨g, off + k * 2, none⟩ = some (.int .i64 x.s) := hcl 0 _ rfl
      have c1 : wr.cell? ⟨g, off + k * 2 + 1, none⟩ = some (.int .i64 x.e) := hcl 1 _ rfl
      have hgr : g < wr.heap.size := by omega
      clear hx hxk hcl
      generalize smin (l.take k) = p at *
      generalize smax (l.take k) = q at *
      go_wp2
      go_roundw
      case rel => exact ⟨k + 1, by go_num, by omega, by (repeat (first | exact hb | (refine Below.setCell ?_ (by simp <;> omega) _) | (refine Below.alloc ?_ (by simp <;> omega) _))), by simp; omega, by constructor <;> go_simp, by rw [HT1.out, HT2.out]; constructor <;> go_simp⟩
      case measure => simp [intOf]; omega
    · obtain rfl : k = n := by omega
      have HE1 : Hid (smin (l.take k) = smin l) := by rw [List.take_of_length_le (by have := HN.out; omega)]; trivial
      have HE2 : Hid (smax (l.take k) = smax l) := by rw [List.take_of_length_le (by have := HN.out; omega)]; trivial
      rw [HE1.out] at t0
      rw [HE2.out] at t1
      obtain ⟨p, hp⟩ : ∃ p, smin l = p := ⟨_, rfl⟩
      obtain ⟨q, hq⟩ : ∃ q, smax l = q := ⟨_, rfl⟩
      rw [hp] at t0 hlt
      rw [hq] at t1 hlt
      have HP := Lib.hid hp
      have HQ := Lib.hid hq
      clear hp hq
      go_wp2
      exact bodyPost_ret (v := .tuple #[.agg #[.int .i64 p, .int .i64 q], .bool true]) (by simp [results, Try.results29, go_sem, r0, r1]) rfl ⟨by rw [HP.out, HQ.out], by (repeat (first | exact hb | (refine Below.setCell ?_ (by simp <;> omega) _)))⟩
end Go.Proofs.Ytjdfjaocidjhlaa
