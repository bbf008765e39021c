/- SameSpans at one list; the sessions' windows, one by one. -/
import Derived.Test.YtjdfjaocidjhlaaJev
import Derived.RegionTactic
import Derived.Laws.StructEq
namespace Go.Proofs.Ytjdfjaocidjhlaa
open Go.RowKit Go.Shelf

theorem scells_get {l : List Sn} {k : Nat} {x : Sn} (h : l[k]? = some x) : (scells l)[k * 2]? = some (.int .i64 x.s) ∧ (scells l)[k * 2 + 1]? = some (.int .i64 x.e) := by
  induction l generalizing k with
  | nil => simp at h
  | cons y l ih =>
    cases k with
    | zero => simp only [List.getElem?_cons_zero, Option.some.injEq] at h; subst h; exact ⟨rfl, rfl⟩
    | succ k =>
      have := ih (k := k) (by simpa using h)
      have e : scells (y :: l) = .int .i64 y.s :: .int .i64 y.e :: scells l := rfl
      rw [e, show (k + 1) * 2 = k * 2 + 1 + 1 by omega, List.getElem?_cons_succ, List.getElem?_cons_succ, List.getElem?_cons_succ, List.getElem?_cons_succ]
      exact this
set_option maxRecDepth 100000 in
set_option maxHeartbeats 1000000 in
theorem SameSpans_any (v1 v2 : Value) (l : List Sn) (w : World) (h1 : Rd w v1 l.length (scells l)) (h2 : Rd w v2 l.length (scells l)) :
    Calls Try.prog 21 #[v1, v2] w fun e w' => e = .returned (.bool true) ∧ Below w.heap.size w w' := by
  obtain ⟨a1, cap1, rfl, hc1, hm1, hr1⟩ := h1
  obtain ⟨a2, cap2, rfl, hc2, hm2, hr2⟩ := h2
  obtain ⟨n, hn⟩ : ∃ n, l.length = n := ⟨_, rfl⟩
  rw [hn] at hc1 hc2 hr1 hr2 ⊢
  unfold maxLen at hm1 hm2
  have HN := Lib.hid hn
  have HR1 := Lib.hid hr1
  have HR2 := Lib.hid hr2
  clear hn hr1 hr2
  go_enter Try.func21, Try.ntmps21
  go_wp2
  go_loopw [5] (fun i wr => ∃ k : Nat, i = .int .i64 k ∧ k ≤ n ∧ Below w.heap.size w wr) (fun i _ => n - (intOf i).toNat)
  case atStart => exact ⟨0, rfl, Nat.zero_le _, Below.refl _ _⟩
  case round =>
    obtain ⟨k, rfl, hk, hb⟩ := hrel
    by_cases hlt : k < n
    · obtain ⟨g1, o1, rfl, hg1, hx1⟩ := HR1.out (by omega)
      obtain ⟨g2, o2, rfl, hg2, hx2⟩ := HR2.out (by omega)
      obtain ⟨x, hx⟩ : ∃ x, l[k]? = some x := ⟨_, List.getElem?_eq_getElem (by have := HN.out; omega)⟩
      obtain ⟨y1, y2⟩ := scells_get hx
      have c0 := (hb.cell (p := ⟨g1, o1 + k * 2, none⟩) hg1).trans (hx1 _ _ y1)
      have c1 := (hb.cell (p := ⟨g1, o1 + (k * 2 + 1), none⟩) hg1).trans (hx1 _ _ y2)
      have d0 := (hb.cell (p := ⟨g2, o2 + k * 2, none⟩) hg2).trans (hx2 _ _ y1)
      have d1 := (hb.cell (p := ⟨g2, o2 + (k * 2 + 1), none⟩) hg2).trans (hx2 _ _ y2)
      rw [← Nat.add_assoc] at c1 d1
      clear hx1 hx2 hx y1 y2
      go_wp2
      go_region
      all_goals go_wp2
      all_goals go_roundw
      case rel => exact ⟨k + 1, by go_num, by omega, hb.drew⟩
      case measure => simp [intOf]; omega
    · go_wp2
      go_ret
      exact ⟨rfl, hb⟩
theorem evs_at {g : Int} {p : List Int} {l : List Wn} {m : List Sn} (h : Evs g p l) (hm : l.map Wn.sp = m) {i : Nat} {x : Sn} (hx : m[i]? = some x) :
    ∃ y, l[i]? = some y ∧ y.s = x.s ∧ y.e = x.e ∧ y.h = x.s ∧ y.c = wt g (fun _ => 1) p x.s x.e ∧ y.u = wt g (fun t => t) p x.s x.e ∧ 1 ≤ y.c := by
  subst hm
  obtain ⟨y, hy, rfl⟩ : ∃ y, l[i]? = some y ∧ y.sp = x := by simpa using hx
  have hy' := List.mem_of_getElem? hy
  exact ⟨y, hy, rfl, rfl, h.h y hy', (h.c y hy').1, h.u y hy', (h.c y hy').2⟩
/-- Counted so far. -/
def cnts (g : Int) (p : List Int) (m : List Sn) : Int := (m.map fun x => wt g (fun _ => 1) p x.s x.e).sum
theorem cnts_take {g : Int} {p : List Int} {m : List Sn} {i : Nat} {x : Sn} (h : m[i]? = some x) : cnts g p (m.take (i + 1)) = cnts g p (m.take i) + wt g (fun _ => 1) p x.s x.e := by
  rw [List.take_add_one, h]; simp [cnts]
theorem cnts_bd {g : Int} {p : List Int} (hp : ∀ t ∈ p, -2000 < t ∧ t < 2000) (m : List Sn) : 0 ≤ cnts g p m ∧ cnts g p m ≤ (m.length : Int) * p.length := by
  induction m with
  | nil => simp [cnts]
  | cons x m ih =>
    have := wt_bd (g := g) hp x.s x.e
    have e : cnts g p (x :: m) = wt g (fun _ => 1) p x.s x.e + cnts g p m := by simp [cnts]
    rw [e, List.length_cons, Int.natCast_add, Int.add_mul]
    omega
theorem wt_take {g : Int} {f : Int → Int} {p : List Int} {k : Nat} {t : Int} (h : p[k]? = some t) (s e : Int) : wt g f (p.take (k + 1)) s e = wt g f (p.take k) s e + (if ins g s e t then f t else 0) := by
  rw [List.take_add_one, h]; exact wt_snoc ..
/-- All that the law's loops know of the sessions. -/
structure Ods (g : Int) (p : List Int) (m : List Sn) (l1 l2 : List Wn) : Prop where
  ap : Apn m
  pos : ∀ x ∈ m, x.s ∈ p
  h1 : Evs g p l1
  h2 : Evs g p.reverse l2
  e1 : l1.map Wn.sp = m
  e2 : l2.map Wn.sp = m
  tot : cnts g p m = (p.length : Int)
theorem Ods.of {g : Int} (hg : 1 ≤ g) {p : List Int} {l1 l2 : List Wn} (h1 : Evs g p l1) (h2 : Evs g p.reverse l2) : Ods g p (gaps g (srt p)) l1 l2 ∧ gaps g (srt p.reverse) = gaps g (srt p) := by
  have hs1 : Sess g (srt p) (gaps g (srt p)) := gaps_ok hg (srt_sorted p)
  have hs2 : Sess g (srt p.reverse) (gaps g (srt p.reverse)) := gaps_ok hg (srt_sorted p.reverse)
  have e1 : l1.map Wn.sp = gaps g (srt p) := Sess.uniq hg h1.ss hs1 fun t => srt_mem.symm
  have e2 : l2.map Wn.sp = gaps g (srt p) := Sess.uniq hg h2.ss hs1 fun t => by rw [srt_mem, List.mem_reverse]
  refine ⟨⟨hs1.ap, fun x hx => srt_mem.1 (hs1.st x hx), h1, h2, e1, e2, ?_⟩, ?_⟩
  · rw [← e1]; exact h1.ss.total hg
  · exact Sess.uniq hg hs2 hs1 fun t => by rw [srt_mem, srt_mem, List.mem_reverse]
theorem Ods.len {g : Int} {p : List Int} {m : List Sn} {l1 l2 : List Wn} (h : Ods g p m l1 l2) : l1.length = m.length ∧ l2.length = m.length := by
  constructor
  · rw [← h.e1]; simp
  · rw [← h.e2]; simp
end Go.Proofs.Ytjdfjaocidjhlaa
