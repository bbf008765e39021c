/- slices.Clone and slices.SortFunc at spans. -/
import Derived.Test.YtjdfjaocidjhlaaShelg
import Derived.Lib.SliceRun
namespace Go.Proofs.Ytjdfjaocidjhlaa
open Go.RowKit Go.Shelf Go.Sort

set_option maxRecDepth 100000 in
set_option maxHeartbeats 1000000 in
theorem clone_any (v : Value) (l : List Sn) (n : Nat) (hn : l.length = n) (hlen : n ≤ 10000) (w : World) (hr : Rd w v n (scells l)) :
    Calls Try.prog 38 #[v] w fun e w' => ∃ v', e = .returned v' ∧ w'.ownsRow w.heap.size 24 2 v' n (scells l) ∧ Below w.heap.size w w' := by
  obtain ⟨iS, hiS, hS0, hS1, hS2⟩ := info_parts spanInfo
  obtain ⟨a, cap, rfl, hc, hm, hcell⟩ := id hr
  cases a with
  | none =>
    have hn0 : n = 0 := by
      rcases Nat.eq_zero_or_pos n with h | h
      · exact h
      · obtain ⟨g, o, e, -⟩ := hcell h; cases e
    subst hn0
    have hl : l = [] := List.eq_nil_of_length_eq_zero hn
    subst hl
    have hq : ∀ W, (binOp .eql 51 (.slice none 0 cap) (.slice none 0 0)).run Try.prog W = .ok (.bool true) W := fun W => Lib.run_eql_slice_nil W _ _ none 0 cap 0 0 Try.underlying51
    clear hr hcell
    go_enter Try.func38, Try.ntmps38
    go_wp2
    go_ret
    exact ⟨_, rfl, World.ownsRow_nil _ _ _ _, Below.refl _ _⟩
  | some a =>
    have HR := Lib.hid (hr.below (below_alloc w (.cells #[] 24)))
    have HBA := Lib.hid (below_alloc w (.cells #[] 24))
    have HO : Hid ((w.alloc (.cells #[] 24)).ownsRow w.heap.size 24 2 (.slice (some ⟨w.heap.size, 0, none⟩) 0 0) 0 []) := own_lit w #[] 0 w.heap.size rfl (Nat.le_refl _) (by decide) rfl
    have hq : ∀ W, (binOp .eql 51 (.slice (some a) n cap) (.slice none 0 0)).run Try.prog W = .ok (.bool false) W := fun W => Lib.run_eql_slice_nil W _ _ (some a) n cap 0 0 Try.underlying51
    have HL : Hid ((scells l).length = n * 2) := by show _ = _; rw [scells_length, hn]
    clear hr hcell
    go_enter Try.func38, Try.ntmps38
    go_wp2_with (first
      | (at_builtin; refine wpList_append_rd _ rfl (.tmp 5) (.tmp 6) 51 rfl w.heap.size 24 iS _ 2 16 Try.underlying51 hiS hS0 hS1 hS2 rfl (by decide) _ 0 [] rfl HO.out _ n cap (scells l) rfl HL.out HR.out (scells_one _) (by simp only [maxLen]; omega) (by omega) (by simp) ?_; intro v5 w5 ho5 hg5 _
         have HO5 := Lib.hid ho5
         have HB5 := Lib.hid (HBA.out.grown hg5 (by simp) (fun r e => (HO.out.lt r e).1))
         clear ho5 hg5))
    go_ret
    have := HO5.out
    rw [Nat.zero_add] at this
    exact ⟨_, rfl, this, HB5.out⟩
theorem flat_scells (l : List Sn) [Inhabited Sn] : flatK Sn.cells 2 l.toArray = (scells l).toArray := by
  apply Array.ext
  · simp [scells_length]
  · intro t h1 h2
    have ht : t < l.length * 2 := by simpa using h1
    have hx : l[t / 2]? = some (l[t / 2]'(by omega)) := List.getElem?_eq_getElem (by omega)
    obtain ⟨y1, y2⟩ := scells_get hx
    have e1 : (flatK Sn.cells 2 l.toArray)[t] = (l[t / 2]'(by omega)).cells[t % 2]! := by
      have := get_flatK Sn.cells 2 l.toArray t (by simpa using ht)
      rw [getElem!_pos _ t h1] at this
      rw [this]
      congr 1
      simp [hx]
    have e2 : (scells l).toArray[t] = (scells l)[t]'(by simpa using h2) := by simp
    rw [e1, e2]
    have hm : t % 2 = 0 ∨ t % 2 = 1 := by omega
    rcases hm with h | h
    · have e3 : t = t / 2 * 2 := by omega
      have := (List.getElem?_eq_some_iff.1 y1).2
      rw [h]
      refine Eq.trans ?_ (Eq.trans this.symm ?_)
      · rfl
      · congr 1; omega
    · have := (List.getElem?_eq_some_iff.1 y2).2
      rw [h]
      refine Eq.trans ?_ (Eq.trans this.symm ?_)
      · rfl
      · congr 1; omega
section
variable {w : World} {g : Nat} {e : TypeId}
theorem heap_put {n : Nat} {os : Array Obj} {cur : Array Value} {fr : Nat × Nat} (d : Array Value) (hb : w.heap[g]? = some (.cells cur e fr)) :
    (grow (putRow id (Sort.ahead w n) g 0 d) os).heap[g]? = some (.cells (putCells id 0 d cur) e fr) := by
  have hg : g < w.heap.size := (Array.getElem?_eq_some_iff.1 hb).1
  rw [heap_grow_old _ _ (by simpa using hg)]
  simp [putRow, mapBlock, Sort.ahead, Array.getElem?_modify, hb, onCells]
theorem grownBy_put {n : Nat} {os : Array Obj} (d : Array Value) : w.grownBy (grow (putRow id (Sort.ahead w n) g 0 d) os) (some g) := by
  refine ⟨rfl, rfl, rfl, by simp, fun k hk hne => ?_⟩
  rw [heap_grow_old _ _ (by simpa using hk)]
  have : g ≠ k := fun e => hne (by rw [e])
  simp [putRow, mapBlock, Sort.ahead, Array.getElem?_modify, this]
theorem take_put (cur : Array Value) (ts : List Value) (h : ts.length ≤ cur.size) : (putCells id 0 ts.toArray cur).toList.take ts.length = ts := by
  apply List.ext_getElem?
  intro j
  by_cases hj : j < ts.length
  · rw [List.getElem?_take_of_lt hj, Array.getElem?_toList]
    simp [putCells, hj, show j < cur.size by omega]
  · rw [List.getElem?_take_eq_none (by omega), List.getElem?_eq_none (by omega)]
theorem own_put {base n k cap size : Nat} {os : Array Obj} {xs ys : List Value} (h : w.ownsRow base e size (.slice (some ⟨g, 0, none⟩) n cap) n xs) (hy : ys.length = n * size) :
    (grow (putRow id (Sort.ahead w k) g 0 ys.toArray) os).ownsRow base e size (.slice (some ⟨g, 0, none⟩) n cap) n ys := by
  refine ⟨hy, ?_⟩
  rcases h.2 with ⟨h1, -⟩ | ⟨g', cap', cur, h1, h2, h3, h4, h5, h6, h7⟩
  · cases h1
  · cases h1
    have hle : n * size ≤ cap * size := Nat.mul_le_mul_right _ h4
    refine .inr ⟨g, cap, _, rfl, h2, heap_put _ h3, h4, h5, by simp [putCells, h6], ?_⟩
    rw [← hy]; exact take_put cur ys (by omega)
end
set_option maxHeartbeats 1000000 in
theorem nan_any (a : Int) (w : World) : Calls Try.prog 50 #[.int .i64 a] w fun e w' => e = .returned (.bool false) ∧ w' = w := by
  have h : (a != a) = false := by simp
  go_enter Try.func50, Try.ntmps50
  go_wp2
  go_ret
  exact ⟨rfl, rfl⟩
set_option maxHeartbeats 1000000 in
theorem cmp_any (a b : Int) (w : World) : Calls Try.prog 42 #[.int .i64 a, .int .i64 b] w fun e w' => e = .returned (.int .i64 (Lib.compareInt a b)) ∧ w' = w := by
  have HC : Hid (Lib.compareInt a b = if a < b then -1 else if b < a then 1 else 0) := rfl
  generalize Lib.compareInt a b = c at HC
  by_cases h1 : a < b
  · have d1 : decide (a < b) = true := by simp [h1]
    obtain rfl : c = -1 := by rw [HC.out, if_pos h1]
    go_enter Try.func42, Try.ntmps42
    go_wp2_with (first | (go_at_call 50; (with_reducible refine (nan_any _ _).mono ?_); rintro e w1 ⟨rfl, rfl⟩))
    go_ret
    exact ⟨rfl, rfl⟩
  · have d1 : decide (a < b) = false := by simp; omega
    by_cases h2 : b < a
    · have d2 : decide (b < a) = true := by simp [h2]
      obtain rfl : c = 1 := by rw [HC.out, if_neg h1, if_pos h2]
      go_enter Try.func42, Try.ntmps42
      go_wp2_with (first | (go_at_call 50; (with_reducible refine (nan_any _ _).mono ?_); rintro e w1 ⟨rfl, rfl⟩))
      go_ret
      exact ⟨rfl, rfl⟩
    · have d2 : decide (b < a) = false := by simp; omega
      obtain rfl : c = 0 := by rw [HC.out, if_neg h1, if_neg h2]
      go_enter Try.func42, Try.ntmps42
      go_wp2_with (first | (go_at_call 50; (with_reducible refine (nan_any _ _).mono ?_); rintro e w1 ⟨rfl, rfl⟩))
      go_ret
      exact ⟨rfl, rfl⟩
set_option maxHeartbeats 1000000 in
theorem less_any (x y : Sn) (W : World) : Calls Try.prog 41 #[.agg x.cells.toArray, .agg y.cells.toArray] W fun e w' => e = .returned (.int .i64 (Lib.compareInt x.s y.s)) ∧ ∃ q os', w' = grow (W.drewN q) os' := by
  have hcon := fun W' => cmp_any x.s y.s W'
  generalize Lib.compareInt x.s y.s = r at hcon ⊢
  show Calls Try.prog 41 #[.agg #[.int .i64 x.s, .int .i64 x.e], .agg #[.int .i64 y.s, .int .i64 y.e]] W _
  go_enter Try.func41, Try.ntmps41
  go_wp2_with (first | (go_at_call 42; refine (hcon _).mono ?_; rintro e w' ⟨rfl, rfl⟩))
  go_ret
  exact ⟨rfl, 0, _, by rw [alloc_eq_grow, alloc_eq_grow, grow_grow]; rfl⟩
theorem ltStart (x y : Sn) : ltOf (fun x y : Sn => Lib.compareInt x.s y.s) x y = decide (x.s < y.s) := by
  unfold ltOf Lib.compareInt
  by_cases h1 : x.s < y.s
  · simp [h1]
  · by_cases h2 : y.s < x.s <;> simp [h1, h2]
theorem swoStart : SWO (ltOf fun x y : Sn => Lib.compareInt x.s y.s) where
  irrefl x := by rw [ltStart]; simp
  trans x y z h1 h2 := by rw [ltStart] at *; simp at *; omega
  ntrans x y z h1 h2 := by rw [ltStart] at *; simp at *; omega
theorem sort_any (base : Nat) (a : Option Addr) (n cap : Nat) (l : List Sn) (hn : l.length = n) (hlen : n ≤ 10000) (w : World) (hown : w.ownsRow base 24 2 (.slice a n cap) n (scells l)) (hbase : base ≤ w.heap.size) :
    Calls Try.prog 40 #[.slice a n cap, .func (.func 41) #[] #[]] w fun e w' => e = .returned (.tuple #[]) ∧ ∃ q : List Sn, q.length = n ∧ (∀ t, t ∈ q ↔ t ∈ l) ∧ q.Pairwise (fun a b => a.s ≤ b.s) ∧ w'.ownsRow base 24 2 (.slice a n cap) n (scells q) ∧ Below base w w' := by
  rcases Nat.eq_zero_or_pos n with h0 | h0
  · subst h0
    have hl : l = [] := List.eq_nil_of_length_eq_zero hn
    subst hl
    refine (AnyF.slices_SortFunc_none laysSortF a cap _ w).mono ?_
    rintro e w' ⟨rfl, rfl⟩
    exact ⟨rfl, [], rfl, by simp, List.Pairwise.nil, hown, Below.refl _ _⟩
  · obtain ⟨g, rfl, hg, hgl, -, -, hc, hf⟩ := ownsRow_at hown h0
    haveI : Inhabited Sn := ⟨⟨0, 0⟩⟩
    have eg : ∀ args w, (callFunc 41 args).run Try.prog w = .ok (.enter 41 args) w := enters_of Try.func41 (by kernel_rfl) rfl
    have hH : HoldsK Sn.cells 2 w g 0 l.toArray := by
      unfold HoldsK
      rw [flat_scells]
      intro j hj
      have hj' : j < (scells l).length := by simpa using hj
      refine ⟨?_, hf _⟩
      rw [Nat.zero_add]
      exact (hc j _ (List.getElem?_eq_getElem hj')).trans (by simp [hj'])
    have hcon := AnyQ.slices_SortFunc laysSortF 2 Try.isAgg24 Try.sizeOf24 Sn.cells (fun _ => rfl) (fun x v hv => by simp [Sn.cells] at hv; rcases hv with rfl | rfl <;> rfl) (fun x y : Sn => Lib.compareInt x.s y.s) swoStart 41 #[] g 0 cap l.toArray w eg (fun _ _ _ _ x y => less_any x y _) hH hgl (by simp; omega)
    have hsz : l.toArray.size = n := by simpa using hn
    rw [hsz] at hcon
    refine Calls.mono hcon ?_
    rintro e w' ⟨rfl, d', k, os, hp, hs, rfl⟩
    obtain ⟨hp1, -, hp3⟩ := hp
    obtain ⟨q⟩ := d'
    have hql : q.length = n := by simpa [hn] using hp1
    have hperm : q.Perm l := by
      have h1 : ((⟨q⟩ : Array Sn).extract 0 n).toList = q := by simp [← hql]
      have h2 : (l.toArray.extract 0 n).toList = l := by simp [← hn]
      rwa [h1, h2] at hp3
    refine ⟨rfl, q, hql, fun t => hperm.mem_iff, ?_, ?_, ?_⟩
    · rw [List.pairwise_iff_getElem]
      intro i j hi hj hij
      have := hs i j (Nat.zero_le _) hij (by omega)
      rw [ltStart] at this
      simp [hi, hj] at this
      exact this
    · unfold sortWorldK putRowK
      have e1 : flatK Sn.cells 2 (⟨q⟩ : Array Sn) = (scells q).toArray := flat_scells q
      rw [e1]
      exact own_put hown (by rw [scells_length, hql])
    · unfold sortWorldK putRowK
      exact (Below.refl _ _).grown (grownBy_put _) hbase (fun b hb => by cases hb; exact hg)
end Go.Proofs.Ytjdfjaocidjhlaa
