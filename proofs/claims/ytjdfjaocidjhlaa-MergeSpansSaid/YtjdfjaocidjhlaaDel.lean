/- slices.IndexFunc and slices.DeleteFunc at spans, with the closure that tells an empty one. -/
import Derived.Test.YtjdfjaocidjhlaaUrf
import Derived.Laws.IdiomCopy
namespace Go.Proofs.Ytjdfjaocidjhlaa
open Go.RowKit Go.Shelf

def emp (x : Sn) : Bool := decide (x.e ≤ x.s)
set_option maxHeartbeats 1000000 in
theorem clo_any (s e : Int) (w : World) : Calls Try.prog 39 #[.agg #[.int .i64 s, .int .i64 e]] w fun e' w' => e' = .returned (.bool (decide (e ≤ s))) ∧ Below w.heap.size w w' := by
  have fin := Lib.hid (below_alloc w (.cells #[.int .i64 s, .int .i64 e] 24))
  go_enter Try.func39, Try.ntmps39
  go_wp2
  go_ret
  exact ⟨rfl, fin.out⟩
set_option maxRecDepth 100000 in
set_option maxHeartbeats 2000000 in
theorem index_any (a : Option Addr) (n cap : Nat) (l : List Sn) (hn : l.length = n) (w : World) (hr : Rd w (.slice a n cap) n (scells l)) :
    Calls Try.prog 47 #[.slice a n cap, .func (.func 39) #[] #[]] w fun e w' => Below w.heap.size w w' ∧
      ((e = .returned (.int .i64 (-1)) ∧ ∀ x ∈ l, emp x = false) ∨ ∃ (i : Nat) (x : Sn), l[i]? = some x ∧ emp x = true ∧ (∀ (j : Nat) (y : Sn), j < i → l[j]? = some y → emp y = false) ∧ e = .returned (.int .i64 (i : Int)) ∧ i < n) := by
  obtain ⟨_, _, hv, hc, hm, hcell⟩ := id hr
  cases hv
  unfold maxLen at hm
  have HCE := Lib.hid hcell
  have HN := Lib.hid hn
  clear hr hcell hn
  go_enter Try.func47, Try.ntmps47
  go_wp2
  go_loopw [8] (fun i wr => ∃ k : Nat, i = .int .i64 k ∧ k ≤ n ∧ Hid (∀ (j : Nat) (y : Sn), j < k → l[j]? = some y → emp y = false) ∧ Below w.heap.size w wr) (fun i _ => n - (intOf i).toNat)
  case atStart => exact ⟨0, rfl, Nat.zero_le _, fun j y h => absurd h (Nat.not_lt_zero _), Below.refl _ _⟩
  case round =>
    obtain ⟨k, rfl, hk, hlow, hb⟩ := hrel
    have HB := Lib.hid hb
    by_cases hlt : k < n
    · obtain ⟨g, o, rfl, hg, hx⟩ := HCE.out (by omega)
      obtain ⟨y, hy⟩ : ∃ y, l[k]? = some y := ⟨_, List.getElem?_eq_getElem (by have := HN.out; omega)⟩
      have c0 := (hb.cell (p := ⟨g, o + k * 2, none⟩) hg).trans (hx _ _ (scells_get hy).1)
      have c1 := (hb.cell (p := ⟨g, o + (k * 2 + 1), none⟩) hg).trans (hx _ _ (scells_get hy).2)
      rw [← Nat.add_assoc] at c1
      have hgr : g < wr.heap.size := by have := hb.size; omega
      have HY := Lib.hid hy
      clear hx hy hb
      have hsz := HB.out.size
      by_cases hys : y.e ≤ y.s
      · have hyd : decide (y.e ≤ y.s) = true := by simp [hys]
        go_wp2_with (first | (go_at_call 39; (with_reducible refine (clo_any _ _ _).mono ?_); rintro e w1 ⟨rfl, hb1⟩))
        go_ret
        exact ⟨HB.out.trans (hb1.mono hsz), .inr ⟨k, y, HY.out, hyd, hlow.out, rfl, hlt⟩⟩
      · have hyd : decide (y.e ≤ y.s) = false := by simp; omega
        go_wp2_with (first | (go_at_call 39; (with_reducible refine (clo_any _ _ _).mono ?_); rintro e w1 ⟨rfl, hb1⟩))
        go_roundw
        case rel =>
          refine ⟨k + 1, by go_num, by omega, fun j z hj hz => ?_, HB.out.trans (hb1.mono hsz)⟩
          by_cases h : j < k
          · exact hlow.out j z h hz
          · obtain rfl : j = k := by omega
            have := HY.out.symm.trans hz; cases this; exact hyd
        case measure => simp [intOf]; omega
    · obtain rfl : k = n := by omega
      clear hb
      go_wp2
      go_ret
      exact ⟨HB.out, .inl ⟨rfl, fun x hx => by
        obtain ⟨j, hj⟩ := List.getElem?_of_mem hx
        exact hlow.out j x (by have := (List.getElem?_eq_some_iff.1 hj).1; have := HN.out; omega) hj⟩⟩
/-- A row's first elements are a row. -/
theorem own_front {w : World} {base : Nat} {e : TypeId} {size n k g cap : Nat} {xs : List Value} (h : w.ownsRow base e size (.slice (some ⟨g, 0, none⟩) n cap) n xs) (hk : k ≤ n) : w.ownsRow base e size (.slice (some ⟨g, 0, none⟩) k cap) k (xs.take (k * size)) := by
  have hks : k * size ≤ n * size := Nat.mul_le_mul_right _ hk
  refine ⟨by rw [List.length_take, h.1]; omega, ?_⟩
  rcases h.2 with ⟨h1, -⟩ | ⟨g', cap', cur, h1, h2, h3, h4, h5, h6, h7⟩
  · cases h1
  · cases h1
    refine .inr ⟨g, cap, cur, rfl, h2, h3, by omega, h5, h6, ?_⟩
    rw [← h7, List.take_take]; congr 1; omega
theorem own_setCells {base : Nat} {e : TypeId} {size n g cap : Nat} : ∀ (vs : List Value) (o : Nat) (w : World) (xs : List Value), w.ownsRow base e size (.slice (some ⟨g, 0, none⟩) n cap) n xs →
    ∃ ys, (w.setCells g o vs).ownsRow base e size (.slice (some ⟨g, 0, none⟩) n cap) n ys ∧ (∀ m, m ≤ o → ys.take m = xs.take m) ∧ w.grownBy (w.setCells g o vs) (some g)
  | [], o, w, xs, h => ⟨xs, h, fun _ _ => rfl, only_refl _ _⟩
  | v :: vs, o, w, xs, h => by
    obtain ⟨h1, h2⟩ := h.stored o v
    obtain ⟨ys, h3, h4, h5⟩ := own_setCells vs (o + 1) _ _ h1
    refine ⟨ys, h3, fun m hm => ?_, only_step h2 h5 fun b hb => .inl hb⟩
    rw [h4 m (by omega), List.take_set_of_le (by omega)]
theorem run_front_at (g z n cap : Nat) (hz : z ≤ n) (hn : n ≤ cap) (W : World) :
    (Instr.sliceAt 51 (.slice (some ⟨g, 0, none⟩) n cap) none (some (.int .i64 (z : Int))) none).run Try.prog W = .ok (.slice (some ⟨g, 0, none⟩) z cap) W := by
  rw [run_sliceAt_slice _ _ _ _ _ _ spSl, run_slice_h _ _ _ _ _ spSl _ _ (by omega) (by omega)]
  simp only [Int.toNat_natCast, spSz, Result.andThen_ok]
  unfold sliced
  by_cases h : cap = 0
  · subst h; simp
  · rw [if_neg h]; simp [Addr.add]
theorem run_back_at (g f n cap : Nat) (hf : f < n) (hn : n ≤ cap) (W : World) :
    (Instr.sliceAt 51 (.slice (some ⟨g, 0, none⟩) n cap) (some (.int .i64 (f : Int))) none none).run Try.prog W = .ok (.slice (some ⟨g, f * 2, none⟩) (n - f) (cap - f)) W := by
  rw [run_sliceAt_slice _ _ _ _ _ _ spSl, run_slice_l _ _ _ _ _ spSl _ _ (by omega) (by omega)]
  simp only [Int.toNat_natCast, spSz, Result.andThen_ok]
  unfold sliced
  rw [if_neg (by omega)]; simp [addr_add]
theorem zero_cells (n : Nat) : (Builtin.zeroCells (Value.cells (.agg #[.int .i64 0, .int .i64 0])) n).toList = List.replicate (n * 2) (.int .i64 0) := by
  apply List.ext_getElem
  · simp [Builtin.zeroCells, Value.cells]
  · intro i h1 h2
    simp [Builtin.zeroCells, Value.cells]
    have : i % 2 = 0 ∨ i % 2 = 1 := by omega
    rcases this with h | h <;> simp [h]
theorem run_clear2 (w : World) (ty : TypeId) (g o n c : Nat) (hn : 0 < n) (hc : ∀ j, j < n * 2 → (w.cell? ⟨g, o + j, none⟩).isSome = true) (hf : ∀ j, j < n * 2 → w.frozen? ⟨g, o + j, none⟩ = false) :
    (Builtin.clear_ #[51] ty #[.slice (some ⟨g, o, none⟩) n c]).run Try.prog w = .ok (.tuple #[]) (w.setCells g o (List.replicate (n * 2) (.int .i64 0))) := by
  have hst := run_storeCells_cells (P := Try.prog) g o (List.replicate (n * 2) (.int .i64 0)) 0 w (by simpa using hc) (by simpa using hf) (by intro v hv'; rw [List.eq_of_mem_replicate hv']; rfl)
  simp only [Nat.add_zero] at hst
  obtain ⟨m, rfl⟩ : ∃ m, n = m + 1 := ⟨n - 1, by omega⟩
  simp [Builtin.clear_, run_underlying Try.underlying51, Try.zeroValue24, zero_cells, hst]
def kept (l : List Sn) : List Sn := l.filter fun x => !emp x
/-- Where DeleteFunc's loop stands. -/
structure Dl (base g n cap : Nat) (l : List Sn) (w W : World) (k j : Nat) : Prop where
  lt : k < j
  le : j ≤ n
  below : Below base w W
  row : ∃ xs, W.ownsRow base 24 2 (.slice (some ⟨g, 0, none⟩) n cap) n xs ∧ xs.take (k * 2) = scells (kept (l.take j)) ∧ xs.drop (j * 2) = scells (l.drop j)
  len : (kept (l.take j)).length = k
theorem Dl.next {base g n cap k j : Nat} {l : List Sn} {w W W' : World} (h : Dl base g n cap l w W k j) (hb : Below W.heap.size W W') (hbase : base ≤ w.heap.size) : Dl base g n cap l w W' k j := by
  obtain ⟨xs, h1, h2, h3⟩ := h.row
  exact ⟨h.lt, h.le, h.below.trans (hb.mono (by have := h.below.size; omega)), ⟨xs, own_below h1 hb, h2, h3⟩, h.len⟩
theorem Dl.cells {base g n cap k j : Nat} {l : List Sn} {w W : World} (h : Dl base g n cap l w W k j) {y : Sn} (hy : l[j]? = some y) (hn : l.length = n) :
    W.cell? ⟨g, j * 2, none⟩ = some (.int .i64 y.s) ∧ W.cell? ⟨g, j * 2 + 1, none⟩ = some (.int .i64 y.e) ∧ g < W.heap.size ∧ base ≤ g ∧ (∀ i, W.frozen? ⟨g, i, none⟩ = false) ∧ (∃ u u', W.cell? ⟨g, k * 2, none⟩ = some u ∧ W.cell? ⟨g, k * 2 + 1, none⟩ = some u') := by
  obtain ⟨xs, h1, h2, h3⟩ := h.row
  have hjn : j < n := by have := (List.getElem?_eq_some_iff.1 hy).1; omega
  obtain ⟨g', e, hg, hgl, -, -, hc, hf⟩ := ownsRow_at h1 (by omega)
  cases e
  have hd : l.drop j = y :: l.drop (j + 1) := by rw [List.drop_eq_getElem_cons (by omega), (List.getElem?_eq_some_iff.1 hy).2]
  have e1 : (xs.drop (j * 2))[0]? = some (.int .i64 y.s) := by rw [h3, hd]; rfl
  have e2 : (xs.drop (j * 2))[1]? = some (.int .i64 y.e) := by rw [h3, hd]; rfl
  rw [List.getElem?_drop] at e1 e2
  have hlt := h.lt
  obtain ⟨u, hu⟩ := ownsRow_cell h1 (j := k * 2) (by omega)
  obtain ⟨u', hu'⟩ := ownsRow_cell h1 (j := k * 2 + 1) (by omega)
  exact ⟨hc _ _ e1, hc _ _ e2, hgl, hg, hf, u, u', hc _ _ hu, hc _ _ hu'⟩
theorem kept_snoc {l : List Sn} {j : Nat} {y : Sn} (hy : l[j]? = some y) : kept (l.take (j + 1)) = kept (l.take j) ++ (if emp y = true then [] else [y]) := by
  rw [List.take_add_one, hy]
  unfold kept
  rw [List.filter_append]
  by_cases h : emp y = true <;> simp [h]
theorem scells_drop2 {l : List Sn} {j : Nat} (h : j < l.length) : (scells (l.drop j)).drop 2 = scells (l.drop (j + 1)) := by
  have hd : l.drop j = l[j] :: l.drop (j + 1) := List.drop_eq_getElem_cons h
  rw [hd]; rfl
theorem Dl.skip {base g n cap k j : Nat} {l : List Sn} {w W : World} (h : Dl base g n cap l w W k j) {y : Sn} (hy : l[j]? = some y) (hn : l.length = n) (he : emp y = true) : Dl base g n cap l w W k (j + 1) := by
  obtain ⟨xs, h1, h2, h3⟩ := h.row
  have hjn : j < n := by have := (List.getElem?_eq_some_iff.1 hy).1; omega
  have hk := kept_snoc hy
  rw [if_pos he, List.append_nil] at hk
  refine ⟨by have := h.lt; omega, hjn, h.below, ⟨xs, h1, by rw [hk]; exact h2, ?_⟩, by rw [hk]; exact h.len⟩
  have := congrArg (List.drop 2) h3
  rw [List.drop_drop] at this
  rw [show (j + 1) * 2 = j * 2 + 2 by omega, this, scells_drop2 (by omega)]
theorem Dl.put {base g n cap k j : Nat} {l : List Sn} {w W : World} (h : Dl base g n cap l w W k j) {y : Sn} (hy : l[j]? = some y) (hn : l.length = n) (he : emp y = false) (hg : base ≤ g) : Dl base g n cap l w ((W.setCell ⟨g, k * 2, none⟩ (.int .i64 y.s)).setCell ⟨g, k * 2 + 1, none⟩ (.int .i64 y.e)) (k + 1) (j + 1) := by
  obtain ⟨xs, h1, h2, h3⟩ := h.row
  have hjn : j < n := by have := (List.getElem?_eq_some_iff.1 hy).1; omega
  have hlt := h.lt
  have hk := kept_snoc hy
  rw [if_neg (by simp [he])] at hk
  have o1 := ownsRow_set (j := k * 2) h1 (.int .i64 y.s)
  have o2 := ownsRow_set (j := k * 2 + 1) o1 (.int .i64 y.e)
  have hxl : xs.length = n * 2 := h1.1
  refine ⟨by omega, hjn, (h.below.setCell hg _).setCell hg _, ⟨_, o2, ?_, ?_⟩, by rw [hk, List.length_append, h.len]; rfl⟩
  · rw [hk, scells_append, ← h2, show (k + 1) * 2 = k * 2 + 1 + 1 by omega]
    apply List.ext_getElem?
    intro i
    have hls : (xs.take (k * 2)).length = k * 2 := by rw [List.length_take]; omega
    rw [List.getElem?_take]
    by_cases h1 : i < k * 2
    · rw [if_pos (by omega), List.getElem?_append_left (by omega), List.getElem?_take_of_lt h1, List.getElem?_set_ne (by omega), List.getElem?_set_ne (by omega)]
    · rw [List.getElem?_append_right (by omega), hls]
      by_cases h3 : i = k * 2
      · subst h3
        rw [if_pos (by omega), List.getElem?_set_ne (by omega), List.getElem?_set_self (by omega), Nat.sub_self]; rfl
      · by_cases h4 : i = k * 2 + 1
        · subst h4
          rw [if_pos (by omega), List.getElem?_set_self (by rw [List.length_set]; omega), show k * 2 + 1 - k * 2 = 1 by omega]; rfl
        · rw [if_neg (by omega), List.getElem?_eq_none]
          show 2 ≤ _; omega
  · rw [List.drop_set_of_lt (by omega), List.drop_set_of_lt (by omega)]
    have := congrArg (List.drop 2) h3
    rw [List.drop_drop] at this
    rw [show (j + 1) * 2 = j * 2 + 2 by omega, this, scells_drop2 (by omega)]
theorem Dl.first {base g n cap i : Nat} {l : List Sn} {w W : World} (hown : W.ownsRow base 24 2 (.slice (some ⟨g, 0, none⟩) n cap) n (scells l)) (hn : l.length = n) (hb : Below base w W) {x : Sn} (hx : l[i]? = some x) (he : emp x = true) (hlow : ∀ (j : Nat) (y : Sn), j < i → l[j]? = some y → emp y = false) : Dl base g n cap l w W i (i + 1) := by
  have hin : i < n := by have := (List.getElem?_eq_some_iff.1 hx).1; omega
  have hall : kept (l.take i) = l.take i := List.filter_eq_self.2 fun y hy => by
    obtain ⟨j, hj⟩ := List.getElem?_of_mem hy
    rw [List.getElem?_take] at hj
    split at hj
    · rename_i h1
      rw [hlow j y h1 hj]; rfl
    · cases hj
  have hk := kept_snoc hx
  rw [if_pos he, List.append_nil, hall] at hk
  refine ⟨by omega, hin, hb, ⟨_, hown, by rw [hk, (scells_cut l i).1], by rw [(scells_cut l (i + 1)).2]⟩, by rw [hk]; simp; omega⟩
set_option maxRecDepth 100000 in
set_option maxHeartbeats 4000000 in
theorem delete_any (base : Nat) (a : Option Addr) (n cap : Nat) (l : List Sn) (hn : l.length = n) (hlen : n ≤ 10000) (w : World) (hbase : base ≤ w.heap.size) (hown : w.ownsRow base 24 2 (.slice a n cap) n (scells l)) :
    Calls Try.prog 37 #[.slice a n cap, .func (.func 39) #[] #[]] w fun e w' => ∃ v', e = .returned v' ∧ w'.ownsRow base 24 2 v' (kept l).length (scells (kept l)) ∧ Below base w w' := by
  have HIX := Lib.hid (index_any a n cap l hn w (Rd.of_owns hown))
  have HO := Lib.hid hown
  have HN := Lib.hid hn
  have hi1 : ∀ i : Nat, ((i : Int) == -1) = false := fun i => by simp
  clear hown hn
  go_enter Try.func37, Try.ntmps37
  go_wp2_with (first | (go_at_call 47; (with_reducible refine HIX.out.mono ?_); rintro e w1 ⟨hb1, ⟨rfl, hall⟩ | ⟨i, x, hx, he, hlow, rfl, hin⟩⟩))
  · have HB1 := Lib.hid hb1
    have HA := Lib.hid hall
    clear hb1 hall
    go_wp2
    go_ret
    have hk : kept l = l := List.filter_eq_self.2 fun y hy => by rw [HA.out y hy]; rfl
    rw [hk, HN.out]
    exact ⟨_, rfl, own_below HO.out HB1.out, HB1.out.mono hbase⟩
  · obtain ⟨g, rfl, hgb, -, hcn, hcm, -, -⟩ := ownsRow_at HO.out (by omega)
    unfold maxLen at hcm
    have DL : Hid (Dl base g n cap l w w1 i (i + 1)) := Dl.first (own_below HO.out hb1) HN.out (hb1.mono hbase) hx he hlow
    clear hx he hlow hb1 HIX
    go_wp2
    go_loopw [5, 6] (fun v5 v6 wr => ∃ k j : Nat, v5 = .int .i64 k ∧ v6 = .int .i64 j ∧ Dl base g n cap l w wr k j) (fun _ v6 _ => n - (intOf v6).toNat)
    case atStart => exact ⟨i, i + 1, rfl, by go_num, DL.out⟩
    case round =>
      obtain ⟨k, j, rfl, rfl, hd⟩ := hrel
      have HD := Lib.hid hd
      have hkj := hd.lt
      have hjn := hd.le
      by_cases hlt : j < n
      · obtain ⟨y, hy⟩ : ∃ y, l[j]? = some y := ⟨_, List.getElem?_eq_getElem (by have := HN.out; omega)⟩
        obtain ⟨c0, c1, hgl, -, -, -⟩ := hd.cells hy HN.out
        have HY := Lib.hid hy
        have HBA := Lib.hid (below_alloc wr (.cells #[.int .i64 y.s, .int .i64 y.e] 24))
        clear hd hy
        by_cases hys : y.e ≤ y.s
        · have hyd : decide (y.e ≤ y.s) = true := by simp [hys]
          go_wp2_with (first | (go_at_call 39; (with_reducible refine (clo_any _ _ _).mono ?_); rintro e w2 ⟨rfl, hb2⟩
                                have HD2 := Lib.hid (HD.out.next (HBA.out.trans (hb2.mono HBA.out.size)) hbase)
                                clear hb2))
          go_roundw
          case rel => exact ⟨k, j + 1, rfl, by go_num, HD2.out.skip HY.out HN.out hyd⟩
          case measure => simp [intOf]; omega
        · have hyd : decide (y.e ≤ y.s) = false := by simp; omega
          go_wp2_with (first | (go_at_call 39; (with_reducible refine (clo_any _ _ _).mono ?_); rintro e w2 ⟨rfl, hb2⟩
                                have HD2 := Lib.hid (HD.out.next (HBA.out.trans (hb2.mono HBA.out.size)) hbase)
                                have x0 : w2.cell? ⟨wr.heap.size, 0, none⟩ = some (.int .i64 y.s) := (hb2.cell (p := ⟨wr.heap.size, 0, none⟩) (by simp)).trans (by go_simp)
                                have x1 : w2.cell? ⟨wr.heap.size, 1, none⟩ = some (.int .i64 y.e) := (hb2.cell (p := ⟨wr.heap.size, 1, none⟩) (by simp)).trans (by go_simp)
                                obtain ⟨-, -, hg2, -, hfr2, u0, u1, ik, ik'⟩ := HD2.out.cells HY.out HN.out
                                have f0 := hfr2 (k * 2)
                                have f1 := hfr2 (k * 2 + 1)
                                have hs2 : wr.heap.size < w2.heap.size := by have := hb2.size; simp at this; omega
                                clear hb2 hfr2))
          go_roundw
          case rel => exact ⟨k + 1, j + 1, by go_num, by go_num, HD2.out.put HY.out HN.out hyd hgb⟩
          case measure => simp [intOf]; omega
      · obtain rfl : j = n := by omega
        have hsB := run_back_at g k j cap hkj hcn
        have hsA := run_front_at g k j cap (by omega) hcn
        obtain ⟨xs, h1, h2, h3⟩ := hd.row
        obtain ⟨g', e', -, hgl, -, -, hc, hf⟩ := ownsRow_at h1 (by omega)
        cases e'
        have hcl : ∀ ty, (Builtin.clear_ #[51] ty #[.slice (some ⟨g, k * 2, none⟩) (j - k) (cap - k)]).run Try.prog wr = .ok (.tuple #[]) (wr.setCells g (k * 2) (List.replicate ((j - k) * 2) (.int .i64 0))) := fun ty => run_clear2 wr ty g (k * 2) (j - k) (cap - k) (by omega) (fun i hi => by
          obtain ⟨u, hu⟩ := ownsRow_cell h1 (j := k * 2 + i) (by omega)
          rw [hc _ _ hu]; rfl) fun i _ => hf _
        obtain ⟨ys, o2, o3, o4⟩ := own_setCells (List.replicate ((j - k) * 2) (.int .i64 0)) (k * 2) wr xs h1
        have HOY := Lib.hid (own_front o2 (k := k) (by omega))
        have HYS := Lib.hid ((o3 (k * 2) (Nat.le_refl _)).trans h2)
        have HBE : Hid (Below base w (wr.setCells g (k * 2) (List.replicate ((j - k) * 2) (.int .i64 0)))) := hd.below.grown o4 (by have := hd.below.size; omega) (fun b hb => by cases hb; exact hgb)
        generalize wr.setCells g (k * 2) (List.replicate ((j - k) * 2) (.int .i64 0)) = W2 at *
        clear hd h1 h2 h3 hc hf o2 o3 o4
        go_wp2
        go_ret
        have hlen' := HD.out.len
        rw [show l.take j = l by rw [← HN.out, List.take_length]] at hlen'
        refine ⟨_, rfl, ?_, HBE.out⟩
        have := HOY.out
        rw [HYS.out, show l.take j = l by rw [← HN.out, List.take_length]] at this
        rw [hlen']; exact this
end Go.Proofs.Ytjdfjaocidjhlaa
