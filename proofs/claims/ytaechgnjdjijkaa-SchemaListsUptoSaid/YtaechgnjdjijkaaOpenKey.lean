/- Jobs, windows and keys' states that came in; the bound on what came in. -/
import Derived.Test.YtaechgnjdjijkaaData
import Derived.Test.YtaechgnjdjijkaaGets
import Derived.JoinedCond
namespace Go.Proofs.Ytaechgnjdjijkaa
open Go.ChangeShapes Go.WideShapes Go.ChangeAt Go.RowKit Go.Deep
open Go.ChangeMaps (open_string shut_string)

section
variable {H : Type} {enc : TypeId × Value → H}
theorem bulk_one (d : DataW H) : 1 ≤ Rows.uptoBulk d := by
  cases d with
  | lit l => cases l <;> simp [Rows.uptoBulk]
  | nil => simp [Rows.uptoBulk]
  | ptr d => simp [Rows.uptoBulk]
  | slice elems spare => simp [Rows.uptoBulk]
  | agg parts => simp [Rows.uptoBulk]
  | iface t d => simp [Rows.uptoBulk]
  | map entries => simp [Rows.uptoBulk]
  | held h => simp [Rows.uptoBulk]
theorem bulk_len : ∀ (l : List (DataW H)), l.length ≤ Rows.uptoBulkAll l
  | [] => by simp [Rows.uptoBulkAll]
  | x :: r => by
    have := bulk_one x
    have := bulk_len r
    simp only [Rows.uptoBulkAll, List.length_cons]
    omega
theorem bulk_mem {d : DataW H} : ∀ {l : List (DataW H)}, d ∈ l → Rows.uptoBulk d ≤ Rows.uptoBulkAll l
  | x :: r, h => by
    simp only [Rows.uptoBulkAll]
    rcases List.mem_cons.1 h with rfl | h'
    · omega
    · have := bulk_mem h'; omega
theorem bulk_slice (es sp : List (DataW H)) : es.length + 1 ≤ Rows.uptoBulk (.slice es sp) := by
  have := bulk_len es
  simp only [Rows.uptoBulk]
  omega
theorem bulk_in {d : DataW H} {es sp : List (DataW H)} (h : d ∈ es) : Rows.uptoBulk d ≤ Rows.uptoBulk (.slice es sp) := by
  have := bulk_mem h
  simp only [Rows.uptoBulk]
  omega
theorem len_bulk {d : DataW H} {len : Nat} (h : (d = .nil ∧ len = 0) ∨ ∃ es sp, d = .slice es sp ∧ es.length = len) : len + 1 ≤ Rows.uptoBulk d := by
  rcases h with ⟨rfl, rfl⟩ | ⟨es, sp, rfl, rfl⟩
  · simp [Rows.uptoBulk]
  · exact bulk_slice es sp
theorem in64_bd {a : Int} (h : (Lit.int .i64 a).wf = true) : In64 a := i64_bd h
set_option maxRecDepth 100000 in
/-- A job, by value. -/
theorem open_job {W : World} {v : Value} {d : DataW H} {p : List MemPlace} {base b0 : Nat} {spare : Nat → Bool} {held : Bool} (hv : Value.okWide Try.prog W .any b0 24 v) (h : DataW.Trod enc Try.prog W base spare held 24 v d p) :
    ∃ c : Cf, v = c.val ∧ c.Fit := by
  unfold Value.okWide at hv
  rw [Try.underlying24] at hv
  obtain ⟨cs, rfl, hsz, -⟩ := hv
  have hs : cs.size = 10 := hsz.trans (by kernel_rfl)
  obtain ⟨l⟩ := cs
  obtain ⟨fuel, hf⟩ := h
  obtain ⟨x0, e0, w0⟩ := leaf_int (d := 3) (k := .i64) 0 hf (by kernel_rfl)
  obtain ⟨x1, e1, w1⟩ := leaf_int (d := 3) (k := .i64) 1 hf (by kernel_rfl)
  obtain ⟨x2, e2, w2⟩ := leaf_int (d := 3) (k := .i64) 2 hf (by kernel_rfl)
  obtain ⟨x3, e3, w3⟩ := leaf_int (d := 3) (k := .i64) 3 hf (by kernel_rfl)
  obtain ⟨x4, e4, w4⟩ := leaf_int (d := 3) (k := .i64) 4 hf (by kernel_rfl)
  obtain ⟨x5, e5, w5⟩ := leaf_int (d := 3) (k := .i64) 5 hf (by kernel_rfl)
  obtain ⟨x6, e6, w6⟩ := leaf_int (d := 3) (k := .i64) 6 hf (by kernel_rfl)
  obtain ⟨x7, e7, w7⟩ := leaf_int (d := 3) (k := .i64) 7 hf (by kernel_rfl)
  obtain ⟨x8, e8, w8⟩ := leaf_int (d := 3) (k := .i64) 8 hf (by kernel_rfl)
  obtain ⟨x9, e9⟩ := leaf_bool (d := 3) 9 hf (by kernel_rfl)
  match l, hs with
  | [c0, c1, c2, c3, c4, c5, c6, c7, c8, c9], _ =>
    simp [Value.cells] at e0 e1 e2 e3 e4 e5 e6 e7 e8 e9
    subst e0 e1 e2 e3 e4 e5 e6 e7 e8 e9
    exact ⟨⟨x0, x1, x2, x3, x4, x5, x6, x7, x8, x9⟩, rfl, ⟨in64_bd w0, in64_bd w1, in64_bd w2, in64_bd w3, in64_bd w4, in64_bd w5, in64_bd w6, in64_bd w7, in64_bd w8⟩⟩
set_option maxRecDepth 100000 in
/-- A window's cells. -/
theorem open_win {W : World} {fuel : Nat} {cs : List Value} {x : DataW H × List MemPlace} {base : Nat} {spare : Nat → Bool} {held : Bool} (hf : DataW.trod enc Try.prog W base spare held fuel 93 cs = some x) :
    ∃ y : Wn, y.Fit ∧ ∀ (j : Nat) (u : Value), y.cells[j]? = some u → cs[j]? = some u := by
  obtain ⟨x0, e0, w0⟩ := leaf_int (d := 3) (k := .i64) 0 hf (by kernel_rfl)
  obtain ⟨x1, e1, w1⟩ := leaf_int (d := 3) (k := .i64) 1 hf (by kernel_rfl)
  obtain ⟨x2, e2, w2⟩ := leaf_int (d := 3) (k := .i64) 2 hf (by kernel_rfl)
  obtain ⟨x3, e3, w3⟩ := leaf_int (d := 3) (k := .i64) 3 hf (by kernel_rfl)
  obtain ⟨x4, e4, w4⟩ := leaf_int (d := 3) (k := .i64) 4 hf (by kernel_rfl)
  obtain ⟨x5, e5, w5⟩ := leaf_int (d := 3) (k := .i64) 5 hf (by kernel_rfl)
  obtain ⟨x6, e6, w6⟩ := leaf_int (d := 3) (k := .i64) 6 hf (by kernel_rfl)
  obtain ⟨x7, e7, w7⟩ := leaf_int (d := 3) (k := .i64) 7 hf (by kernel_rfl)
  obtain ⟨x8, e8, w8⟩ := leaf_int (d := 3) (k := .i64) 8 hf (by kernel_rfl)
  refine ⟨⟨x0, x1, x2, x3, x4, x5, x6, x7, x8⟩, ⟨in64_bd w0, in64_bd w1, in64_bd w2, in64_bd w3, in64_bd w4, in64_bd w5, in64_bd w6, in64_bd w7, in64_bd w8⟩, fun j u hj => ?_⟩
  have hj9 : j < 9 := (List.getElem?_eq_some_iff.1 hj).1
  have : j = 0 ∨ j = 1 ∨ j = 2 ∨ j = 3 ∨ j = 4 ∨ j = 5 ∨ j = 6 ∨ j = 7 ∨ j = 8 := by omega
  rcases this with rfl | rfl | rfl | rfl | rfl | rfl | rfl | rfl | rfl
  · exact e0.trans hj
  · exact e1.trans hj
  · exact e2.trans hj
  · exact e3.trans hj
  · exact e4.trans hj
  · exact e5.trans hj
  · exact e6.trans hj
  · exact e7.trans hj
  · exact e8.trans hj
theorem wn_cells_length (y : Wn) : y.cells.length = 9 := rfl
theorem wcells_get {l : List Wn} {j : Nat} {u : Value} (h : (wcells l)[j]? = some u) : ∃ k i y, j = k * 9 + i ∧ i < 9 ∧ l[k]? = some y ∧ y.cells[i]? = some u := by
  have hj : j < l.length * 9 := by rw [← wcells_length]; exact (List.getElem?_eq_some_iff.1 h).1
  obtain ⟨y, hy⟩ : ∃ y, l[j / 9]? = some y := ⟨_, List.getElem?_eq_getElem (by omega)⟩
  refine ⟨j / 9, j % 9, y, by omega, by omega, hy, ?_⟩
  obtain ⟨u', hu'⟩ : ∃ u', y.cells[j % 9]? = some u' := ⟨_, List.getElem?_eq_getElem (by rw [wn_cells_length]; omega)⟩
  have := wcells_at l _ y hy _ _ hu'
  rw [show j / 9 * 9 + j % 9 = j by omega, h] at this
  rw [hu', ← this]
set_option maxRecDepth 100000 in
/-- A slice of windows. -/
theorem open_wins_at {W : World} {fuel : Nat} {cs : List Value} {x : DataW H × List MemPlace} {base : Nat} {spare : Nat → Bool} {held : Bool} (hf : DataW.trod enc Try.prog W base spare held fuel 27 cs = some x) :
    ∃ a len cap, cs = [.slice a len cap] ∧ ∃ l : List Wn, l.length = len ∧ (∀ y ∈ l, y.Fit) ∧ Rd W (.slice a len cap) len (wcells l) ∧ ((x.1 = .nil ∧ len = 0) ∨ ∃ es sp, x.1 = .slice es sp ∧ es.length = len) := by
  rcases open_slice Try.underlying27 hf with ⟨rfl, rfl⟩ | ⟨a, len, cap, m, n, D, Pl, rfl, -, hl, hm, hmm, rfl, hx⟩
  · exact ⟨none, 0, 0, rfl, [], rfl, by simp, rd_nil W, .inl ⟨rfl, rfl⟩⟩
  · have hlm : len ≤ m := by rw [hmm]; split <;> omega
    have each : ∀ i, ∃ y : Wn, y.Fit ∧ (i < len → ∀ (j : Nat) (u : Value), y.cells[j]? = some u → W.cell? (a.add (i * 9 + j)) = some u) := by
      intro i
      by_cases hi : i < len
      · obtain ⟨cs', hc, ht⟩ := hx i (by omega)
        rw [show Try.prog.cellsOf 93 = 9 by kernel_rfl] at hc
        obtain ⟨-, -, hat⟩ := World.cells?_some hc
        obtain ⟨y, hy, hall⟩ := open_win ht
        refine ⟨y, hy, fun _ j u hj => ?_⟩
        have hj9 : j < 9 := (List.getElem?_eq_some_iff.1 hj).1
        rw [← add_add, hat j hj9]
        exact hall j u hj
      · exact ⟨wn0, wn0_Fit, fun h => absurd h hi⟩
    have F : ∃ g : Nat → Wn, ∀ i, (g i).Fit ∧ (i < len → ∀ (j : Nat) (u : Value), (g i).cells[j]? = some u → W.cell? (a.add (i * 9 + j)) = some u) := ⟨fun i => Classical.choose (each i), fun i => Classical.choose_spec (each i)⟩
    obtain ⟨g, hg⟩ := F
    have hlen : ((List.range len).map g).length = len := by simp
    refine ⟨some a, len, cap, rfl, (List.range len).map g, hlen, ?_, ⟨some a, cap, rfl, hl, hm, fun hp => ?_⟩, .inr ⟨_, _, rfl, by simp⟩⟩
    · intro y hy
      obtain ⟨i, -, rfl⟩ := List.mem_map.1 hy
      exact (hg i).1
    · have h00 := (hg 0).2 hp 0 _ rfl
      have hsp : a.spot = none := by have := World.cell?_spot h00; simpa [Addr.add] using this
      obtain ⟨b, o, sp⟩ := a
      obtain rfl : sp = none := hsp
      have hb := Clock.block_lt h00
      refine ⟨b, o, rfl, by simpa [Addr.add] using hb, fun j u hj => ?_⟩
      obtain ⟨k, i, y, rfl, hi9, hky, hu⟩ := wcells_get hj
      have hk' : k < len := by have := (List.getElem?_eq_some_iff.1 hky).1; rwa [hlen] at this
      rw [List.getElem?_map, List.getElem?_range hk'] at hky
      simp only [Option.map_some, Option.some.injEq] at hky
      subst hky
      have := (hg k).2 hk' i u hu
      rw [addr_add] at this
      exact this
set_option maxRecDepth 100000 in
/-- A key's state, its cells. -/
theorem open_key_at {W : World} {fuel : Nat} {cs : List Value} {x : DataW H × List MemPlace} {base : Nat} {spare : Nat → Bool} {held : Bool} (hf : DataW.trod enc Try.prog W base spare held fuel 29 cs = some x) :
    ∃ (k : Kn) (A : Option Addr) (cap : Nat), cs = [.string k.key, .int .i64 k.dr, .slice A k.ws.length cap] ∧ k.Fit ∧ Rd W (.slice A k.ws.length cap) k.ws.length (wcells k.ws) ∧ k.key.size + k.ws.length + 1 ≤ Rows.uptoBulk x.1 := by
  obtain ⟨xs, m, -, rfl, hcl, hlen, hx⟩ := DataW.trod_struct Try.underlying29 hf
  have hcl3 : cs.length = 3 := hcl.trans (by kernel_rfl)
  have hl3 : xs.length = 3 := hlen
  match cs, hcl3, xs, hl3 with
  | [k0, k1, k2], _, [x0, x1, x2], _ =>
    have h0 : DataW.trod enc Try.prog W base spare held m 9 (([k0, k1, k2].drop 0).take (Try.prog.cellsOf 9)) = [x0, x1, x2][0]? := hx 0 _ rfl
    have h1 : DataW.trod enc Try.prog W base spare held m 2 (([k0, k1, k2].drop 1).take (Try.prog.cellsOf 2)) = [x0, x1, x2][1]? := hx 1 _ rfl
    have h2 : DataW.trod enc Try.prog W base spare held m 27 (([k0, k1, k2].drop 2).take (Try.prog.cellsOf 27)) = [x0, x1, x2][2]? := hx 2 _ rfl
    rw [show Try.prog.cellsOf 9 = 1 by kernel_rfl] at h0
    rw [show Try.prog.cellsOf 2 = 1 by kernel_rfl] at h1
    rw [show Try.prog.cellsOf 27 = 1 by kernel_rfl] at h2
    simp only [List.drop_zero, List.drop_succ_cons, List.take_succ_cons, List.take_zero, List.getElem?_cons_zero, List.getElem?_cons_succ] at h0 h1 h2
    obtain ⟨text, e0, rfl, -⟩ := DataW.trod_string Try.underlying9 h0
    obtain ⟨dr, e1, -, w1⟩ := DataW.trod_int Try.underlying2 h1
    obtain ⟨A, n, c, e2, l, hl, hfit, hrl, hdl⟩ := open_wins_at h2
    simp only [List.cons.injEq, and_true] at e0 e1 e2
    subst e0 e1 e2 hl
    refine ⟨⟨text, dr, l⟩, A, c, rfl, ⟨in64_bd w1, hfit⟩, hrl, ?_⟩
    have g2 := len_bulk hdl
    have g3 : text.data.toList.length = text.size := by simp
    simp only [List.map_cons, List.map_nil, Rows.uptoBulk, Rows.uptoBulkAll]
    omega
set_option maxRecDepth 100000 in
/-- A key's state, by value. -/
theorem open_key {W : World} {v : Value} {d : DataW H} {p : List MemPlace} {base b0 : Nat} {spare : Nat → Bool} {held : Bool} (hv : Value.okWide Try.prog W .any b0 29 v) (h : DataW.Trod enc Try.prog W base spare held 29 v d p) :
    ∃ k : Kn, Rk W v k ∧ k.Fit ∧ k.key.size + k.ws.length + 1 ≤ Rows.uptoBulk d := by
  unfold Value.okWide at hv
  rw [Try.underlying29] at hv
  obtain ⟨cs, rfl, hsz, -⟩ := hv
  obtain ⟨fuel, hf⟩ := h
  obtain ⟨k, A, c, hcs, h1, h2, h3⟩ := open_key_at hf
  refine ⟨k, ⟨A, c, ?_, h2⟩, h1, h3⟩
  obtain ⟨l⟩ := cs
  have : l = [.string k.key, .int .i64 k.dr, .slice A k.ws.length c] := by simpa [Value.cells] using hcs
  rw [this]
end
end Go.Proofs.Ytaechgnjdjijkaa
