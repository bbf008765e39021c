/- Slices of what is written, as they came in; the bound on what came in. -/
import Derived.Test.YtmcgagjjgomkeaaOpen
import Derived.Test.YtmcgagjjgomkeaaEls
import Derived.JoinedCond
namespace Go.Proofs.Ytmcgagjjgomkeaa
open Go.ChangeShapes Go.WideShapes Go.ChangeAt Go.RowKit Go.Deep

section
variable {H : Type} {enc : TypeId × Value → H}
theorem bulk_one (d : DataW H) : 1 ≤ Rows.uptoBulk d := by
  cases d with
  | lit l => cases l <;> simp [Rows.uptoBulk]
  | nil => simp [Rows.uptoBulk]
  | ptr d => simp [Rows.uptoBulk]
  | slice elems spare => simp [Rows.uptoBulk]
  | agg parts => simp [Rows.uptoBulk]
  | iface t d => simp [Rows.uptoBulk]
  | map entries => simp [Rows.uptoBulk]
  | held h => simp [Rows.uptoBulk]
theorem bulk_len : ∀ (l : List (DataW H)), l.length ≤ Rows.uptoBulkAll l
  | [] => by simp [Rows.uptoBulkAll]
  | x :: r => by
    have := bulk_one x
    have := bulk_len r
    simp only [Rows.uptoBulkAll, List.length_cons]
    omega
theorem bulk_mem {d : DataW H} : ∀ {l : List (DataW H)}, d ∈ l → Rows.uptoBulk d ≤ Rows.uptoBulkAll l
  | x :: r, h => by
    simp only [Rows.uptoBulkAll]
    rcases List.mem_cons.1 h with rfl | h'
    · omega
    · have := bulk_mem h'; omega
theorem bulk_slice (es sp : List (DataW H)) : es.length + 1 ≤ Rows.uptoBulk (.slice es sp) := by
  have := bulk_len es
  simp only [Rows.uptoBulk]
  omega
theorem bulk_in {d : DataW H} {es sp : List (DataW H)} (h : d ∈ es) : Rows.uptoBulk d ≤ Rows.uptoBulk (.slice es sp) := by
  have := bulk_mem h
  simp only [Rows.uptoBulk]
  omega
theorem len_bulk {d : DataW H} {len : Nat} (h : (d = .nil ∧ len = 0) ∨ ∃ es sp, d = .slice es sp ∧ es.length = len) : len + 1 ≤ Rows.uptoBulk d := by
  rcases h with ⟨rfl, rfl⟩ | ⟨es, sp, rfl, rfl⟩
  · simp [Rows.uptoBulk]
  · exact bulk_slice es sp
theorem u64_of {a : Int} (h : (Lit.int .u64 a).wf = true) : ∃ n : Nat, a = (n : Int) ∧ n < 18446744073709551616 := by
  have := (Lit.wf_int_iff .u64 a).1 h
  rw [show IntKind.u64.min = 0 from rfl, show IntKind.u64.max = 18446744073709551615 from rfl] at this
  exact ⟨a.toNat, by omega, by omega⟩
set_option maxRecDepth 100000 in
/-- One element. -/
theorem open_pe {W : World} {fuel : Nat} {cs : List Value} {x : DataW H × List MemPlace} {base : Nat} {spare : Nat → Bool} {held : Bool} (hf : DataW.trod enc Try.prog W base spare held fuel 39 cs = some x) :
    ∃ e : Pe, cs = e.cells ∧ Rd W (.slice e.A e.pt.b.length e.c) e.pt.b.length (bc e.pt.b) ∧ Rd W (.slice e.A2 e.pt.l.length e.c2) e.pt.l.length (ic e.pt.l) ∧ (∀ a ∈ e.pt.l, I64 a) ∧ e.pt.x < 18446744073709551616 ∧ e.pt.b.length + e.pt.text.size + e.pt.l.length + 1 ≤ Rows.uptoBulk x.1 := by
  obtain ⟨xs, m, -, rfl, hcl, hlen, hx⟩ := DataW.trod_struct Try.underlying39 hf
  have hcl5 : cs.length = 5 := hcl.trans (by kernel_rfl)
  have hl5 : xs.length = 5 := hlen
  match cs, hcl5, xs, hl5 with
  | [k0, k1, k2, k3, k4], _, [x0, x1, x2, x3, x4], _ =>
    have h0 : DataW.trod enc Try.prog W base spare held m 3 (([k0, k1, k2, k3, k4].drop 0).take (Try.prog.cellsOf 3)) = [x0, x1, x2, x3, x4][0]? := hx 0 _ rfl
    have h1 : DataW.trod enc Try.prog W base spare held m 22 (([k0, k1, k2, k3, k4].drop 1).take (Try.prog.cellsOf 22)) = [x0, x1, x2, x3, x4][1]? := hx 1 _ rfl
    have h2 : DataW.trod enc Try.prog W base spare held m 9 (([k0, k1, k2, k3, k4].drop 2).take (Try.prog.cellsOf 9)) = [x0, x1, x2, x3, x4][2]? := hx 2 _ rfl
    have h3 : DataW.trod enc Try.prog W base spare held m 29 (([k0, k1, k2, k3, k4].drop 3).take (Try.prog.cellsOf 29)) = [x0, x1, x2, x3, x4][3]? := hx 3 _ rfl
    have h4 : DataW.trod enc Try.prog W base spare held m 37 (([k0, k1, k2, k3, k4].drop 4).take (Try.prog.cellsOf 37)) = [x0, x1, x2, x3, x4][4]? := hx 4 _ rfl
    rw [show Try.prog.cellsOf 3 = 1 by kernel_rfl] at h0
    rw [show Try.prog.cellsOf 22 = 1 by kernel_rfl] at h1
    rw [show Try.prog.cellsOf 9 = 1 by kernel_rfl] at h2
    rw [show Try.prog.cellsOf 29 = 1 by kernel_rfl] at h3
    rw [show Try.prog.cellsOf 37 = 1 by kernel_rfl] at h4
    simp only [List.drop_zero, List.drop_succ_cons, List.take_succ_cons, List.take_zero, List.getElem?_cons_zero, List.getElem?_cons_succ] at h0 h1 h2 h3 h4
    obtain ⟨kind, e0, -, -⟩ := DataW.trod_int Try.underlying3 h0
    obtain ⟨xx, e1, -, w1⟩ := DataW.trod_int Try.underlying22 h1
    obtain ⟨n, rfl, hn⟩ := u64_of w1
    obtain ⟨text, e2, rfl, -⟩ := DataW.trod_string Try.underlying9 h2
    obtain ⟨A, m1, c, e3, b, hb, hrb, hdb⟩ := open_bytes_at h3
    obtain ⟨A2, m2, c2, e4, l, hl, hI, hrl, hdl⟩ := open_nums_at h4
    simp only [List.cons.injEq, and_true] at e0 e1 e2 e3 e4
    subst e0 e1 e2 e3 e4 hb hl
    refine ⟨⟨⟨kind, n, text, b, l⟩, A, c, A2, c2⟩, rfl, hrb, hrl, hI, hn, ?_⟩
    have g1 := len_bulk hdb
    have g2 := len_bulk hdl
    have g3 : text.data.toList.length = text.size := by simp
    simp only [List.map_cons, List.map_nil, Rows.uptoBulk, Rows.uptoBulkAll]
    omega
theorem Pe.ok_of {W : World} {e : Pe} {n : Nat} (h1 : Rd W (.slice e.A e.pt.b.length e.c) e.pt.b.length (bc e.pt.b)) (h2 : Rd W (.slice e.A2 e.pt.l.length e.c2) e.pt.l.length (ic e.pt.l)) (h3 : ∀ a ∈ e.pt.l, I64 a) (h4 : e.pt.x < 18446744073709551616) (h5 : e.pt.b.length + e.pt.text.size + e.pt.l.length + 1 ≤ n) (h6 : n ≤ 1048576) : e.ok W :=
  ⟨h1, h2, h3, h4, by unfold Pt.size; omega⟩
theorem default_pe_ok (W : World) : (⟨⟨0, 0, ⟨#[]⟩, [], []⟩, none, 0, none, 0⟩ : Pe).ok W := ⟨rd_nil W, rd_nil W, fun a ha => (by cases ha), (by decide), (by decide)⟩
theorem elc_get {es : List Pe} {j : Nat} {u : Value} (h : (elc es)[j]? = some u) : ∃ k i e, j = k * 5 + i ∧ i < 5 ∧ es[k]? = some e ∧ e.cells[i]? = some u := by
  have hj : j < es.length * 5 := by rw [← elc_length]; exact (List.getElem?_eq_some_iff.1 h).1
  have hk : j / 5 < es.length := by omega
  obtain ⟨e, he⟩ : ∃ e, es[j / 5]? = some e := ⟨_, List.getElem?_eq_getElem hk⟩
  refine ⟨j / 5, j % 5, e, by omega, by omega, he, ?_⟩
  obtain ⟨u', hu'⟩ : ∃ u', e.cells[j % 5]? = some u' := ⟨_, List.getElem?_eq_getElem (by rw [Pe.cells_length]; omega)⟩
  have := elc_at he hu'
  rw [show j / 5 * 5 + j % 5 = j by omega, h] at this
  rw [hu', ← this]
set_option maxRecDepth 100000 in
/-- The slice that came in. -/
theorem open_puts {W : World} {v : Value} {d : DataW H} {p : List MemPlace} {base b0 : Nat} {spare : Nat → Bool} {held : Bool} (hv : Value.okWide Try.prog W .any b0 26 v) (h : DataW.Trod enc Try.prog W base spare held 26 v d p) (hk : Rows.uptoBulk d ≤ 1048576) :
    ∃ a cap, ∃ es : List Pe, v = .slice a es.length cap ∧ Rd W (.slice a es.length cap) es.length (elc es) ∧ (∀ e ∈ es, e.ok W) ∧ es.length ≤ 1048576 := by
  obtain ⟨a0, len, cap, rfl⟩ := okWide_slice Try.underlying26 hv
  obtain ⟨fuel, hf⟩ := h
  rcases open_slice Try.underlying26 hf with ⟨hcs, -⟩ | ⟨a, len', cap', m, n, D, Pl, hcs, -, hl, hm, hmm, hxx, hx⟩
  · cases hcs
    exact ⟨none, 0, [], rfl, rd_nil W, fun e he => (by cases he), by simp⟩
  · cases hcs
    have hlm : len ≤ m := by rw [hmm]; split <;> omega
    have hd : d = .slice ((List.range len).map D) ((List.range (m - len)).map fun j => D (len + j)) := by have := congrArg Prod.fst hxx; exact this
    have each : ∀ i, ∃ e : Pe, e.ok W ∧ (i < len → ∀ (j : Nat) (u : Value), e.cells[j]? = some u → W.cell? (a.add (i * 5 + j)) = some u) := by
      intro i
      by_cases hi : i < len
      · obtain ⟨cs', hc, ht⟩ := hx i (by omega)
        rw [show Try.prog.cellsOf 39 = 5 by kernel_rfl] at hc
        obtain ⟨-, -, hat⟩ := World.cells?_some hc
        obtain ⟨e, rfl, h1, h2, h3, h4, h5⟩ := open_pe ht
        have hbk : Rows.uptoBulk (D i) ≤ Rows.uptoBulk d := by rw [hd]; exact bulk_in (List.mem_map.2 ⟨i, by simpa using hi, rfl⟩)
        refine ⟨e, Pe.ok_of h1 h2 h3 h4 h5 (Nat.le_trans hbk hk), fun _ j u hj => ?_⟩
        have hj5 : j < 5 := by have := (List.getElem?_eq_some_iff.1 hj).1; rwa [Pe.cells_length] at this
        rw [← add_add, hat j hj5]
        exact hj
      · exact ⟨_, default_pe_ok W, fun h => absurd h hi⟩
    have F : ∃ g : Nat → Pe, ∀ i, (g i).ok W ∧ (i < len → ∀ (j : Nat) (u : Value), (g i).cells[j]? = some u → W.cell? (a.add (i * 5 + j)) = some u) := ⟨fun i => Classical.choose (each i), fun i => Classical.choose_spec (each i)⟩
    obtain ⟨g, hg⟩ := F
    have hlen : ((List.range len).map g).length = len := by simp
    have hbl : len ≤ 1048576 := by
      have := bulk_slice ((List.range len).map D) ((List.range (m - len)).map fun j => D (len + j))
      rw [← hd] at this
      simp at this
      omega
    refine ⟨some a, cap, (List.range len).map g, by rw [hlen], ?_, ?_, by rw [hlen]; exact hbl⟩
    · rw [hlen]
      refine ⟨some a, cap, rfl, hl, hm, fun hp => ?_⟩
      have h00 := (hg 0).2 hp 0 _ rfl
      have hsp : a.spot = none := by have := World.cell?_spot h00; simpa [Addr.add] using this
      obtain ⟨b, o, sp⟩ := a
      obtain rfl : sp = none := hsp
      have hb := Clock.block_lt h00
      refine ⟨b, o, rfl, by simpa [Addr.add] using hb, fun j u hj => ?_⟩
      obtain ⟨k, i, e, rfl, hi5, hke, hu⟩ := elc_get hj
      have hk' : k < len := by have := (List.getElem?_eq_some_iff.1 hke).1; rwa [hlen] at this
      rw [List.getElem?_map, List.getElem?_range hk'] at hke
      simp only [Option.map_some, Option.some.injEq] at hke
      subst hke
      have := (hg k).2 hk' i u hu
      rw [addr_add] at this
      exact this
    · intro e he
      obtain ⟨i, -, rfl⟩ := List.mem_map.1 he
      exact (hg i).1
end
end Go.Proofs.Ytmcgagjjgomkeaa
