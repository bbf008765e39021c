/- A list of keys' states that came in. -/
import Derived.Test.YtaechgnjdjijkaaOpenKey
import Derived.Test.YtaechgnjdjijkaaPutAll
namespace Go.Proofs.Ytaechgnjdjijkaa
open Go.ChangeShapes Go.WideShapes Go.ChangeAt Go.RowKit Go.Deep

section
variable {H : Type} {enc : TypeId × Value → H}
theorem bulk_map (D : Nat → DataW H) (f : Nat → Nat) : ∀ (l : List Nat), (∀ i ∈ l, f i ≤ Rows.uptoBulk (D i)) → (l.map f).sum ≤ Rows.uptoBulkAll (l.map D)
  | [], _ => Nat.zero_le _
  | i :: l, h => by
    have h1 := h i (List.mem_cons_self ..)
    have h2 := bulk_map D f l (fun j hj => h j (List.mem_cons_of_mem _ hj))
    show f i + (l.map f).sum ≤ Rows.uptoBulk (D i) + Rows.uptoBulkAll (l.map D)
    omega
theorem kroom_sum : ∀ (l : List Kn), kroom l ≤ (l.map fun k => 90 * (k.key.size + k.ws.length + 1)).sum
  | [] => Nat.le_refl _
  | k :: l => by
    have := kroom_sum l
    rw [List.map_cons, List.sum_cons]
    show k.key.size + 90 * k.ws.length + 40 + kroom l ≤ 90 * (k.key.size + k.ws.length + 1) + (l.map fun k => 90 * (k.key.size + k.ws.length + 1)).sum
    omega
theorem kcells_get {l : List Km} {j : Nat} {u : Value} (h : (kcells l)[j]? = some u) : ∃ k i y, j = k * 3 + i ∧ i < 3 ∧ l[k]? = some y ∧ y.cells[i]? = some u := by
  have hlt : j < l.length * 3 := by have := (List.getElem?_eq_some_iff.1 h).1; rwa [kcells_length] at this
  have hk : j / 3 < l.length := by omega
  obtain ⟨y, hy⟩ : ∃ y, l[j / 3]? = some y := ⟨_, List.getElem?_eq_getElem hk⟩
  have hi : j % 3 < 3 := Nat.mod_lt _ (by omega)
  obtain ⟨v, hv⟩ : ∃ v, y.cells[j % 3]? = some v := ⟨_, List.getElem?_eq_getElem (by show j % 3 < 3; exact hi)⟩
  have h2 := kcells_at l (j / 3) y hy (j % 3) v hv
  rw [show j / 3 * 3 + j % 3 = j by omega, h] at h2
  cases h2
  exact ⟨j / 3, j % 3, y, by omega, hi, hy, hv⟩
set_option maxRecDepth 100000 in
theorem open_keys_at {W : World} {fuel : Nat} {cs : List Value} {x : DataW H × List MemPlace} {base : Nat} {spare : Nat → Bool} {held : Bool} (hf : DataW.trod enc Try.prog W base spare held fuel 43 cs = some x) :
    ∃ a len cap, cs = [.slice a len cap] ∧ ∃ l : List Km, Rks W (.slice a len cap) len l ∧ (∀ y ∈ l, y.k.Fit) ∧ len + 1 ≤ Rows.uptoBulk x.1 ∧ (∀ y ∈ l, y.k.ws.length ≤ Rows.uptoBulk x.1) ∧ kroom (l.map Km.k) ≤ 90 * Rows.uptoBulk x.1 := by
  rcases open_slice Try.underlying43 hf with ⟨rfl, rfl⟩ | ⟨a, len, cap, m, n, D, Pl, rfl, -, hl, hm, hmm, rfl, hx⟩
  · exact ⟨none, 0, 0, rfl, [], ⟨rd_nil W, rfl, by simp⟩, by simp, bulk_one _, by simp, Nat.zero_le _⟩
  · have hlm : len ≤ m := by rw [hmm]; split <;> omega
    have each : ∀ i, ∃ y : Km, y.k.Fit ∧ (i < len → (∀ (j : Nat) (u : Value), y.cells[j]? = some u → W.cell? (a.add (i * 3 + j)) = some u) ∧ y.Ok W ∧ y.k.key.size + y.k.ws.length + 1 ≤ Rows.uptoBulk (D i)) := by
      intro i
      by_cases hi : i < len
      · obtain ⟨cs', hc, ht⟩ := hx i (by omega)
        rw [show Try.prog.cellsOf 29 = 3 by kernel_rfl] at hc
        obtain ⟨-, -, hat⟩ := World.cells?_some hc
        obtain ⟨k, A, c, rfl, hk, hrd, hbk⟩ := open_key_at ht
        refine ⟨⟨k, A, c⟩, hk, fun _ => ⟨fun j u hj => ?_, hrd, hbk⟩⟩
        have hj3 : j < 3 := (List.getElem?_eq_some_iff.1 hj).1
        rw [← add_add, hat j hj3]
        exact hj
      · exact ⟨⟨⟨⟨#[]⟩, 0, []⟩, none, 0⟩, ⟨by show In64 0; unfold In64; omega, by simp⟩, fun h => absurd h hi⟩
    have F : ∃ g : Nat → Km, ∀ i, (g i).k.Fit ∧ (i < len → (∀ (j : Nat) (u : Value), (g i).cells[j]? = some u → W.cell? (a.add (i * 3 + j)) = some u) ∧ (g i).Ok W ∧ (g i).k.key.size + (g i).k.ws.length + 1 ≤ Rows.uptoBulk (D i)) := ⟨fun i => Classical.choose (each i), fun i => Classical.choose_spec (each i)⟩
    obtain ⟨g, hg⟩ := F
    have hlen : ((List.range len).map g).length = len := by simp
    have hbulk : ((List.range len).map fun i => (g i).k.key.size + (g i).k.ws.length + 1).sum ≤ Rows.uptoBulkAll ((List.range len).map D) := bulk_map D _ _ fun i hi => ((hg i).2 (List.mem_range.1 hi)).2.2
    have hall : Rows.uptoBulkAll ((List.range len).map D) ≤ Rows.uptoBulk (DataW.slice ((List.range len).map D) ((List.range (m - len)).map fun j => D (len + j)) : DataW H) := by
      simp only [Rows.uptoBulk]; omega
    refine ⟨some a, len, cap, rfl, (List.range len).map g, ⟨⟨some a, cap, rfl, hl, hm, fun hp => ?_⟩, hlen, ?_⟩, ?_, ?_, ?_, ?_⟩
    · have h00 := ((hg 0).2 hp).1 0 _ rfl
      have hsp : a.spot = none := by have := World.cell?_spot h00; simpa [Addr.add] using this
      obtain ⟨b, o, sp⟩ := a
      obtain rfl : sp = none := hsp
      have hb := Clock.block_lt h00
      refine ⟨b, o, rfl, by simpa [Addr.add] using hb, fun j u hj => ?_⟩
      obtain ⟨k, i, y, rfl, hi3, hky, hu⟩ := kcells_get hj
      have hk' : k < len := by have := (List.getElem?_eq_some_iff.1 hky).1; rwa [hlen] at this
      rw [List.getElem?_map, List.getElem?_range hk'] at hky
      simp only [Option.map_some, Option.some.injEq] at hky
      subst hky
      have := ((hg k).2 hk').1 i u hu
      rw [addr_add] at this
      exact this
    · intro y hy
      obtain ⟨i, hi, rfl⟩ := List.mem_map.1 hy
      exact ((hg i).2 (List.mem_range.1 hi)).2.1
    · intro y hy
      obtain ⟨i, -, rfl⟩ := List.mem_map.1 hy
      exact (hg i).1
    · have := bulk_slice ((List.range len).map D) ((List.range (m - len)).map fun j => D (len + j))
      simpa using this
    · intro y hy
      obtain ⟨i, hi, rfl⟩ := List.mem_map.1 hy
      have h1 := ((hg i).2 (List.mem_range.1 hi)).2.2
      have h2 := bulk_in (sp := (List.range (m - len)).map fun j => D (len + j)) (show D i ∈ (List.range len).map D from List.mem_map_of_mem hi)
      show (g i).k.ws.length ≤ Rows.uptoBulk (DataW.slice ((List.range len).map D) ((List.range (m - len)).map fun j => D (len + j)) : DataW H)
      omega
    · refine Nat.le_trans (kroom_sum _) ?_
      have h3 : ∀ (l : List Nat), ((l.map g).map Km.k |>.map fun k => 90 * (k.key.size + k.ws.length + 1)).sum = 90 * (l.map fun i => (g i).k.key.size + (g i).k.ws.length + 1).sum := by
        intro l
        induction l with
        | nil => rfl
        | cons i l ih =>
          simp only [List.map_cons, List.sum_cons] at ih ⊢
          rw [ih]
          omega
      rw [h3]
      show _ ≤ 90 * Rows.uptoBulk (DataW.slice ((List.range len).map D) ((List.range (m - len)).map fun j => D (len + j)) : DataW H)
      omega
set_option maxRecDepth 100000 in
theorem open_keys {W : World} {v : Value} {d : DataW H} {p : List MemPlace} {base b0 : Nat} {spare : Nat → Bool} {held : Bool} (hv : Value.okWide Try.prog W .any b0 43 v) (h : DataW.Trod enc Try.prog W base spare held 43 v d p) :
    ∃ a len cap, v = .slice a len cap ∧ ∃ l : List Km, Rks W (.slice a len cap) len l ∧ (∀ y ∈ l, y.k.Fit) ∧ len + 1 ≤ Rows.uptoBulk d ∧ (∀ y ∈ l, y.k.ws.length ≤ Rows.uptoBulk d) ∧ kroom (l.map Km.k) ≤ 90 * Rows.uptoBulk d := by
  obtain ⟨a0, len0, cap0, rfl⟩ := okWide_slice Try.underlying43 hv
  obtain ⟨fuel, hf⟩ := h
  obtain ⟨a, len, cap, hcs, l, h1, h2, h3, h4, h5⟩ := open_keys_at hf
  simp only [Value.cells, List.cons.injEq, and_true] at hcs
  exact ⟨a, len, cap, hcs, l, h1, h2, h3, h4, h5⟩
end
end Go.Proofs.Ytaechgnjdjijkaa
