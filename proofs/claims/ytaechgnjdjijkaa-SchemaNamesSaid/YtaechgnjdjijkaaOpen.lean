/- Slices of bytes and of numbers that came in. -/
import Derived.Test.YtaechgnjdjijkaaLeaf
import Derived.Test.YtaechgnjdjijkaaLent
import Derived.SizedLaws
namespace Go.Proofs.Ytaechgnjdjijkaa
open Go.ChangeShapes Go.WideShapes Go.ChangeAt Go.RowKit Go.Deep

section
variable {H : Type} {enc : TypeId × Value → H}
theorem u8_of {a : Int} (h : (Lit.int .u8 a).wf = true) : a = ((UInt8.ofNat a.toNat).toNat : Int) := by
  have := (Lit.wf_int_iff .u8 a).1 h
  rw [show IntKind.u8.min = 0 from rfl, show IntKind.u8.max = 255 from rfl] at this
  have h2 : a.toNat < 256 := by omega
  rw [UInt8.toNat_ofNat', Nat.mod_eq_of_lt (by omega)]
  omega
theorem rd_nil (W : World) : Rd W (.slice none 0 0) 0 [] := ⟨none, 0, rfl, Nat.le_refl _, by decide, fun h => by omega⟩
/-- A slice's cells, opened: one value for each place. -/
theorem open_row {W : World} {a : Addr} {len : Nat} {f : Nat → Value} (hp : 0 < len) (h : ∀ i, i < len → W.cell? (a.add (i * 1)) = some (f i)) : ∃ g off, a = ⟨g, off, none⟩ ∧ g < W.heap.size ∧ ∀ i, i < len → W.cell? ⟨g, off + i, none⟩ = some (f i) := by
  have h00 := h 0 hp
  have hsp : a.spot = none := by have := World.cell?_spot h00; simpa [Addr.add] using this
  obtain ⟨b, o, sp⟩ := a
  obtain rfl : sp = none := hsp
  have hb := Clock.block_lt h00
  refine ⟨b, o, rfl, by simpa [Addr.add] using hb, fun i hi => ?_⟩
  have := h i hi
  rw [addr_add, Nat.mul_one] at this
  exact this
set_option maxRecDepth 100000 in
theorem open_bytes_at {W : World} {fuel : Nat} {cs : List Value} {x : DataW H × List MemPlace} {base : Nat} {spare : Nat → Bool} {held : Bool} (hf : DataW.trod enc Try.prog W base spare held fuel 25 cs = some x) :
    ∃ a len cap, cs = [.slice a len cap] ∧ ∃ bs : List UInt8, bs.length = len ∧ Rd W (.slice a len cap) len (bc bs) ∧ ((x.1 = .nil ∧ len = 0) ∨ ∃ es sp, x.1 = .slice es sp ∧ es.length = len) := by
  rcases open_slice Try.underlying25 hf with ⟨rfl, rfl⟩ | ⟨a, len, cap, m, n, D, Pl, rfl, -, hl, hm, hmm, rfl, hx⟩
  · exact ⟨none, 0, 0, rfl, [], rfl, rd_nil W, .inl ⟨rfl, rfl⟩⟩
  · have hlm : len ≤ m := by rw [hmm]; split <;> omega
    have each : ∀ i, ∃ b : UInt8, i < len → W.cell? (a.add (i * 1)) = some (.int .u8 (b.toNat : Int)) := by
      intro i
      by_cases hi : i < len
      · obtain ⟨cs', hc, ht⟩ := hx i (by omega)
        rw [show Try.prog.cellsOf 5 = 1 by kernel_rfl] at hc
        obtain ⟨-, -, hat⟩ := World.cells?_some hc
        obtain ⟨x0, e0, hw⟩ := leaf_int (d := 3) (k := .u8) 0 ht (by kernel_rfl)
        refine ⟨UInt8.ofNat x0.toNat, fun _ => ?_⟩
        have := hat 0 (by omega)
        rw [e0, u8_of hw] at this
        simpa [Addr.add] using this
      · exact ⟨0, fun h => absurd h hi⟩
    have F : ∃ g : Nat → UInt8, ∀ i, i < len → W.cell? (a.add (i * 1)) = some (.int .u8 ((g i).toNat : Int)) := ⟨fun i => Classical.choose (each i), fun i => Classical.choose_spec (each i)⟩
    obtain ⟨g, hg⟩ := F
    refine ⟨some a, len, cap, rfl, (List.range len).map g, by simp, ⟨some a, cap, rfl, hl, hm, fun hp => ?_⟩, .inr ⟨_, _, rfl, by simp⟩⟩
    obtain ⟨b, o, rfl, hb, hall⟩ := open_row hp hg
    refine ⟨b, o, rfl, hb, fun j u hj => ?_⟩
    have hj' : j < len := by have := (List.getElem?_eq_some_iff.1 hj).1; simpa [bc] using this
    rw [hall j hj', ← hj]
    simp [bc, hj']
set_option maxRecDepth 100000 in
/-- A slice of bytes that came in as an argument. -/
theorem open_bytes {W : World} {v : Value} {d : DataW H} {p : List MemPlace} {base b0 : Nat} {spare : Nat → Bool} {held : Bool} (hv : Value.okWide Try.prog W .any b0 25 v) (h : DataW.Trod enc Try.prog W base spare held 25 v d p) :
    ∃ a len cap, v = .slice a len cap ∧ ∃ bs : List UInt8, bs.length = len ∧ Rd W (.slice a len cap) len (bc bs) ∧ ((d = .nil ∧ len = 0) ∨ ∃ es sp, d = .slice es sp ∧ es.length = len) := by
  obtain ⟨a0, len0, cap0, rfl⟩ := okWide_slice Try.underlying25 hv
  obtain ⟨fuel, hf⟩ := h
  obtain ⟨a, len, cap, hcs, bs, h1, h2, h3⟩ := open_bytes_at hf
  simp only [Value.cells, List.cons.injEq, and_true] at hcs
  exact ⟨a, len, cap, hcs, bs, h1, h2, h3⟩
end
end Go.Proofs.Ytaechgnjdjijkaa
