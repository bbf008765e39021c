/- Slices that came in: their data's form; lists of numbers. -/
import Derived.Test.YtdndljbagjfkkaaOpenSt
import Derived.SizedLaws
namespace Go.Proofs.Ytdndljbagjfkkaa
open Go.ChangeShapes Go.WideShapes Go.ChangeAt Go.RowKit Go.Deep
section
variable {H : Type} {enc : TypeId × Value → H} {P : Program}
theorem shape_slice {t e : TypeId} (ht : P.underlying t = some (.slice e)) {W : World} {a : Option Addr} {len cap : Nat} {d : DataW H} {p : List MemPlace} {base : Nat} {spare : Nat → Bool} {held : Bool} (h : DataW.Trod enc P W base spare held t (.slice a len cap) d p) :
    (d = .nil ∧ len = 0) ∨ ∃ es sp, d = .slice es sp ∧ es.length = len := by
  obtain ⟨fuel, hf⟩ := h
  rcases open_slice ht hf with ⟨hcs, hx⟩ | ⟨a', len', cap', m, n, D, Pl, hcs, -, hl, hm, hmm, hx, -⟩
  · cases hcs; cases hx; exact .inl ⟨rfl, rfl⟩
  · cases hcs; cases hx; exact .inr ⟨_, _, rfl, by simp⟩
set_option maxRecDepth 100000 in
theorem open_nums {W : World} {v : Value} {d : DataW H} {p : List MemPlace} {base b0 : Nat} {spare : Nat → Bool} {held : Bool} (hv : Value.okWide Try.prog W .any b0 32 v) (h : DataW.Trod enc Try.prog W base spare held 32 v d p) :
    ∃ a len cap, ∃ l : List Int, v = .slice a len cap ∧ l.length = len ∧ Rd W (.slice a len cap) len (ic l) := by
  obtain ⟨a0, len, cap, rfl⟩ := okWide_slice Try.underlying32 hv
  obtain ⟨fuel, hf⟩ := h
  rcases open_slice Try.underlying32 hf with ⟨hcs, -⟩ | ⟨a, len', cap', m, n, D, Pl, hcs, -, hl, hm, hmm, -, hx⟩
  · cases hcs
    exact ⟨none, 0, 0, [], rfl, rfl, none, 0, rfl, Nat.le_refl _, by decide, fun h => absurd h (by omega)⟩
  · cases hcs
    have hlm : len ≤ m := by rw [hmm]; split <;> omega
    have each : ∀ i, ∃ x : Int, i < len → W.cell? (a.add i) = some (.int .i64 x) := by
      intro i
      by_cases hi : i < len
      · obtain ⟨cs', hc, ht⟩ := hx i (by omega)
        rw [show Try.prog.cellsOf 2 = 1 by kernel_rfl] at hc
        obtain ⟨-, -, hat⟩ := World.cells?_some hc
        obtain ⟨x0, e0, -⟩ := leaf_int (d := 3) (k := .i64) 0 ht (by kernel_rfl)
        refine ⟨x0, fun _ => ?_⟩
        have := hat 0 (by omega)
        rw [e0, Nat.mul_one] at this
        simpa [Addr.add] using this
      · exact ⟨0, fun h => absurd h hi⟩
    have F : ∃ g : Nat → Int, ∀ i, i < len → W.cell? (a.add i) = some (.int .i64 (g i)) := ⟨fun i => Classical.choose (each i), fun i => Classical.choose_spec (each i)⟩
    obtain ⟨g, hg⟩ := F
    refine ⟨some a, len, cap, (List.range len).map g, rfl, by simp, some a, cap, rfl, hl, hm, fun hp => ?_⟩
    have h00 := hg 0 hp
    have hsp : a.spot = none := by have := World.cell?_spot h00; simpa [Addr.add] using this
    obtain ⟨b, o, sp⟩ := a
    obtain rfl : sp = none := hsp
    have hb := Clock.block_lt h00
    refine ⟨b, o, rfl, by simpa [Addr.add] using hb, fun j u hj => ?_⟩
    have hj' : j < len := by have := (List.getElem?_eq_some_iff.1 hj).1; simpa [ic] using this
    have := hg j hj'
    rw [addr_add] at this
    rw [this, ← hj]
    simp [ic, hj']
end
theorem bytesI64 : Try.prog.bytesOf 2 = 8 := by kernel_rfl
theorem bytesSt : Try.prog.bytesOf 30 = 64 := by kernel_rfl
end Go.Proofs.Ytdndljbagjfkkaa
