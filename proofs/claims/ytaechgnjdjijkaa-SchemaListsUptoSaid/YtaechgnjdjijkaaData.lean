/- Data: Law, Leaf, Open. -/
import Derived.Test.YtaechgnjdjijkaaRows
import Derived.Test.YtaechgnjdjijkaaWire2
import Derived.WalkKit
import Derived.ProofKit
import Derived.OpenShut
import Derived.ShutString
import Derived.SliceStrings
import Derived.Lib.SmallJoins
import Derived.Carry
import Derived.Deep.Slices
import Derived.Clock
import Derived.DataShut
import Derived.SizedLaws
/- What every law's row asks behind the walk: true, and whatever was read reads as it did. -/
namespace Go.Proofs.Ytaechgnjdjijkaa
open Go.ChangeShapes Go.WideShapes Go.ChangeAt Go.RowKit

theorem Try.own : ownKnob Try.prog.godebug = none := by kernel_rfl
theorem Try.laidOut : laidOutB Try.prog = true := by kernel_rfl

section
variable {H : Type} {enc : TypeId × Value → H} {P : Program}

theorem trodAll_stays (hl : laidOutB P = true) {W W' : World} {sp : Nat → Bool} : ∀ (ts : List TypeId) (vs : List Value) (ds : List (DataW H)) (ps : List MemPlace),
    (∀ t ∈ ts, P.readableRec t = true ∧ t < P.types.size) → DataW.TrodAll enc P W 0 (fun _ => true) true ts vs ds ps → (∀ x ∈ ps, W.sameAt W' x) → (∀ x ∈ ps, sp x.block = true) → DataW.TrodAll enc P W' 0 sp true ts vs ds ps
  | [], [], [], _, _, h, _, _ => h
  | t :: ts, v :: vs, d :: ds, ps, hr, ⟨p, q, h1, h2, he⟩, hs, hb => by
    subst he
    exact ⟨p, q, WideElems.Trod_stays hl (hr t (List.mem_cons_self ..)).1 (hr t (List.mem_cons_self ..)).2 h1 (fun x hx => hs x (List.mem_append_left _ hx)) (fun x hx => hb x (List.mem_append_left _ hx)),
      trodAll_stays hl ts vs ds q (fun t ht => hr t (List.mem_cons_of_mem _ ht)) h2 (fun x hx => hs x (List.mem_append_right _ hx)) (fun x hx => hb x (List.mem_append_right _ hx)), rfl⟩
  | [], _ :: _, _, _, _, h, _, _ => h.elim
  | [], [], _ :: _, _, _, h, _, _ => h.elim
  | _ :: _, [], _, _, _, h, _, _ => h.elim
  | _ :: _, _ :: _, [], _, _, h, _, _ => h.elim

/-- An array of three integers, by value. -/
theorem open_arr3 {W : World} {base base' : Nat} {spare : Nat → Bool} {held : Bool} {t e : TypeId} {k : IntKind} {v : Value} {d : DataW H} {p : List MemPlace} (ht : P.underlying t = some (.array 3 e)) (he : P.underlying e = some (.int k)) (hc : P.cellsOf t = 3) (hce : P.cellsOf e = 1)
    (hv : Value.okWide P W .any base t v) (h : DataW.Trod enc P W base' spare held t v d p) : ∃ a b c : Int, v = .agg #[.int k a, .int k b, .int k c] := by
  unfold Value.okWide at hv
  rw [ht] at hv
  obtain ⟨cs, rfl, hsz, -⟩ := hv
  obtain ⟨l⟩ := cs
  match l, hsz.trans hc with
  | [c0, c1, c2], _ =>
    obtain ⟨fuel, hf⟩ := h
    obtain ⟨xs, m, -, -, -, hx, hg⟩ := DataW.trod_array ht hf
    have g0 := hg 0 (by omega)
    have g1 := hg 1 (by omega)
    have g2 := hg 2 (by omega)
    match xs, hx with
    | [y0, y1, y2], _ =>
      simp only [hce, Value.cells, Nat.mul_one, List.drop_zero, List.drop_succ_cons, List.take_succ_cons, List.take_zero, List.getElem?_cons_zero, List.getElem?_cons_succ] at g0 g1 g2
      obtain ⟨a, e0, -, -⟩ := DataW.trod_int he g0
      obtain ⟨b, e1, -, -⟩ := DataW.trod_int he g1
      obtain ⟨c, e2, -, -⟩ := DataW.trod_int he g2
      simp only [List.cons.injEq, and_true] at e0 e1 e2
      subst e0 e1 e2
      exact ⟨a, b, c, rfl⟩

/-- A law's row behind its walk. -/
theorem law_post {f : Func} {s : ChangeSpec} {apart fresh handsOn : Bool} {W W' : World} {args : Array Value} {ds gs : List (DataW H)} {before : List MemPlace} {tb : TypeId} (hl : laidOutB P = true)
    (hts : ∀ t ∈ f.params.toList, P.readableRec t = true ∧ t < P.types.size) (hr : f.resultTypes = #[tb]) (htb : P.underlying tb = some .bool) (hv : s.vars = [])
    (hW : DataW.Whole enc P f.params.toList s.vars apart W args.toList ds gs before) (hs : s.fn H (ds ++ gs) = { results := [.lit (.bool true)], args := ds }) (hb : Below W.heap.size W W') :
    s.post enc P f apart fresh handsOn false W args (.bool true) W' := by
  have hlt : ∀ p ∈ before, p.block < W.heap.size := fun p hp => hW.lt p hp
  have hW' := hW
  obtain ⟨p, q, hA, hV, rfl, hz, hn⟩ := hW'
  rw [hv] at hV
  obtain ⟨rfl, rfl⟩ := trodVars_none hV
  have hsame : ∀ x ∈ p, W.sameAt W' x := fun x hx => hb.same (hlt x (List.mem_append_left _ hx))
  refine ⟨ds, [], p ++ [], [], p, [], hW, ?_, ?_, ?_, World.keptBut_mono (fun x hx => ⟨hx, ?_⟩) (hb.frame (· ∈ p ++ [])), fun h => by cases h⟩
  · rw [hs, hr]
    exact trodAll_mk1 (shut_bool htb true)
  · rw [hs]
    exact trodAll_stays hl _ _ _ _ hts hA hsame (fun x hx => by simpa using hlt x (List.mem_append_left _ hx))
  · rw [hs, hv]
    rfl
  · simpa using hx
end
end Go.Proofs.Ytaechgnjdjijkaa

/- What was read as data, down to its leaves: the cell at a place of a value of any struct or array. -/
namespace Go.Proofs.Ytaechgnjdjijkaa
open Go.ChangeShapes Go.WideShapes Go.ChangeAt Go.RowKit Go.Deep

/-- The kind of the leaf at a place of a type. -/
def leafAt (P : Program) : Nat → TypeId → Nat → Option TypeDesc
  | 0, _, _ => none
  | d + 1, t, j =>
    match P.underlying t with
    | some (.struct fs) => match fs.toList.find? (fun f => decide (f.offset ≤ j ∧ j < f.offset + P.cellsOf f.type)) with
      | some f => leafAt P d f.type (j - f.offset)
      | none => none
    | some (.array n e) => if 0 < P.cellsOf e ∧ j / P.cellsOf e < n then leafAt P d e (j % P.cellsOf e) else none
    | some (.int k) => if j = 0 then some (.int k) else none
    | some .bool => if j = 0 then some .bool else none
    | some .string => if j = 0 then some .string else none
    | some (.slice e) => if j = 0 then some (.slice e) else none
    | _ => none

section
variable {H : Type} {enc : TypeId × Value → H} {P : Program} {w : World} {base : Nat} {spare : Nat → Bool} {held : Bool}

theorem get_of_drop_take {cs : List Value} {o m j : Nat} {v : Value} (h : ((cs.drop o).take m)[j]? = some v) : cs[o + j]? = some v := by
  have hj : j < m := by
    rcases Nat.lt_or_ge j m with h1 | h1
    · exact h1
    · rw [List.getElem?_take_eq_none h1] at h; cases h
  rw [List.getElem?_take_of_lt hj, List.getElem?_drop] at h
  exact h

theorem leaf_of : ∀ (d : Nat) (t : TypeId) (n : Nat) (cs : List Value) (y : DataW H × List MemPlace) (j : Nat) (kd : TypeDesc), DataW.trod enc P w base spare held n t cs = some y → leafAt P d t j = some kd →
    ∃ v t' n' y', cs[j]? = some v ∧ P.underlying t' = some kd ∧ DataW.trod enc P w base spare held n' t' [v] = some y'
  | 0, _, _, _, _, _, _, _, h => by simp [leafAt] at h
  | d + 1, t, n, cs, y, j, kd, ht, h => by
    unfold leafAt at h
    split at h
    · rename_i fs hu
      split at h
      · rename_i f hf
        obtain ⟨xs, m, _, _, _, hlen, hx⟩ := DataW.trod_struct hu ht
        have hp := List.find?_some hf
        have hm := List.mem_of_find?_eq_some hf
        simp only [decide_eq_true_eq] at hp
        obtain ⟨i, hi⟩ := List.getElem?_of_mem hm
        have hi' : fs[i]? = some f := by rw [← Array.getElem?_toList]; exact hi
        have hil : i < fs.size := (Array.getElem?_eq_some_iff.1 hi').1
        have h1 := hx i f hi'
        have hxi : xs[i]? = some (xs[i]'(by omega)) := List.getElem?_eq_getElem (by omega)
        rw [hxi] at h1
        obtain ⟨v, t', n', y', hv, hu', hy'⟩ := leaf_of d f.type m _ _ (j - f.offset) kd h1 h
        refine ⟨v, t', n', y', ?_, hu', hy'⟩
        have := get_of_drop_take hv
        rwa [show f.offset + (j - f.offset) = j by omega] at this
      · cases h
    · rename_i k e hu
      split at h
      · rename_i hc
        obtain ⟨xs, m, _, _, _, hlen, hx⟩ := DataW.trod_array hu ht
        have h1 := hx (j / P.cellsOf e) hc.2
        have hxi : xs[j / P.cellsOf e]? = some (xs[j / P.cellsOf e]'(by omega)) := List.getElem?_eq_getElem (by omega)
        rw [hxi] at h1
        obtain ⟨v, t', n', y', hv, hu', hy'⟩ := leaf_of d e m _ _ (j % P.cellsOf e) kd h1 h
        refine ⟨v, t', n', y', ?_, hu', hy'⟩
        have := get_of_drop_take hv
        rwa [Nat.div_add_mod'] at this
      · cases h
    · rename_i k hu
      split at h
      · rename_i hj; subst hj; cases h
        obtain ⟨a, rfl, rfl, _⟩ := DataW.trod_int hu ht
        exact ⟨_, t, n, _, rfl, hu, ht⟩
      · cases h
    · rename_i hu
      split at h
      · rename_i hj; subst hj; cases h
        obtain ⟨a, rfl, rfl⟩ := DataW.trod_bool hu ht
        exact ⟨_, t, n, _, rfl, hu, ht⟩
      · cases h
    · rename_i hu
      split at h
      · rename_i hj; subst hj; cases h
        obtain ⟨a, rfl, rfl, _⟩ := DataW.trod_string hu ht
        exact ⟨_, t, n, _, rfl, hu, ht⟩
      · cases h
    · rename_i e hu
      split at h
      · rename_i hj; subst hj; cases h
        rcases DataW.trod_slice hu ht with ⟨rfl, rfl⟩ | ⟨a, len, cap, elems, rest, m, _, rfl, _⟩
        · exact ⟨_, t, n, _, rfl, hu, ht⟩
        · exact ⟨_, t, n, _, rfl, hu, ht⟩
      · cases h
    · cases h

theorem leaf_int {d : Nat} {t : TypeId} {n : Nat} {cs : List Value} {y : DataW H × List MemPlace} {k : IntKind} (j : Nat) (ht : DataW.trod enc P w base spare held n t cs = some y) (h : leafAt P d t j = some (.int k)) : ∃ a, cs[j]? = some (.int k a) ∧ (Lit.int k a).wf = true := by
  obtain ⟨v, t', n', y', hv, hu, hy⟩ := leaf_of d t n cs y j _ ht h
  obtain ⟨a, e, -, hw⟩ := DataW.trod_int hu hy
  cases e
  exact ⟨a, hv, hw⟩
theorem leaf_string {d : Nat} {t : TypeId} {n : Nat} {cs : List Value} {y : DataW H × List MemPlace} (j : Nat) (ht : DataW.trod enc P w base spare held n t cs = some y) (h : leafAt P d t j = some .string) : ∃ s : ByteArray, cs[j]? = some (.string s) ∧ s.size ≤ maxLen := by
  obtain ⟨v, t', n', y', hv, hu, hy⟩ := leaf_of d t n cs y j _ ht h
  obtain ⟨a, e, -, hw⟩ := DataW.trod_string hu hy
  cases e
  exact ⟨a, hv, hw⟩
theorem leaf_bool {d : Nat} {t : TypeId} {n : Nat} {cs : List Value} {y : DataW H × List MemPlace} (j : Nat) (ht : DataW.trod enc P w base spare held n t cs = some y) (h : leafAt P d t j = some .bool) : ∃ b, cs[j]? = some (.bool b) := by
  obtain ⟨v, t', n', y', hv, hu, hy⟩ := leaf_of d t n cs y j _ ht h
  obtain ⟨a, e, -⟩ := DataW.trod_bool hu hy
  cases e
  exact ⟨a, hv⟩
theorem i64_bd {a : Int} (h : (Lit.int .i64 a).wf = true) : -9223372036854775808 ≤ a ∧ a ≤ 9223372036854775807 := by
  have := (Lit.wf_int_iff .i64 a).1 h
  rwa [IntKind.min_i64, IntKind.max_i64] at this
end
end Go.Proofs.Ytaechgnjdjijkaa

/- Slices of bytes and of numbers that came in. -/
namespace Go.Proofs.Ytaechgnjdjijkaa
open Go.ChangeShapes Go.WideShapes Go.ChangeAt Go.RowKit Go.Deep

section
variable {H : Type} {enc : TypeId × Value → H}
theorem u8_of {a : Int} (h : (Lit.int .u8 a).wf = true) : a = ((UInt8.ofNat a.toNat).toNat : Int) := by
  have := (Lit.wf_int_iff .u8 a).1 h
  rw [show IntKind.u8.min = 0 from rfl, show IntKind.u8.max = 255 from rfl] at this
  have h2 : a.toNat < 256 := by omega
  rw [UInt8.toNat_ofNat', Nat.mod_eq_of_lt (by omega)]
  omega
theorem rd_nil (W : World) : Rd W (.slice none 0 0) 0 [] := ⟨none, 0, rfl, Nat.le_refl _, by decide, fun h => by omega⟩
/-- A slice's cells, opened: one value for each place. -/
theorem open_row {W : World} {a : Addr} {len : Nat} {f : Nat → Value} (hp : 0 < len) (h : ∀ i, i < len → W.cell? (a.add (i * 1)) = some (f i)) : ∃ g off, a = ⟨g, off, none⟩ ∧ g < W.heap.size ∧ ∀ i, i < len → W.cell? ⟨g, off + i, none⟩ = some (f i) := by
  have h00 := h 0 hp
  have hsp : a.spot = none := by have := World.cell?_spot h00; simpa [Addr.add] using this
  obtain ⟨b, o, sp⟩ := a
  obtain rfl : sp = none := hsp
  have hb := Clock.block_lt h00
  refine ⟨b, o, rfl, by simpa [Addr.add] using hb, fun i hi => ?_⟩
  have := h i hi
  rw [addr_add, Nat.mul_one] at this
  exact this
set_option maxRecDepth 100000 in
theorem open_bytes_at {W : World} {fuel : Nat} {cs : List Value} {x : DataW H × List MemPlace} {base : Nat} {spare : Nat → Bool} {held : Bool} (hf : DataW.trod enc Try.prog W base spare held fuel 25 cs = some x) :
    ∃ a len cap, cs = [.slice a len cap] ∧ ∃ bs : List UInt8, bs.length = len ∧ Rd W (.slice a len cap) len (bc bs) ∧ ((x.1 = .nil ∧ len = 0) ∨ ∃ es sp, x.1 = .slice es sp ∧ es.length = len) := by
  rcases open_slice Try.underlying25 hf with ⟨rfl, rfl⟩ | ⟨a, len, cap, m, n, D, Pl, rfl, -, hl, hm, hmm, rfl, hx⟩
  · exact ⟨none, 0, 0, rfl, [], rfl, rd_nil W, .inl ⟨rfl, rfl⟩⟩
  · have hlm : len ≤ m := by rw [hmm]; split <;> omega
    have each : ∀ i, ∃ b : UInt8, i < len → W.cell? (a.add (i * 1)) = some (.int .u8 (b.toNat : Int)) := by
      intro i
      by_cases hi : i < len
      · obtain ⟨cs', hc, ht⟩ := hx i (by omega)
        rw [show Try.prog.cellsOf 5 = 1 by kernel_rfl] at hc
        obtain ⟨-, -, hat⟩ := World.cells?_some hc
        obtain ⟨x0, e0, hw⟩ := leaf_int (d := 3) (k := .u8) 0 ht (by kernel_rfl)
        refine ⟨UInt8.ofNat x0.toNat, fun _ => ?_⟩
        have := hat 0 (by omega)
        rw [e0, u8_of hw] at this
        simpa [Addr.add] using this
      · exact ⟨0, fun h => absurd h hi⟩
    have F : ∃ g : Nat → UInt8, ∀ i, i < len → W.cell? (a.add (i * 1)) = some (.int .u8 ((g i).toNat : Int)) := ⟨fun i => Classical.choose (each i), fun i => Classical.choose_spec (each i)⟩
    obtain ⟨g, hg⟩ := F
    refine ⟨some a, len, cap, rfl, (List.range len).map g, by simp, ⟨some a, cap, rfl, hl, hm, fun hp => ?_⟩, .inr ⟨_, _, rfl, by simp⟩⟩
    obtain ⟨b, o, rfl, hb, hall⟩ := open_row hp hg
    refine ⟨b, o, rfl, hb, fun j u hj => ?_⟩
    have hj' : j < len := by have := (List.getElem?_eq_some_iff.1 hj).1; simpa [bc] using this
    rw [hall j hj', ← hj]
    simp [bc, hj']
set_option maxRecDepth 100000 in
/-- A slice of bytes that came in as an argument. -/
theorem open_bytes {W : World} {v : Value} {d : DataW H} {p : List MemPlace} {base b0 : Nat} {spare : Nat → Bool} {held : Bool} (hv : Value.okWide Try.prog W .any b0 25 v) (h : DataW.Trod enc Try.prog W base spare held 25 v d p) :
    ∃ a len cap, v = .slice a len cap ∧ ∃ bs : List UInt8, bs.length = len ∧ Rd W (.slice a len cap) len (bc bs) ∧ ((d = .nil ∧ len = 0) ∨ ∃ es sp, d = .slice es sp ∧ es.length = len) := by
  obtain ⟨a0, len0, cap0, rfl⟩ := okWide_slice Try.underlying25 hv
  obtain ⟨fuel, hf⟩ := h
  obtain ⟨a, len, cap, hcs, bs, h1, h2, h3⟩ := open_bytes_at hf
  simp only [Value.cells, List.cons.injEq, and_true] at hcs
  exact ⟨a, len, cap, hcs, bs, h1, h2, h3⟩
end
end Go.Proofs.Ytaechgnjdjijkaa
