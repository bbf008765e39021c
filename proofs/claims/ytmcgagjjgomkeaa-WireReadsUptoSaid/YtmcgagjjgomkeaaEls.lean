/- Lists of what is written, in memory. -/
import Derived.Test.YtmcgagjjgomkeaaPut5
namespace Go.Proofs.Ytmcgagjjgomkeaa
open Go.RowKit Go.Lib

/-- Something that is written, with the addresses of its slices. -/
structure Pe where
  pt : Pt
  A : Option Addr
  c : Nat
  A2 : Option Addr
  c2 : Nat
def Pe.arr (e : Pe) : Array Value := ptv e.pt.kind e.pt.x e.pt.text e.A e.pt.b.length e.c e.A2 e.pt.l.length e.c2
def Pe.cells (e : Pe) : List Value := e.arr.toList
theorem Pe.cells_length (e : Pe) : e.cells.length = 5 := rfl
def Pe.ok (W0 : World) (e : Pe) : Prop := Rd W0 (.slice e.A e.pt.b.length e.c) e.pt.b.length (bc e.pt.b) ∧ Rd W0 (.slice e.A2 e.pt.l.length e.c2) e.pt.l.length (ic e.pt.l) ∧ (∀ a ∈ e.pt.l, I64 a) ∧ e.pt.x < 18446744073709551616 ∧ e.pt.size ≤ 33554432
theorem Pe.ok.pv {W0 : World} {e : Pe} (h : e.ok W0) : Pv W0 e.pt (.agg e.arr) := ⟨e.A, e.c, e.A2, e.c2, rfl, h.1, h.2.1, h.2.2.1, h.2.2.2.1, by have := h.2.2.2.2; omega⟩
def elc (es : List Pe) : List Value := es.flatMap Pe.cells
theorem elc_at {es : List Pe} {k : Nat} {e : Pe} (h : es[k]? = some e) {j : Nat} {u : Value} (hj : e.cells[j]? = some u) : (elc es)[k * 5 + j]? = some u := flat_at Pe.cells 5 Pe.cells_length es k e h j u hj
theorem elc_length (es : List Pe) : (elc es).length = es.length * 5 := flat_length Pe.cells 5 Pe.cells_length es
theorem elc_append (a b : List Pe) : elc (a ++ b) = elc a ++ elc b := by simp [elc]
theorem elc_one (es : List Pe) : ∀ u ∈ elc es, u.oneCell' = true := by
  intro u hu
  obtain ⟨e, -, he⟩ := List.mem_flatMap.1 hu
  have : u = .int .i64 e.pt.kind ∨ u = .int .u64 (e.pt.x : Int) ∨ u = .string e.pt.text ∨ u = .slice e.A e.pt.b.length e.c ∨ u = .slice e.A2 e.pt.l.length e.c2 := by
    simpa [Pe.cells, Pe.arr, ptv] using he
  rcases this with rfl | rfl | rfl | rfl | rfl <;> rfl
theorem ptInfo : (Try.prog.info? 39).map (fun i => (i.zero, i.size, i.bytes)) = some (some (.agg #[.int .i64 0, .int .u64 0, .string ⟨#[]⟩, .slice none 0 0, .slice none 0 0]), 5, 80) := by kernel_rfl
/-- All the bytes. -/
noncomputable def flat (es : List Pe) : List UInt8 := es.flatMap fun e => e.pt.form
theorem flat_append (a b : List Pe) : flat (a ++ b) = flat a ++ flat b := by simp [flat]
theorem flat_cons (e : Pe) (b : List Pe) : flat (e :: b) = e.pt.form ++ flat b := rfl
theorem flat_snoc (a : List Pe) (e : Pe) : flat (a ++ [e]) = flat a ++ e.pt.form := by simp [flat]
theorem flat_le {W0 : World} : ∀ (es : List Pe), (∀ e ∈ es, e.ok W0) → (flat es).length ≤ es.length * 33554432
  | [], _ => by simp [flat]
  | e :: r, h => by
    rw [flat_cons, List.length_append, List.length_cons]
    have h1 := flat_le r (fun x hx => h x (List.mem_cons_of_mem _ hx))
    obtain ⟨_, _, hI, hx, hs⟩ := h e (List.mem_cons_self ..)
    have h2 := Pt.form_length hI hx (by omega)
    rw [Nat.succ_mul]
    omega
open Classical in
/-- What has bytes. -/
noncomputable def did (es : List Pe) : List Pe := es.filter fun e => decide (e.pt.form ≠ [])
theorem did_snoc_yes (a : List Pe) {e : Pe} (h : e.pt.form ≠ []) : did (a ++ [e]) = did a ++ [e] := by simp [did, h]
theorem did_snoc_no (a : List Pe) {e : Pe} (h : e.pt.form = []) : did (a ++ [e]) = did a := by simp [did, h]
theorem flat_did : ∀ (es : List Pe), flat (did es) = flat es
  | [] => rfl
  | e :: r => by
    have ih := flat_did r
    by_cases h : e.pt.form = []
    · rw [flat_cons, h, List.nil_append, ← ih]
      congr 1
      simp [did, h]
    · rw [flat_cons, ← ih, ← flat_cons]
      congr 1
      simp [did, h]
theorem did_mem {es : List Pe} {e : Pe} (h : e ∈ did es) : e ∈ es ∧ e.pt.form ≠ [] := by simpa [did] using h
theorem did_length (es : List Pe) : (did es).length ≤ es.length := by unfold did; exact List.length_filter_le _ _
theorem flat_split {es : List Pe} {k : Nat} {e : Pe} (h : es[k]? = some e) : flat es = flat (es.take k) ++ (e.pt.form ++ flat (es.drop (k + 1))) := by
  have hk := (List.getElem?_eq_some_iff.1 h).1
  have : es = es.take k ++ (e :: es.drop (k + 1)) := by
    have e1 : e = es[k] := by have := List.getElem?_eq_getElem hk; rw [this] at h; exact (Option.some.inj h).symm
    rw [e1, ← List.drop_eq_getElem_cons hk, List.take_append_drop]
  conv => lhs; rw [this]
  rw [flat_append, flat_cons]
theorem take_snoc_pe {es : List Pe} {k : Nat} {e : Pe} (h : es[k]? = some e) : es.take (k + 1) = es.take k ++ [e] := by rw [List.take_add_one, h]; rfl
end Go.Proofs.Ytmcgagjjgomkeaa
