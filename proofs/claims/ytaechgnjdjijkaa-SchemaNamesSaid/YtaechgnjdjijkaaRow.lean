/- Great rows of cells: built, stored and loaded whole, by laws that fit one kind of operation alone. -/
import Derived.Test.YtaechgnjdjijkaaWn
import Derived.Deep.WholeRow
namespace Go.Proofs.Ytaechgnjdjijkaa
open Go.RowKit
section
variable {P : Program} {ops : Array Oper} {rest : List Oper} {a : Act} {w : World} {Q : Exit → Act → World → Prop}
theorem wpList_build_as (dst : Option Tmp) (ty : TypeId) (pos : String) (af : Array Edge) (t : TypeId) (parts : Array (Nat × Operand)) (vals : Array (Nat × Value)) (v : Value)
    (hv : (parts.map fun (i, x) => (i, a.eval x)) = vals) (hrun : (Instr.build t vals).run P w = .ok v w) (h : wpList P ops Q rest (a.put dst v) w) : wpList P ops Q ({ dst := dst, op := .build t parts, type := ty, pos := pos, after := af, guard := none } :: rest) a w :=
  wpList_plain rfl fun _ hK => by
    unfold Oper.wp execOp
    simp only [Sem.run_bind, hv, hrun, Result.andThen_ok]
    exact hK _ _ h
theorem wpList_store_as (dst : Option Tmp) (ty2 : TypeId) (pos : String) (af : Array Edge) (ty : TypeId) (x y : Operand) (g : Nat) (cells : Array Value) (hx : a.eval x = .pointer (some ⟨g, 0, none⟩)) (hy : a.eval y = .agg cells)
    (t : TypeId) (old : Array Value) (hg : w.heap[g]? = some (.cells old t (0, 0))) (hi : (P.info? ty).map (·.size) = some cells.size) (hold : old.size = cells.size) (h1 : cells.all (·.oneCell') = true)
    (h : wpList P ops Q rest (a.put dst undef) (w.setRow g cells)) : wpList P ops Q ({ dst := dst, op := .store ty x y, type := ty2, pos := pos, after := af, guard := none } :: rest) a w :=
  wpList_store_row rfl ty x y rfl g cells hx hy t old hg hi hold h1 h
theorem wpList_load_as (dst : Option Tmp) (ty2 : TypeId) (pos : String) (af : Array Edge) (ty : TypeId) (x : Operand) (g : Nat) (cs : Array Value) (hx : a.eval x = .pointer (some ⟨g, 0, none⟩)) (t : TypeId) (d : TypeDesc)
    (hg : w.heap[g]? = some (.cells cs t (0, 0))) (hu : P.underlying ty = some d) (hd : (match d with | .struct _ | .array _ _ => true | _ => false) = true) (hi : (P.info? ty).map (·.size) = some cs.size)
    (h : wpList P ops Q rest (a.put dst (.agg cs)) w) : wpList P ops Q ({ dst := dst, op := .load ty x, type := ty2, pos := pos, after := af, guard := none } :: rest) a w :=
  wpList_load_row rfl ty x rfl g hx t cs (0, 0) d hg hu hd hi h
end
theorem setRow_below {w : World} {g : Nat} {cs : Array Value} {B : Nat} (hg : B ≤ g) : Below B w (w.setRow g cs) :=
  ⟨rfl, rfl, rfl, by simp [World.setRow], fun k hk => by
    show (w.heap.modify g _)[k]? = _
    rw [Array.getElem?_modify, if_neg (by omega)]⟩
theorem Bk.row {w : World} {g : Nat} {t : TypeId} {cs cs' : Array Value} (h : Bk w g t cs) : Bk (w.setRow g cs') g t cs' := setRow_heap w g cs cs' t (0, 0) h
theorem Bk.rowFar {w : World} {g g' : Nat} {t : TypeId} {cs cs' : Array Value} (h : Bk w g t cs) (hne : g ≠ g') : Bk (w.setRow g' cs') g t cs := by
  unfold Bk at h ⊢
  show (w.heap.modify g' _)[g]? = _
  rw [Array.getElem?_modify, if_neg (fun e => hne e.symm)]
  exact h
theorem bel_drewN {B : Nat} {w0 w : World} (h : Below B w0 w) (n : Nat) : Below B w0 (w.drewN n) := ⟨h.os, h.tape, h.output, h.size, h.block⟩
end Go.Proofs.Ytaechgnjdjijkaa
