/- Wire: Base, Mem, Num, Fold, Wr, StrApp, Wr2, Wr3, Rdr, Scope2, RNum, Same. -/
import Derived.Test.YtaechgnjdjijkaaRows
import Derived.WalkKit
import Derived.WalkSpells
import Derived.WalkLawsBesides
import Derived.Lib.Hide
import Derived.BigQuiet
import Derived.Deep.QuietTactic
import Derived.Maps.AppendAt
import Derived.Laws.OwnMore
import Derived.Laws.Rows
import Derived.OneCell
import Derived.Deep.AppendLies
import Derived.WalkSmall
import Derived.Lib.MinMax
import Derived.IntWalk
import Derived.Laws.BitsAllLaws
import Derived.Lib.AppendStr
import Derived.Deep.RegionHeld3
import Derived.RegionTactic
import Derived.ScopeJumps
import Derived.WalkMore
import Derived.Laws.BytesArg
/- Small lemmas for the walks: endings, worlds that only grew. -/
namespace Go.Proofs.Ytaechgnjdjijkaa
open Go.RowKit

theorem ret_int {k : IntKind} {a b : Int} (h : a = b) : Ending.returned (.int k a) = .returned (.int k b) := by rw [h]
theorem ret_bool {a b : Bool} (h : a = b) : Ending.returned (.bool a) = .returned (.bool b) := by rw [h]
theorem ret_val {a b : Value} (h : a = b) : Ending.returned a = .returned b := by rw [h]

/-- What lies below the size of an older world is read as it was. -/
theorem bcell {W w1 : World} (hb : Below W.heap.size W w1) : (∀ b o, b < W.heap.size → w1.cell? ⟨b, o, none⟩ = W.cell? ⟨b, o, none⟩) ∧ (∀ b o, b < W.heap.size → w1.frozen? ⟨b, o, none⟩ = W.frozen? ⟨b, o, none⟩) :=
  ⟨fun b o h => hb.cell (p := ⟨b, o, none⟩) h, fun b o h => hb.frozen (p := ⟨b, o, none⟩) h⟩

theorem take_snoc (s : ByteArray) (k : Nat) (h : k < s.size) : s.data.toList.take (k + 1) = s.data.toList.take k ++ [s[k]] := by
  rw [List.take_succ_eq_append_getElem (by simpa using h)]; rfl

/-- One world that has only grown out of another. -/
theorem below_trans {a b c : World} (h : Below a.heap.size a b) (k : Below b.heap.size b c) : Below a.heap.size a c := h.trans (k.mono h.size)
theorem below_alloc (w : World) (o : Obj) : Below w.heap.size w (w.alloc o) := (Below.refl _ w).alloc (Nat.le_refl _) o
theorem below_drew (w : World) : Below w.heap.size w w.drew := (Below.refl _ w).drew
end Go.Proofs.Ytaechgnjdjijkaa

/- Small lemmas on memory, over any program: rows of the call's own, slices that read as cells, blocks that are known whole, what has turned and what stays. -/
namespace Go.Proofs.Ytaechgnjdjijkaa
open Go.RowKit

/-- A row of the call's own with an element at least: its address, its cells. -/
theorem ownsRow_open {W : World} {base : Nat} {e : TypeId} {size : Nat} {v : Value} {k : Nat} {xs : List Value} (h : W.ownsRow base e size v (k + 1) xs) :
    ∃ g cap, v = .slice (some ⟨g, 0, none⟩) (k + 1) cap ∧ base ≤ g ∧ g < W.heap.size ∧ k + 1 ≤ cap ∧ cap ≤ maxLen ∧ (∀ j u, xs[j]? = some u → W.cell? ⟨g, j, none⟩ = some u) ∧ ∀ j, W.frozen? ⟨g, j, none⟩ = false := by
  rcases h.2 with ⟨_, h0⟩ | ⟨g, cap, cur, rfl, hb, hg, hc, hm, hs, ht⟩
  · omega
  · refine ⟨g, cap, rfl, hb, (Array.getElem?_eq_some_iff.1 hg).1, hc, hm, fun j u hj => ?_, fun j => by simp [World.frozen?, hg]⟩
    have hj' : j < xs.length := by
      rcases Nat.lt_or_ge j xs.length with h1 | h1
      · exact h1
      · rw [List.getElem?_eq_none h1] at hj; cases hj
    simp only [World.cell?, hg]
    rw [← ht, List.getElem?_take_of_lt (by rw [← h.1]; exact hj')] at hj
    simpa using hj

theorem flat_at {α : Type} (f : α → List Value) (m : Nat) (hf : ∀ x, (f x).length = m) : ∀ (l : List α) (k : Nat) (x : α), l[k]? = some x → ∀ (j : Nat) (u : Value), (f x)[j]? = some u → (l.flatMap f)[k * m + j]? = some u
  | [], _, _, h => by simp at h
  | y :: l, 0, x, h => fun j u hj => by
    simp only [List.getElem?_cons_zero, Option.some.injEq] at h
    subst h
    rw [List.flatMap_cons, Nat.zero_mul, Nat.zero_add, List.getElem?_append_left (List.getElem?_eq_some_iff.1 hj).1]
    exact hj
  | y :: l, k + 1, x, h => fun j u hj => by
    have ih := flat_at f m hf l k x (by simpa using h) j u hj
    have e : (k + 1) * m + j = k * m + j + m := by rw [Nat.succ_mul]; omega
    rw [List.flatMap_cons, e, List.getElem?_append_right (by rw [hf]; omega), hf, Nat.add_sub_cancel]
    exact ih
theorem flat_length {α : Type} (f : α → List Value) (m : Nat) (hf : ∀ x, (f x).length = m) : ∀ (l : List α), (l.flatMap f).length = l.length * m
  | [] => by simp
  | x :: l => by rw [List.flatMap_cons, List.length_append, hf, flat_length f m hf l, List.length_cons, Nat.succ_mul]; omega

/-- A slice that reads as these cells (n elements). -/
def Rd (w : World) (v : Value) (n : Nat) (xs : List Value) : Prop := ∃ a cap, v = .slice a n cap ∧ n ≤ cap ∧ cap ≤ maxLen ∧ (0 < n → ∃ g off, a = some ⟨g, off, none⟩ ∧ g < w.heap.size ∧ ∀ (j : Nat) (u : Value), xs[j]? = some u → w.cell? ⟨g, off + j, none⟩ = some u)

theorem Rd.of_owns {w : World} {base : Nat} {e : TypeId} {size : Nat} {v : Value} {n : Nat} {xs : List Value} (h : w.ownsRow base e size v n xs) : Rd w v n xs := by
  cases n with
  | zero =>
    rcases h.2 with ⟨rfl, _⟩ | ⟨g, cap, cur, rfl, _, _, hc, hm, _, _⟩
    · exact ⟨none, 0, rfl, Nat.le_refl _, by decide, fun h => by omega⟩
    · exact ⟨_, cap, rfl, hc, hm, fun h => by omega⟩
  | succ k =>
    obtain ⟨g, cap, rfl, _, hg, hc, hm, hcell, _⟩ := ownsRow_open h
    exact ⟨_, cap, rfl, hc, hm, fun _ => ⟨g, 0, rfl, hg, fun j u hj => by rw [Nat.zero_add]; exact hcell j u hj⟩⟩

theorem Rd.below {w w' : World} {v : Value} {n : Nat} {xs : List Value} (h : Rd w v n xs) (hb : Below w.heap.size w w') : Rd w' v n xs := by
  obtain ⟨a, cap, hv, hc, hm, hr⟩ := h
  refine ⟨a, cap, hv, hc, hm, fun hn => ?_⟩
  obtain ⟨g, off, ha, hg, hcell⟩ := hr hn
  exact ⟨g, off, ha, Nat.lt_of_lt_of_le hg hb.size, fun j u hj => (hb.cell (p := ⟨g, off + j, none⟩) hg).trans (hcell j u hj)⟩

theorem only_step {w0 w w' : World} {row row' : Option Nat} (h : w0.grownBy w row) (k : w.grownBy w' row') (hr : ∀ b, row' = some b → row = some b ∨ w0.heap.size ≤ b) : w0.grownBy w' row :=
  ⟨k.os.trans h.os, k.tape.trans h.tape, k.output.trans h.output, Nat.le_trans h.size k.size, fun i hi hne =>
    (k.block i (Nat.lt_of_lt_of_le hi h.size) (fun e => by rcases hr i e.symm with h1 | h1; exact hne h1.symm; omega)).trans (h.block i hi hne)⟩
theorem only_refl (w : World) (row : Option Nat) : w.grownBy w row := ⟨rfl, rfl, rfl, Nat.le_refl _, fun _ _ _ => rfl⟩
theorem only_drew {w0 w : World} {row : Option Nat} (h : w0.grownBy w row) : w0.grownBy w.drew row := ⟨h.os, h.tape, h.output, h.size, h.block⟩
theorem only_alloc {w0 w : World} {row : Option Nat} (h : w0.grownBy w row) (o : Obj) : w0.grownBy (w.alloc o) row := only_step h (World.grownBy_alloc w o none) (fun b e => by cases e)
theorem grownBy_set (W : World) (p : Addr) (v : Value) : W.grownBy (W.setCell p v) (some p.block) :=
  ⟨rfl, rfl, rfl, ((Below.refl 0 W).setCell (p := p) (Nat.zero_le _) v).size, fun k _ hk => Below.heap_setCell _ _ _ k (fun e => hk (by rw [e]))⟩
theorem only_set {w0 w : World} {row : Option Nat} (h : w0.grownBy w row) (p : Addr) (v : Value) (hr : row = some p.block ∨ w0.heap.size ≤ p.block) : w0.grownBy (w.setCell p v) row :=
  only_step h (grownBy_set w p v) (fun b e => by cases e; exact hr)
theorem only_below {w0 w : World} {row : Option Nat} (h : w0.grownBy w row) {B : Nat} (hB : B ≤ w0.heap.size) (hr : ∀ b, row = some b → B ≤ b) : Below B w0 w :=
  ⟨h.os, h.tape, h.output, h.size, fun k hk => h.block k (by omega) (fun e => by have := hr k e.symm; omega)⟩
theorem only_of_below {w0 w : World} (h : Below w0.heap.size w0 w) (row : Option Nat) : w0.grownBy w row := ⟨h.os, h.tape, h.output, h.size, fun i hi _ => h.block i hi⟩

/-- A row of the call's own that has an element. -/
theorem ownsRow_at {W : World} {base : Nat} {e : TypeId} {size n cap : Nat} {a : Option Addr} {xs : List Value} (h : W.ownsRow base e size (.slice a n cap) n xs) (hn : 0 < n) :
    ∃ g, a = some ⟨g, 0, none⟩ ∧ base ≤ g ∧ g < W.heap.size ∧ n ≤ cap ∧ cap ≤ maxLen ∧ (∀ j u, xs[j]? = some u → W.cell? ⟨g, j, none⟩ = some u) ∧ ∀ j, W.frozen? ⟨g, j, none⟩ = false := by
  obtain ⟨k, rfl⟩ : ∃ k, n = k + 1 := ⟨n - 1, by omega⟩
  obtain ⟨g, cap', hv, r⟩ := ownsRow_open h
  cases hv
  exact ⟨g, rfl, r⟩
theorem ownsRow_shape {W : World} {base : Nat} {e : TypeId} {size n : Nat} {v : Value} {xs : List Value} (h : W.ownsRow base e size v n xs) : ∃ a cap, v = .slice a n cap ∧ n ≤ cap ∧ cap ≤ maxLen := by
  rcases h.2 with ⟨rfl, rfl⟩ | ⟨g, cap, cur, rfl, _, _, hc, hm, _, _⟩
  · exact ⟨none, 0, rfl, Nat.le_refl _, by decide⟩
  · exact ⟨_, cap, rfl, hc, hm⟩
theorem ownsRow_cell {W : World} {base : Nat} {e : TypeId} {size n : Nat} {v : Value} {xs : List Value} (h : W.ownsRow base e size v n xs) {j : Nat} (hj : j < n * size) : ∃ u, xs[j]? = some u :=
  ⟨_, List.getElem?_eq_getElem (by rw [h.1]; exact hj)⟩
theorem ownsRow_drew {W : World} {base : Nat} {e : TypeId} {size n : Nat} {v : Value} {xs : List Value} (h : W.ownsRow base e size v n xs) : W.drew.ownsRow base e size v n xs := h

/-- A block that is known whole. -/
def Bk (w : World) (g : Nat) (t : TypeId) (cs : Array Value) : Prop := w.heap[g]? = some (.cells cs t (0, 0))
section
variable {w w' : World} {g : Nat} {t : TypeId} {cs : Array Value}
theorem Bk.lt (h : Bk w g t cs) : g < w.heap.size := (Array.getElem?_eq_some_iff.1 h).1
theorem Bk.cell (h : Bk w g t cs) (i : Nat) : w.cell? ⟨g, i, none⟩ = cs[i]? := cell_of_row w g i cs t (0, 0) h
theorem Bk.frozen (h : Bk w g t cs) (i : Nat) : w.frozen? ⟨g, i, none⟩ = false := frozen_of_row w g i cs t h
theorem Bk.new (w : World) (t : TypeId) (cs : Array Value) : Bk (w.alloc (.cells cs t)) w.heap.size t cs := heap_alloc_new w _
theorem Bk.drewN (h : Bk w g t cs) (n : Nat) : Bk (w.drewN n) g t cs := h
theorem Bk.alloc (h : Bk w g t cs) (o : Obj) : Bk (w.alloc o) g t cs := (Below.heap_alloc w o g h.lt).trans h
theorem Bk.set (h : Bk w g t cs) (i : Nat) (u : Value) : Bk (w.setCell ⟨g, i, none⟩ u) g t (cs.setIfInBounds i u) := by
  unfold Bk at h ⊢
  simp [World.setCell, Array.getElem?_modify, h]
theorem Bk.far (h : Bk w g t cs) {p : Addr} (hp : g ≠ p.block) (u : Value) : Bk (w.setCell p u) g t cs := (Below.heap_setCell w p u g hp).trans h
theorem Bk.below (h : Bk w g t cs) (hb : Below w.heap.size w w') : Bk w' g t cs := (hb.block g h.lt).trans h
theorem Bk.grown {row : Option Nat} (h : Bk w g t cs) (hb : w.grownBy w' row) (hg : row ≠ some g) : Bk w' g t cs := (hb.block g h.lt (fun e => hg e.symm)).trans h
theorem own_bk_ne {base : Nat} {e : TypeId} {size n : Nat} {v : Value} {xs : List Value} (h : w.ownsRow base e size v n xs) (hg : Bk w g t cs) (hne : e ≠ t) : v.ownBlock ≠ some g := by
  rcases h.2 with ⟨rfl, _⟩ | ⟨g', cap, cur, rfl, _, hh, _⟩
  · simp [Value.ownBlock]
  · intro he
    have hgg : g' = g := by simpa [Value.ownBlock] using he
    subst hgg
    have := hh.symm.trans hg
    simp only [Option.some.injEq, Obj.cells.injEq] at this
    exact hne this.2.1
theorem own_own_ne {base base' : Nat} {e e' : TypeId} {size size' n n' : Nat} {v v' : Value} {xs xs' : List Value} (h : w.ownsRow base e size v n xs) (h' : w.ownsRow base' e' size' v' n' xs') (hne : e ≠ e') : v.ownBlock = none ∨ v.ownBlock ≠ v'.ownBlock := by
  rcases h'.2 with ⟨rfl, _⟩ | ⟨g', cap, cur, rfl, _, hh, _⟩
  · cases hv : v.ownBlock with
    | none => exact .inl rfl
    | some b => right; simp [Value.ownBlock]
  · right
    exact own_bk_ne h (g := g') (t := e') (cs := cur) hh hne
end

/-- A block behind a world that a row's owner has turned. -/
theorem Bk.grownOwn {w w' : World} {g : Nat} {t : TypeId} {cs : Array Value} {base : Nat} {e : TypeId} {size n : Nat} {v : Value} {xs : List Value} (h : Bk w g t cs) (ho : w.ownsRow base e size v n xs) (hne : e ≠ t) (hb : w.grownBy w' v.ownBlock) : Bk w' g t cs :=
  h.grown hb (own_bk_ne ho h hne)

section
variable {P : Program} (w : World)
theorem run_append_nil' (base : Nat) (t ty e : TypeId) (i : TypeInfo) (size : Nat) (ht : P.underlying t = some (.slice e)) (hi : P.info? e = some i)
    (v : Value) (n : Nat) (xs : List Value) (hown : w.ownsRow base e size v n xs) (c : Nat) : (Builtin.append_ #[t, t] ty #[v, .slice none 0 c]).run P w = .ok v w := by
  rcases hown.2 with ⟨rfl, rfl⟩ | ⟨g, cap, cur, rfl, _, _, hnc, _⟩
  · simp [Builtin.append_, run_underlying ht, sizeOf, typeInfo, hi, Builtin.lenOf, Builtin.firstCells]
  · simp [Builtin.append_, run_underlying ht, sizeOf, typeInfo, hi, Builtin.lenOf, Builtin.firstCells, hnc, storeCells]

theorem addr_add (g o j : Nat) : (⟨g, o, none⟩ : Addr).add j = ⟨g, o + j, none⟩ := by unfold Addr.add; split <;> simp_all

/-- The new row: its owner's old block, or a new one. -/
theorem run_append_rd (base : Nat) (t ty e : TypeId) (i : TypeInfo) (z : Value) (size bytes : Nat) (ht : P.underlying t = some (.slice e)) (hi : P.info? e = some i) (hz : i.zero = some z)
    (hsize : i.size = size) (hby : i.bytes = bytes) (hzs : z.cells.size = size) (hsz : 0 < size)
    (v : Value) (n : Nat) (xs : List Value) (hown : w.ownsRow base e size v n xs)
    (A : Option Addr) (m c : Nat) (news : List Value) (hl : news.length = m * size) (hr : Rd w (.slice A m c) m news) (h1 : ∀ u ∈ news, u.oneCell' = true)
    (h63 : n + m ≤ maxLen) (hbytes : (n + m) * bytes ≤ 140737488355328) (hbase : base ≤ w.heap.size) :
    ∃ v' w', (Builtin.append_ #[t, t] ty #[v, .slice A m c]).run P w = .ok v' w' ∧ w'.ownsRow base e size v' (n + m) (xs ++ news) ∧ w.grownBy w' v.ownBlock ∧
      (v'.ownBlock = v.ownBlock ∨ v'.ownBlock = some w.heap.size) := by
  obtain ⟨A', c', hv, _, _, hr⟩ := hr
  cases hv
  rcases A with _ | ad
  · have hm : m = 0 := by
      rcases Nat.eq_zero_or_pos m with h0 | h0
      · exact h0
      · obtain ⟨g, o, h, _⟩ := hr h0
        cases h
    subst hm
    have hn : news = [] := List.eq_nil_of_length_eq_zero (by simpa using hl)
    subst hn
    exact ⟨v, w, run_append_nil' w base t ty e i size ht hi v n xs hown c, by simpa using hown, only_refl w _, .inl rfl⟩
  · have hcells : ∀ j u, news[j]? = some u → w.cell? (ad.add j) = some u := by
      intro j u hu
      rcases Nat.eq_zero_or_pos m with h0 | h0
      · subst h0
        have hn : news = [] := List.eq_nil_of_length_eq_zero (by simpa using hl)
        subst hn
        simp at hu
      · obtain ⟨g, o, h, _, hc⟩ := hr h0
        cases h
        rw [addr_add]
        exact hc j u hu
    obtain ⟨v', w', hrun, h2, h3, _, h5⟩ := run_append_own_at (P := P) w base t ty e i z size bytes ht hi hz hsize hby hzs hsz v n xs hown ad m c news hl hcells h1 h63 hbytes hbase
    exact ⟨v', w', hrun, h2, h3, h5⟩

theorem wpList_append_rd {ops : Array Oper} {rest : List Oper} {o : Oper} {a : Act} {Q : Exit → Act → World → Prop} (hgd : o.guard = none) (s x : Operand) (t : TypeId)
    (ho : o.op = .call { callee := .builtin .append, args := #[s, x], argTypes := #[t, t] })
    (base : Nat) (e : TypeId) (i : TypeInfo) (z : Value) (size bytes : Nat) (ht : P.underlying t = some (.slice e)) (hi : P.info? e = some i) (hz : i.zero = some z)
    (hsize : i.size = size) (hby : i.bytes = bytes) (hzs : z.cells.size = size) (hsz : 0 < size)
    (v : Value) (n : Nat) (xs : List Value) (hs : a.eval s = v) (hown : w.ownsRow base e size v n xs)
    (A : Option Addr) (m c : Nat) (news : List Value) (hx : a.eval x = .slice A m c) (hl : news.length = m * size) (hr : Rd w (.slice A m c) m news) (h1 : ∀ u ∈ news, u.oneCell' = true)
    (h63 : n + m ≤ maxLen) (hbytes : (n + m) * bytes ≤ 140737488355328) (hbase : base ≤ w.heap.size)
    (h : ∀ v' w', w'.ownsRow base e size v' (n + m) (xs ++ news) → w.grownBy w' v.ownBlock → (v'.ownBlock = v.ownBlock ∨ v'.ownBlock = some w.heap.size) → wpList P ops Q rest (a.put o.dst v') w') : wpList P ops Q (o :: rest) a w :=
  wpList_plain hgd fun _ hK => by
    obtain ⟨v', w', hrun, h2, h3, h4⟩ := run_append_rd (P := P) w base t o.type e i z size bytes ht hi hz hsize hby hzs hsz v n xs hown A m c news hl hr h1 h63 hbytes hbase
    refine (?_ : o.wp P a w _ _)
    unfold Oper.wp execOp
    simp only [ho, resolve, invoke, builtin, Sem.run_bind, Sem.run_pure, Result.andThen_ok, List.map_toArray, List.map_cons, List.map_nil, hs, hx, hrun]
    exact hK _ _ (h v' w' h2 h3 h4)
end

theorem below_grown {w w' : World} (h : Below w.heap.size w w') (row : Option Nat) : w.grownBy w' row := ⟨h.os, h.tape, h.output, h.size, fun i hi _ => h.block i hi⟩
theorem own_below {w w' : World} {base : Nat} {e : TypeId} {size n : Nat} {v : Value} {xs : List Value} (h : w.ownsRow base e size v n xs) (hb : Below w.heap.size w w') : w'.ownsRow base e size v n xs :=
  h.kept (below_grown hb none) (by cases v.ownBlock <;> simp)
theorem own_set {w : World} {base : Nat} {e : TypeId} {size n : Nat} {v : Value} {xs : List Value} (h : w.ownsRow base e size v n xs) {g : Nat} {t : TypeId} {cs : Array Value} (hg : Bk w g t cs) (hne : e ≠ t) (i : Nat) (u : Value) : (w.setCell ⟨g, i, none⟩ u).ownsRow base e size v n xs :=
  ownsRow_setCell_other h (own_bk_ne h hg hne) u

theorem own_lit {base : Nat} {e : TypeId} {size : Nat} (w : World) (cs : Array Value) (n g : Nat) (hg : w.heap.size = g) (hb : base ≤ g) (hm : n ≤ maxLen) (hs : cs.size = n * size) :
    (w.alloc (.cells cs e)).ownsRow base e size (.slice (some ⟨g, 0, none⟩) n n) n cs.toList := by
  subst hg; exact World.ownsRow_lit w cs n hb hm hs
theorem news_lit (w : World) (cs : Array Value) (t : TypeId) (g : Nat) (hg : w.heap.size = g) : ∀ j u, cs.toList[j]? = some u → (w.alloc (.cells cs t)).cell? ((⟨g, 0, none⟩ : Addr).add j) = some u := by
  subst hg; exact World.news_of_block (heap_alloc_new _ _)

theorem ownsRow_set {w : World} {base : Nat} {e : TypeId} {size n cap g j : Nat} {xs : List Value} (h : w.ownsRow base e size (.slice (some ⟨g, 0, none⟩) n cap) n xs) (u : Value) :
    (w.setCell ⟨g, j, none⟩ u).ownsRow base e size (.slice (some ⟨g, 0, none⟩) n cap) n (xs.set j u) := (h.stored j u).1
theorem own_mono {w : World} {base base' : Nat} {e : TypeId} {size : Nat} {v : Value} {n : Nat} {xs : List Value} (h : w.ownsRow base e size v n xs) (hb : base' ≤ base) : w.ownsRow base' e size v n xs := by
  refine ⟨h.1, ?_⟩
  rcases h.2 with h2 | ⟨g, cap, cur, h1, h2, h3⟩
  · exact .inl h2
  · exact .inr ⟨g, cap, cur, h1, Nat.le_trans hb h2, h3⟩

theorem Bk.new' (w : World) (t : TypeId) (cs : Array Value) (g : Nat) (hg : w.heap.size = g) : Bk (w.alloc (.cells cs t)) g t cs := by subst hg; exact Bk.new w t cs

/-- What a call that puts elements behind a row leaves: the row's block and what is new have turned; the new row lies in the old block or in a new one. -/
structure Grew (w w' : World) (v v' : Value) : Prop where
  only : w.grownBy w' v.ownBlock
  at_ : ∀ g, v'.ownBlock = some g → v.ownBlock = some g ∨ w.heap.size ≤ g
theorem Grew.refl (w : World) (v : Value) : Grew w w v v := ⟨only_refl w _, fun _ h => .inl h⟩
theorem Grew.trans {a b c : World} {u v x : Value} (h : Grew a b u v) (k : Grew b c v x) : Grew a c u x :=
  ⟨only_step h.only k.only (fun g e => h.at_ g e), fun g e => by
    rcases k.at_ g e with h1 | h1
    · exact h.at_ g h1
    · exact .inr (Nat.le_trans h.only.size h1)⟩
theorem Grew.of_append {w w' : World} {v v' : Value} (h : w.grownBy w' v.ownBlock) (hat : v'.ownBlock = v.ownBlock ∨ v'.ownBlock = some w.heap.size) : Grew w w' v v' :=
  ⟨h, fun g e => by
    rcases hat with h1 | h1
    · exact .inl (h1 ▸ e)
    · rw [h1] at e; cases e; exact .inr (Nat.le_refl _)⟩
theorem Grew.alloc {w : World} (o : Obj) (v : Value) : Grew w (w.alloc o) v v := ⟨World.grownBy_alloc w o _, fun _ h => .inl h⟩
theorem Grew.of_below {w w' : World} (h : Below w.heap.size w w') (v : Value) : Grew w w' v v := ⟨below_grown h _, fun _ h => .inl h⟩
theorem Grew.below {w w' : World} {v v' : Value} {B : Nat} (h : Grew w w' v v') (hB : B ≤ w.heap.size) (hv : ∀ g, v.ownBlock = some g → B ≤ g) : Below B w w' := only_below h.only hB hv
theorem Bk.grew {w w' : World} {v v' : Value} {g : Nat} {t : TypeId} {cs : Array Value} (h : Bk w g t cs) (k : Grew w w' v v') (hne : v.ownBlock ≠ some g) : Bk w' g t cs := h.grown k.only hne
theorem own_lt {w : World} {base : Nat} {e : TypeId} {size n : Nat} {v : Value} {xs : List Value} (h : w.ownsRow base e size v n xs) {g : Nat} (hg : v.ownBlock = some g) : base ≤ g ∧ g < w.heap.size := h.lt g hg
end Go.Proofs.Ytaechgnjdjijkaa

/- The walks of number, the program's and the reference's. -/
namespace Go.Proofs.Ytaechgnjdjijkaa
open Go.RowKit

/-- Bytes as cells. -/
def bc (l : List UInt8) : List Value := l.map fun b => .int .u8 (b.toNat : Int)
theorem bc_append (a b : List UInt8) : bc (a ++ b) = bc a ++ bc b := by simp [bc]
theorem bc_length (a : List UInt8) : (bc a).length = a.length := by simp [bc]
theorem bc_one (l : List UInt8) : ∀ u ∈ bc l, u.oneCell' = true := by
  intro u hu
  simp only [bc, List.mem_map] at hu
  obtain ⟨x, _, rfl⟩ := hu
  rfl
theorem bc_at {l : List UInt8} {k : Nat} {b : UInt8} (h : l[k]? = some b) : (bc l)[k]? = some (.int .u8 (b.toNat : Int)) := by simp [bc, h]

/-- The number form. -/
def num7 (x : Nat) : List UInt8 := if h : x < 128 then [UInt8.ofNat x] else UInt8.ofNat (x % 128 + 128) :: num7 (x / 128)
termination_by x
decreasing_by omega
theorem num7_small {x : Nat} (h : x < 128) : num7 x = [UInt8.ofNat x] := by unfold num7; rw [dif_pos h]
theorem num7_big {x : Nat} (h : ¬ x < 128) : num7 x = UInt8.ofNat (x % 128 + 128) :: num7 (x / 128) := by rw [num7, dif_neg h]
theorem num7_len : ∀ (k x : Nat), x < 128 ^ (k + 1) → (num7 x).length ≤ k + 1
  | 0, x, h => by rw [num7_small (by simpa using h)]; simp
  | k + 1, x, h => by
    by_cases hx : x < 128
    · rw [num7_small hx]; simp
    · rw [num7_big hx, List.length_cons]
      have := num7_len k (x / 128) (by rw [Nat.div_lt_iff_lt_mul (by decide)]; rw [Nat.pow_succ] at h; exact h)
      omega
theorem num7_le (x : Nat) (h : x < 18446744073709551616) : (num7 x).length ≤ 10 := num7_len 9 x (Nat.lt_of_lt_of_le h (by decide))
theorem num7_pos (x : Nat) : 0 < (num7 x).length := by
  by_cases hx : x < 128
  · rw [num7_small hx]; simp
  · rw [num7_big hx]; simp

theorem or128 : ∀ a : Nat, a < 256 → a ||| 128 = a % 128 + 128 := by decide +kernel
theorem bits_or128 (y : Nat) : bits .or .u8 ((y : Int) % 256) 128 = (y : Int) % 128 + 128 := by
  have h := u8_or_nat (y % 256) 128 (Nat.mod_lt _ (by decide)) (by decide)
  rw [or128 _ (Nat.mod_lt _ (by decide))] at h
  have e : (y % 256) % 128 = y % 128 := by omega
  rw [e] at h
  have e2 : (((y % 256 : Nat)) : Int) = (y : Int) % 256 := by omega
  rw [e2] at h
  rw [show (128 : Int) = ((128 : Nat) : Int) from rfl, h]
  omega
theorem bc_small {y : Nat} (h : y < 256) : bc [UInt8.ofNat y] = [.int .u8 (y : Int)] := by
  simp only [bc, List.map_cons, List.map_nil, UInt8.toNat_ofNat']
  rw [Nat.mod_eq_of_lt (by omega)]

theorem u8Info : (Try.prog.info? 5).map (fun i => (i.zero, i.size, i.bytes)) = some (some (.int .u8 0), 1, 1) := by kernel_rfl

set_option maxRecDepth 100000 in
set_option maxHeartbeats 1000000 in
theorem number_any (B : Nat) (v : Value) (n x : Nat) (bs : List Value) (w : World) (ho : w.ownsRow B 5 1 v n bs) (hB : B ≤ w.heap.size) (hx : x < 18446744073709551616) (hn : n + 20 ≤ 140737488355328) :
    Calls Try.prog 96 #[v, .int .u64 (x : Int)] w fun e w' => ∃ v', e = .returned v' ∧ Grew w w' v v' ∧ w'.ownsRow B 5 1 v' (n + (num7 x).length) (bs ++ bc (num7 x)) := by
  obtain ⟨i0, hi0, hz0, hz1, hz2⟩ := info_parts u8Info
  have HO := Lib.hid ho
  have hl := num7_le x hx
  obtain ⟨L, hL⟩ : ∃ L, L = num7 x := ⟨_, rfl⟩
  have HL := Lib.hid hL
  rw [← hL] at hl ⊢
  clear ho hL
  go_enter Try.func96, Try.ntmps96
  go_wp2
  go_loopw [0, 1] (fun p q wr => ∃ (k y : Nat) (pre : List UInt8), q = .int .u64 (y : Int) ∧ y < 18446744073709551616 ∧ L = pre ++ num7 y ∧ pre.length = k ∧ Grew w wr v p ∧ wr.ownsRow B 5 1 p (n + k) (bs ++ bc pre)) (fun _ q _ => (intOf q).toNat)
  case atStart => exact ⟨0, x, [], rfl, hx, HL.out, rfl, Grew.refl _ _, by simpa [bc] using HO.out⟩
  case round =>
    obtain ⟨k, y, pre, rfl, hy, hpre, hk, hg, ho⟩ := hrel
    have HP := Lib.hid hpre
    have HK := Lib.hid hk
    have HG := Lib.hid hg
    have HOK := Lib.hid ho
    have hsz := hg.only.size
    have hkL : k ≤ 10 := by have := congrArg List.length hpre; rw [List.length_append] at this; omega
    clear hpre hg ho hk
    by_cases hlt : y < 128
    · have hlt' : decide ((127 : Int) < (y : Int)) = false := by simp; omega
      have HA := Lib.hid (HOK.out.alloc (.cells #[.int .u8 (y : Int)] 5))
      go_wp2_with (first
        | (at_builtin; refine wpList_append_own_at _ rfl (.tmp 15) (.tmp 18) 25 rfl B 5 i0 _ 1 1 Try.underlying25 hi0 hz0 hz1 hz2 rfl (by decide) _ (n + k) _ rfl HA.out ⟨wr.heap.size, 0, none⟩ 1 1 [.int .u8 (y : Int)] rfl rfl (news_lit wr #[.int .u8 (y : Int)] 5 wr.heap.size rfl) (by simp [Value.oneCell']) (by simp only [maxLen]; omega) (by omega) (by simp; omega) ?_; intro v' w' hown' hgrow _ hat
           have HG' := Lib.hid ((HG.out.trans (Grew.alloc _ _)).trans (Grew.of_append hgrow hat))
           have HO' := Lib.hid hown'
           clear hown' hgrow hat))
      go_ret
      have e1 : L.length = k + 1 := by have h := congrArg List.length HP.out; have h2 := HK.out; rw [num7_small hlt, List.length_append] at h; simp at h; omega
      refine ⟨v', rfl, HG'.out, ?_⟩
      have h := HO'.out
      rw [e1, HP.out, num7_small hlt, bc_append, bc_small (by omega), ← List.append_assoc, ← Nat.add_assoc]
      exact h
    · have hlt' : decide ((127 : Int) < (y : Int)) = true := by simp; omega
      have hbits := bits_or128 y
      have HA := Lib.hid (HOK.out.alloc (.cells #[.int .u8 ((y : Int) % 128 + 128)] 5))
      go_wp2_with (first
        | (at_builtin; refine wpList_append_own_at _ rfl (.tmp 9) (.tmp 13) 25 rfl B 5 i0 _ 1 1 Try.underlying25 hi0 hz0 hz1 hz2 rfl (by decide) _ (n + k) _ rfl HA.out ⟨wr.heap.size, 0, none⟩ 1 1 [.int .u8 ((y : Int) % 128 + 128)] rfl rfl (news_lit wr #[.int .u8 ((y : Int) % 128 + 128)] 5 wr.heap.size rfl) (by simp [Value.oneCell']) (by simp only [maxLen]; omega) (by omega) (by simp; omega) ?_; intro v' w' hown' hgrow _ hat
           have HG' := Lib.hid ((HG.out.trans (Grew.alloc _ _)).trans (Grew.of_append hgrow hat))
           have HO' := Lib.hid hown'
           clear hown' hgrow hat))
      go_roundw
      case rel => exact ⟨k + 1, y / 128, pre ++ [UInt8.ofNat (y % 128 + 128)], by go_num, by omega, by rw [HP.out, num7_big hlt]; simp, by rw [List.length_append, HK.out]; rfl, HG'.out, by
        have h := HO'.out
        rw [bc_append, bc_small (by omega), ← List.append_assoc]
        rw [show (((y % 128 + 128 : Nat)) : Int) = (y : Int) % 128 + 128 by omega]
        exact h⟩
      case measure => simp [intOf]; omega
end Go.Proofs.Ytaechgnjdjijkaa

/- The walks of the reference's Number, of Size, and of fold and unfold. -/
namespace Go.Proofs.Ytaechgnjdjijkaa
open Go.RowKit

set_option maxRecDepth 100000 in
set_option maxHeartbeats 1000000 in
theorem refNumber_any (x : Nat) (w : World) (hx : x < 18446744073709551616) :
    Calls Try.prog 73 #[.int .u64 (x : Int)] w fun e w' => ∃ v', e = .returned v' ∧ Below w.heap.size w w' ∧ w'.ownsRow w.heap.size 5 1 v' (num7 x).length (bc (num7 x)) := by
  obtain ⟨i0, hi0, hz0, hz1, hz2⟩ := info_parts u8Info
  have hl := num7_le x hx
  obtain ⟨L, hL⟩ : ∃ L, L = num7 x := ⟨_, rfl⟩
  have HL := Lib.hid hL
  rw [← hL] at hl ⊢
  clear hL
  go_enter Try.func73, Try.ntmps73
  go_wp2
  go_loopw [0, 3] (fun q p wr => ∃ (k y : Nat) (pre : List UInt8), q = .int .u64 (y : Int) ∧ y < 18446744073709551616 ∧ L = pre ++ num7 y ∧ pre.length = k ∧ Below w.heap.size w wr ∧ wr.ownsRow w.heap.size 5 1 p k (bc pre)) (fun q _ _ => (intOf q).toNat)
  case atStart => exact ⟨0, x, [], rfl, hx, HL.out, rfl, Below.refl _ _, World.ownsRow_nil _ _ _ _⟩
  case round =>
    obtain ⟨k, y, pre, rfl, hy, hpre, hk, hg, ho⟩ := hrel
    have HP := Lib.hid hpre
    have HK := Lib.hid hk
    have HG := Lib.hid hg
    have HOK := Lib.hid ho
    have hsz := hg.size
    have hkL : k ≤ 10 := by have := congrArg List.length hpre; rw [List.length_append] at this; omega
    clear hpre hg ho hk
    by_cases hlt : y < 128
    · have hlt' : decide ((128 : Int) ≤ (y : Int)) = false := by simp; omega
      have HA := Lib.hid (HOK.out.alloc (.cells #[.int .u8 (y : Int)] 5))
      go_wp2_with (first
        | (at_builtin; refine wpList_append_own_at _ rfl (.tmp 15) (.tmp 18) 25 rfl w.heap.size 5 i0 _ 1 1 Try.underlying25 hi0 hz0 hz1 hz2 rfl (by decide) _ k _ rfl HA.out ⟨wr.heap.size, 0, none⟩ 1 1 [.int .u8 (y : Int)] rfl rfl (news_lit wr #[.int .u8 (y : Int)] 5 wr.heap.size rfl) (by simp [Value.oneCell']) (by simp only [maxLen]; omega) (by omega) (by simp; omega) ?_; intro v' w' hown' hgrow _ hat
           have HG' := Lib.hid ((HG.out.alloc hsz (.cells #[.int .u8 (y : Int)] 5)).grown hgrow (by simp; omega) (fun r e => (HA.out.lt r e).1))
           have HO' := Lib.hid hown'
           clear hown' hgrow hat))
      go_ret
      have e1 : L.length = k + 1 := by have h := congrArg List.length HP.out; have h2 := HK.out; rw [num7_small hlt, List.length_append] at h; simp at h; omega
      refine ⟨v', rfl, HG'.out, ?_⟩
      have h := HO'.out
      rw [e1, HP.out, num7_small hlt, bc_append, bc_small (by omega)]
      exact h
    · have hlt' : decide ((128 : Int) ≤ (y : Int)) = true := by simp; omega
      have hb1 : (y : Int) % 128 ≤ 127 := by omega
      have hb0 : 0 ≤ (y : Int) % 128 := by omega
      have HA := Lib.hid (HOK.out.alloc (.cells #[.int .u8 ((y : Int) % 128 + 128)] 5))
      go_wp2_with (first
        | (at_builtin; refine wpList_append_own_at _ rfl (.tmp 6) (.tmp 11) 25 rfl w.heap.size 5 i0 _ 1 1 Try.underlying25 hi0 hz0 hz1 hz2 rfl (by decide) _ k _ rfl HA.out ⟨wr.heap.size, 0, none⟩ 1 1 [.int .u8 ((y : Int) % 128 + 128)] rfl rfl (news_lit wr #[.int .u8 ((y : Int) % 128 + 128)] 5 wr.heap.size rfl) (by simp [Value.oneCell']) (by simp only [maxLen]; omega) (by omega) (by simp; omega) ?_; intro v' w' hown' hgrow _ hat
           have HG' := Lib.hid ((HG.out.alloc hsz (.cells #[.int .u8 ((y : Int) % 128 + 128)] 5)).grown hgrow (by simp; omega) (fun r e => (HA.out.lt r e).1))
           have HO' := Lib.hid hown'
           clear hown' hgrow hat))
      go_roundw
      case rel => exact ⟨k + 1, y / 128, pre ++ [UInt8.ofNat (y % 128 + 128)], by go_num, by omega, by rw [HP.out, num7_big hlt]; simp, by rw [List.length_append, HK.out]; rfl, HG'.out, by
        have h := HO'.out
        rw [bc_append, bc_small (by omega)]
        rw [show (((y % 128 + 128 : Nat)) : Int) = (y : Int) % 128 + 128 by omega]
        exact h⟩
      case measure => simp [intOf]; omega

/-- The number of a signed form. -/
def zig (x : Int) : Nat := if 0 ≤ x then (2 * x).toNat else (-2 * x - 1).toNat
theorem zig_lt {x : Int} (h1 : -9223372036854775808 ≤ x) (h2 : x ≤ 9223372036854775807) : zig x < 18446744073709551616 := by unfold zig; split <;> omega

theorem xor_all (a : Nat) (h : a < 18446744073709551616) : a ^^^ 18446744073709551615 = 18446744073709551615 - a := by
  have e := congrArg BitVec.toNat (BitVec.xor_allOnes (x := BitVec.ofNat 64 a))
  rw [BitVec.toNat_xor, BitVec.toNat_allOnes, BitVec.toNat_not, BitVec.toNat_ofNat, Nat.mod_eq_of_lt (by simpa using h)] at e
  exact e
theorem fold_pos {x : Int} (h : 0 ≤ x) (h2 : x ≤ 9223372036854775807) : bits .xor .u64 (x * 2) (x / 9223372036854775808) = (zig x : Int) := by
  have e : x / 9223372036854775808 = 0 := by omega
  rw [e]
  obtain ⟨n, rfl⟩ := Int.eq_ofNat_of_zero_le h
  have := u64_xor_nat (n * 2) 0 (by omega) (by decide)
  rw [Nat.xor_zero] at this
  unfold zig
  rw [if_pos h]
  have e2 : (((n * 2 : Nat)) : Int) = (n : Int) * 2 := by omega
  rw [e2] at this
  rw [show ((0 : Nat) : Int) = 0 from rfl] at this
  rw [this]
  omega
theorem fold_neg {x : Int} (h : x < 0) (h1 : -9223372036854775808 ≤ x) : bits .xor .u64 (IntKind.u64.wrap (IntKind.u64.wrap x * 2)) (IntKind.u64.wrap (x / 9223372036854775808)) = (zig x : Int) := by
  have e : x / 9223372036854775808 = -1 := by omega
  obtain ⟨n, hn⟩ : ∃ n : Nat, (n : Int) = 2 * x + 18446744073709551616 := ⟨(2 * x + 18446744073709551616).toNat, by omega⟩
  have w1 : IntKind.u64.wrap (IntKind.u64.wrap x * 2) = (n : Int) := by
    rw [IntKind.wrap_u64, IntKind.wrap_u64]; omega
  have w2 : IntKind.u64.wrap (-1) = ((18446744073709551615 : Nat) : Int) := by decide
  rw [e, w1, w2, u64_xor_nat n 18446744073709551615 (by omega) (by decide), xor_all n (by omega)]
  unfold zig
  rw [if_neg (by omega)]
  omega
theorem fold_any (x : Int) (w : World) (h1 : -9223372036854775808 ≤ x) (h2 : x ≤ 9223372036854775807) : Calls Try.prog 104 #[.int .i64 x] w fun e w' => e = .returned (.int .u64 (zig x : Nat)) ∧ w = w' := by
  by_cases h : 0 ≤ x
  · have hz := Lib.hid (fold_pos h h2)
    go_enter Try.func104, Try.ntmps104
    go_wp2
    go_ret
    exact ⟨ret_int hz.out, rfl⟩
  · have hz := Lib.hid (fold_neg (by omega) h1)
    go_enter Try.func104, Try.ntmps104
    go_wp2
    go_ret
    exact ⟨ret_int hz.out, rfl⟩
theorem refFold_any (x : Int) (w : World) (h1 : -9223372036854775808 ≤ x) (h2 : x ≤ 9223372036854775807) : Calls Try.prog 93 #[.int .i64 x] w fun e w' => e = .returned (.int .u64 (zig x : Nat)) ∧ w = w' := by
  by_cases h : 0 ≤ x
  · have hz : Hid (2 * x = (zig x : Int)) := by show _ = _; unfold zig; rw [if_pos h]; omega
    go_enter Try.func93, Try.ntmps93
    go_wp2
    go_ret
    exact ⟨ret_int hz.out, rfl⟩
  · have hz : Hid (2 * -(x + 1) + 1 = (zig x : Int)) := by show _ = _; unfold zig; rw [if_neg h]; omega
    go_enter Try.func93, Try.ntmps93
    go_wp2
    go_ret
    exact ⟨ret_int hz.out, rfl⟩

/-- The number whose signed form a number is. -/
def unz (u : Nat) : Int := if u % 2 = 0 then ((u / 2 : Nat) : Int) else -((u / 2 : Nat) : Int) - 1
theorem and_one (u : Nat) (h : u < 18446744073709551616) : bits .and .u64 (u : Int) 1 = (u : Int) % 2 := by
  have := u64_and_nat u 1 h (by decide)
  rw [Nat.and_one_is_mod] at this
  rw [show (1 : Int) = ((1 : Nat) : Int) from rfl, this]
  omega
theorem xor_zero_i64 (a : Nat) (h : a < 9223372036854775808) : bits .xor .i64 (a : Int) 0 = (a : Int) := by
  show IntKind.i64.wrap ((BitVec.ofInt 64 (a : Int) ^^^ BitVec.ofInt 64 0).toNat : Int) = _
  have e : (BitVec.ofInt 64 0) = 0#64 := by decide
  rw [e, BitVec.xor_zero, ofInt_u64 a (by omega)]
  exact IntWalk.i64_in _ (by omega)
theorem xor_m1_i64 (a : Nat) (h : a < 9223372036854775808) : bits .xor .i64 (a : Int) (-1) = -(a : Int) - 1 := by
  show IntKind.i64.wrap ((BitVec.ofInt 64 (a : Int) ^^^ BitVec.ofInt 64 (-1)).toNat : Int) = _
  have e : (BitVec.ofInt 64 (-1)) = BitVec.allOnes 64 := by decide
  rw [e, BitVec.toNat_xor, ofInt_u64 a (by omega), BitVec.toNat_allOnes]
  have := xor_all a (by omega)
  rw [show (2 ^ 64 - 1 : Nat) = 18446744073709551615 by decide, this, IntKind.wrap_i64]
  omega
theorem unfold_even {u : Nat} (h : u < 18446744073709551616) (h2 : u % 2 = 0) : bits .xor .i64 ((u : Int) / 2) (wrap64 (-wrap64 (bits .and .u64 (u : Int) 1))) = unz u := by
  rw [and_one u h]
  have e : (u : Int) % 2 = 0 := by omega
  rw [e]
  have e2 : wrap64 (-wrap64 0) = 0 := by unfold wrap64; decide
  have e3 : (u : Int) / 2 = ((u / 2 : Nat) : Int) := by omega
  rw [e2, e3, xor_zero_i64 _ (by omega)]
  unfold unz; rw [if_pos h2]
theorem unfold_odd {u : Nat} (h : u < 18446744073709551616) (h2 : ¬ u % 2 = 0) : bits .xor .i64 ((u : Int) / 2) (wrap64 (-wrap64 (bits .and .u64 (u : Int) 1))) = unz u := by
  rw [and_one u h]
  have e : (u : Int) % 2 = 1 := by omega
  rw [e]
  have e2 : wrap64 (-wrap64 1) = -1 := by unfold wrap64; decide
  have e3 : (u : Int) / 2 = ((u / 2 : Nat) : Int) := by omega
  rw [e2, e3, xor_m1_i64 _ (by omega)]
  unfold unz; rw [if_neg h2]
theorem unfold_any (u : Nat) (w : World) (h : u < 18446744073709551616) : Calls Try.prog 105 #[.int .u64 (u : Int)] w fun e w' => e = .returned (.int .i64 (unz u)) ∧ w = w' := by
  by_cases h2 : u % 2 = 0
  · have hz := Lib.hid (unfold_even h h2)
    go_enter Try.func105, Try.ntmps105
    go_wp2
    go_ret
    exact ⟨ret_int hz.out, rfl⟩
  · have hz := Lib.hid (unfold_odd h h2)
    go_enter Try.func105, Try.ntmps105
    go_wp2
    go_ret
    exact ⟨ret_int hz.out, rfl⟩
theorem refUnfold_any (u : Nat) (w : World) (h : u < 18446744073709551616) : Calls Try.prog 68 #[.int .u64 (u : Int)] w fun e w' => e = .returned (.int .i64 (unz u)) ∧ w = w' := by
  by_cases h2 : u % 2 = 0
  · have h2' : ((u : Int) % 2 == 0) = true := by simp; omega
    have hz : Hid ((u : Int) / 2 = unz u) := by show _ = _; unfold unz; rw [if_pos h2]; omega
    go_enter Try.func68, Try.ntmps68
    go_wp2
    go_ret
    exact ⟨ret_int hz.out, rfl⟩
  · have h2' : ((u : Int) % 2 == 0) = false := by simp; omega
    have hz : Hid (-((u : Int) / 2) - 1 = unz u) := by show _ = _; unfold unz; rw [if_neg h2]; omega
    go_enter Try.func68, Try.ntmps68
    go_wp2
    go_ret
    exact ⟨ret_int hz.out, rfl⟩
end Go.Proofs.Ytaechgnjdjijkaa

/- The writer: what it is in memory; the walk of put for each of the closures that are handed to it. -/
namespace Go.Proofs.Ytaechgnjdjijkaa
open Go.RowKit

/-- A writer of these bytes. -/
structure Wr (W : World) (B g : Nat) (v : Value) (bs : List UInt8) : Prop where
  blk : Bk W g 133 #[v]
  own : W.ownsRow B 5 1 v bs.length (bc bs)
theorem Wr.ne {W : World} {B g : Nat} {v : Value} {bs : List UInt8} (h : Wr W B g v bs) : v.ownBlock ≠ some g := own_bk_ne h.own h.blk (by decide)

/-- What a writer's call leaves: its box, its bytes' block and what is new have turned. -/
structure Wch (W W' : World) (g : Nat) (v v' : Value) : Prop where
  os : W'.os = W.os
  tape : W'.tape = W.tape
  output : W'.output = W.output
  size : W.heap.size ≤ W'.heap.size
  block : ∀ k, k < W.heap.size → k ≠ g → some k ≠ v.ownBlock → W'.heap[k]? = W.heap[k]?
  at_ : ∀ r, v'.ownBlock = some r → v.ownBlock = some r ∨ W.heap.size ≤ r
theorem Wch.refl (W : World) (g : Nat) (v : Value) : Wch W W g v v := ⟨rfl, rfl, rfl, Nat.le_refl _, fun _ _ _ _ => rfl, fun _ h => .inl h⟩
theorem Wch.trans {a b c : World} {g : Nat} {u v x : Value} (h : Wch a b g u v) (k : Wch b c g v x) : Wch a c g u x :=
  ⟨k.os.trans h.os, k.tape.trans h.tape, k.output.trans h.output, Nat.le_trans h.size k.size, fun i hi h1 h2 =>
    (k.block i (Nat.lt_of_lt_of_le hi h.size) h1 (fun e => by rcases h.at_ i e.symm with h3 | h3; exact h2 h3.symm; omega)).trans (h.block i hi h1 h2),
   fun r e => by
    rcases k.at_ r e with h1 | h1
    · exact h.at_ r h1
    · exact .inr (Nat.le_trans h.size h1)⟩
theorem Wch.of_grew {W W' : World} {v v' : Value} (g : Nat) (h : Grew W W' v v') : Wch W W' g v v' := ⟨h.only.os, h.only.tape, h.only.output, h.only.size, fun k hk _ h2 => h.only.block k hk h2, h.at_⟩
theorem Wch.of_below {W W' : World} (h : Below W.heap.size W W') (g : Nat) (v : Value) : Wch W W' g v v := Wch.of_grew g (Grew.of_below h v)
theorem Wch.set {W : World} {g : Nat} {v : Value} (u : Value) : Wch W (W.setCell ⟨g, 0, none⟩ u) g v v :=
  ⟨rfl, rfl, rfl, ((Below.refl 0 W).setCell (p := ⟨g, 0, none⟩) (Nat.zero_le _) u).size, fun k _ h1 _ => Below.heap_setCell _ _ _ k h1, fun _ h => .inl h⟩
theorem Wch.below {W W' : World} {g B : Nat} {v v' : Value} (h : Wch W W' g v v') (hB : B ≤ W.heap.size) (hg : B ≤ g) (hv : ∀ r, v.ownBlock = some r → B ≤ r) : Below B W W' :=
  ⟨h.os, h.tape, h.output, h.size, fun k hk => h.block k (by omega) (by omega) (fun e => by have := hv k e.symm; omega)⟩
theorem Bk.wch {W W' : World} {g : Nat} {v v' : Value} {k : Nat} {t : TypeId} {cs : Array Value} (h : Bk W k t cs) (c : Wch W W' g v v') (h1 : k ≠ g) (h2 : v.ownBlock ≠ some k) : Bk W' k t cs := (c.block k h.lt h1 (fun e => h2 e.symm)).trans h
theorem own_wch {W W' : World} {g B : Nat} {v v' x : Value} {e : TypeId} {size n : Nat} {xs : List Value} (h : W.ownsRow B e size x n xs) (c : Wch W W' g v v') (h1 : x.ownBlock ≠ some g) (h2 : x.ownBlock = none ∨ x.ownBlock ≠ v.ownBlock) : W'.ownsRow B e size x n xs := by
  rcases h.2 with ⟨rfl, h0⟩ | ⟨k, cap, cur, rfl, hb, hh, hr⟩
  · exact ⟨h.1, .inl ⟨rfl, h0⟩⟩
  · refine ⟨h.1, .inr ⟨k, cap, cur, rfl, hb, ?_, hr⟩⟩
    have hlt := (Array.getElem?_eq_some_iff.1 hh).1
    rw [c.block k hlt (fun e => h1 (by simp [Value.ownBlock, e])) (fun e => by
      rcases h2 with h2 | h2
      · cases h2
      · exact h2 e)]
    exact hh
theorem Wr.below {W W' : World} {B g : Nat} {v : Value} {bs : List UInt8} (h : Wr W B g v bs) (hb : Below W.heap.size W W') : Wr W' B g v bs := ⟨h.blk.below hb, own_below h.own hb⟩
theorem Wr.mono {W : World} {B B' g : Nat} {v : Value} {bs : List UInt8} (h : Wr W B g v bs) (hB : B' ≤ B) : Wr W B' g v bs := ⟨h.blk, own_mono h.own hB⟩

set_option maxRecDepth 100000 in
theorem put_Number (B g c : Nat) (v : Value) (bs bs' : List UInt8) (W : World) (hw : Wr W B g v bs)
    (hf : Calls Try.prog 97 #[v, .pointer (some ⟨c, 0, none⟩)] W fun e w' => ∃ v', e = .returned v' ∧ Grew W w' v v' ∧ w'.ownsRow B 5 1 v' bs'.length (bc bs')) :
    Calls Try.prog 94 #[.pointer (some ⟨g, 0, none⟩), .func (.func 97) #[] #[.pointer (some ⟨c, 0, none⟩)]] W fun e w' => e = .returned (.int .i64 0) ∧ ∃ v', Wr w' B g v' bs' ∧ Wch W w' g v v' := by
  have HW := Lib.hid hw
  have HF := Lib.hid hf
  have x0 : W.cell? ⟨g, 0, none⟩ = some v := hw.blk.cell 0
  have fz := hw.blk.frozen 0
  clear hw hf
  go_enter Try.func94, Try.ntmps94
  go_wp2_with (first
    | (go_at_call 97; (with_reducible refine HF.out.mono ?_); rintro e w1 ⟨v1, rfl, hg1, ho1⟩
       obtain ⟨a1, c1, rfl, _, _⟩ := ownsRow_shape ho1
       have HB1 := Lib.hid (HW.out.blk.grew hg1 HW.out.ne)
       have HG1 := Lib.hid hg1
       have HO1 := Lib.hid ho1
       have y0 : w1.cell? ⟨g, 0, none⟩ = some v := HB1.out.cell 0
       have fy := HB1.out.frozen 0
       clear hg1 ho1 x0 fz))
  go_ret
  exact ⟨rfl, _, ⟨HB1.out.set 0 _, own_set HO1.out HB1.out (by decide) 0 _⟩, (Wch.of_grew g HG1.out).trans (Wch.set _)⟩

set_option maxRecDepth 100000 in
theorem put_Text (B g c : Nat) (v : Value) (bs bs' : List UInt8) (W : World) (hw : Wr W B g v bs)
    (hf : Calls Try.prog 95 #[v, .pointer (some ⟨c, 0, none⟩)] W fun e w' => ∃ v', e = .returned v' ∧ Grew W w' v v' ∧ w'.ownsRow B 5 1 v' bs'.length (bc bs')) :
    Calls Try.prog 94 #[.pointer (some ⟨g, 0, none⟩), .func (.func 95) #[] #[.pointer (some ⟨c, 0, none⟩)]] W fun e w' => e = .returned (.int .i64 0) ∧ ∃ v', Wr w' B g v' bs' ∧ Wch W w' g v v' := by
  have HW := Lib.hid hw
  have HF := Lib.hid hf
  have x0 : W.cell? ⟨g, 0, none⟩ = some v := hw.blk.cell 0
  have fz := hw.blk.frozen 0
  clear hw hf
  go_enter Try.func94, Try.ntmps94
  go_wp2_with (first
    | (go_at_call 95; (with_reducible refine HF.out.mono ?_); rintro e w1 ⟨v1, rfl, hg1, ho1⟩
       obtain ⟨a1, c1, rfl, _, _⟩ := ownsRow_shape ho1
       have HB1 := Lib.hid (HW.out.blk.grew hg1 HW.out.ne)
       have HG1 := Lib.hid hg1
       have HO1 := Lib.hid ho1
       have y0 : w1.cell? ⟨g, 0, none⟩ = some v := HB1.out.cell 0
       have fy := HB1.out.frozen 0
       clear hg1 ho1 x0 fz))
  go_ret
  exact ⟨rfl, _, ⟨HB1.out.set 0 _, own_set HO1.out HB1.out (by decide) 0 _⟩, (Wch.of_grew g HG1.out).trans (Wch.set _)⟩

theorem putNil_any (F : Value) (W : World) : Calls Try.prog 94 #[.pointer none, F] W fun e w' => e = .returned (.int .i64 1) ∧ W = w' := by
  go_enter Try.func94, Try.ntmps94
  go_wp2
  go_ret
  exact ⟨rfl, rfl⟩

set_option maxRecDepth 100000 in
theorem Number_any (B g x : Nat) (v : Value) (bs : List UInt8) (W : World) (hw : Wr W B g v bs) (hB : B ≤ W.heap.size) (hx : x < 18446744073709551616) (hn : bs.length + 20 ≤ 140737488355328) :
    Calls Try.prog 77 #[.pointer (some ⟨g, 0, none⟩), .int .u64 (x : Int)] W fun e w' => e = .returned (.int .i64 0) ∧ ∃ v', Wr w' B g v' (bs ++ num7 x) ∧ Wch W w' g v v' := by
  have hal := below_alloc W (.cells #[.int .u64 (x : Int)] 76)
  have hwa := hw.below hal
  have hf : Calls Try.prog 97 #[v, .pointer (some ⟨W.heap.size, 0, none⟩)] (W.alloc (.cells #[.int .u64 (x : Int)] 76)) fun e w' => ∃ v', e = .returned v' ∧ Grew (W.alloc (.cells #[.int .u64 (x : Int)] 76)) w' v v' ∧ w'.ownsRow B 5 1 v' (bs ++ num7 x).length (bc (bs ++ num7 x)) := by
    have HN := Lib.hid (number_any B v bs.length x (bc bs) _ hwa.own (by simp; omega) hx hn)
    have HC : Hid ((bs ++ num7 x).length = bs.length + (num7 x).length ∧ bc (bs ++ num7 x) = bc bs ++ bc (num7 x)) := ⟨by simp, bc_append _ _⟩
    clear hwa hw
    go_enter Try.func97, Try.ntmps97
    go_wp2_with (first
      | (go_at_call 96; (with_reducible refine HN.out.mono ?_); rintro e w1 ⟨v1, rfl, hg1, ho1⟩; have HG := Lib.hid hg1; have HO := Lib.hid ho1; clear hg1 ho1))
    go_ret
    exact ⟨v1, rfl, HG.out, by rw [HC.out.1, HC.out.2]; exact HO.out⟩
  have HP := Lib.hid (put_Number B g W.heap.size v bs (bs ++ num7 x) _ hwa hf)
  have HA := Lib.hid hal
  clear hf hwa hw hal
  go_enter Try.func77, Try.ntmps77
  go_wp2_with (first
    | (go_at_call 94; (with_reducible refine HP.out.mono ?_); rintro e w2 ⟨rfl, v2, hw2, hc2⟩; have HW2 := Lib.hid hw2; have HC2 := Lib.hid hc2; clear hw2 hc2))
  go_ret
  exact ⟨rfl, v2, HW2.out, (Wch.of_below HA.out g v).trans HC2.out⟩
end Go.Proofs.Ytaechgnjdjijkaa

/- A string's bytes put behind a row of the call's own: where the new row lies; the same inside a region that draws its order. -/
namespace Go.Proofs.Ytaechgnjdjijkaa
open Go.RowKit Go.Lib

section
variable {P : Program} (w : World)
theorem run_append_str_at (base : Nat) (t u ty e : TypeId) (i : TypeInfo) (ht : P.underlying t = some (.slice e)) (hu : P.underlying u = some .string) (hi : P.info? e = some i) (hz : i.zero = some (.int .u8 0))
    (hsize : i.size = 1) (hby : i.bytes = 1)
    (v : Value) (n : Nat) (xs : List Value) (hown : w.ownsRow base e 1 v n xs) (s : ByteArray)
    (h63 : n + s.size ≤ maxLen) (hbytes : n + s.size ≤ 140737488355328) (hbase : base ≤ w.heap.size) :
    ∃ v' w', (Builtin.append_ #[t, u] ty #[v, .string s]).run P w = .ok v' w' ∧ w'.ownsRow base e 1 v' (n + s.size) (xs ++ strCells s) ∧ Grew w w' v v' := by
  obtain ⟨v', w', hr, h2, h3, _⟩ := run_append_own_string (P := P) w base t u ty e i ht hu hi hz hsize hby v n xs hown s h63 hbytes hbase
  refine ⟨v', w', hr, h2, h3, fun g hg => ?_⟩
  have hxl : xs.length = n := by simpa using hown.1
  rcases hown.2 with ⟨rfl, rfl⟩ | ⟨g0, cap, cur, rfl, hbg, hh, hnc, hcm, hcs, htake⟩
  · have hx : xs = [] := List.eq_nil_of_length_eq_zero hxl
    subst hx
    obtain ⟨v2, w2, hr2, h22, _, _⟩ := run_append_own_string (P := P) w w.heap.size t u ty e i ht hu hi hz hsize hby (.slice none 0 0) 0 [] (World.ownsRow_nil _ _ _ _) s h63 hbytes (Nat.le_refl _)
    have he := hr.symm.trans hr2
    injection he with he1 he2
    subst he1
    exact .inr (h22.lt g hg).1
  · by_cases hroom : n + s.size ≤ cap
    · have hcur : cur.size = cap := by simpa using hcs
      have hr2 := run_append_room_string (P := P) w t u ty e i ht hu hi hsize g0 n cap cur hh s hroom (by omega)
      have he := hr.symm.trans hr2
      injection he with he1 he2
      subst he1
      exact .inl hg
    · have holds : ∀ j u, xs[j]? = some u → w.cell? ((⟨g0, 0, none⟩ : Addr).add j) = some u := hown.cells (g := g0) rfl
      unfold maxLen at h63
      have hr2 := run_append_grow_string (P := P) w t u ty e i (.int .u8 0) ht hu hi hz ⟨g0, 0, none⟩ n cap xs (by rw [hsize]; simpa using hxl) holds s (by omega) (by omega) (by rw [hby]; exact growslice_fits (by omega) (by omega))
      have he := hr.symm.trans hr2
      injection he with he1 he2
      subst he1
      simp only [Value.ownBlock, Option.some.injEq] at hg
      exact .inr (by omega)

theorem wp_append_str {o : Oper} {a : Act} {K : Act → World → Prop} {Q : Exit → Act → World → Prop} (sl x : Operand) (t u : TypeId)
    (ho : o.op = .call { callee := .builtin .append, args := #[sl, x], argTypes := #[t, u] })
    (base : Nat) (e : TypeId) (i : TypeInfo) (ht : P.underlying t = some (.slice e)) (hu : P.underlying u = some .string) (hi : P.info? e = some i) (hz : i.zero = some (.int .u8 0))
    (hsize : i.size = 1) (hby : i.bytes = 1)
    (v : Value) (n : Nat) (xs : List Value) (hs : a.eval sl = v) (hown : w.ownsRow base e 1 v n xs) (s : ByteArray) (hx : a.eval x = .string s)
    (h63 : n + s.size ≤ maxLen) (hbytes : n + s.size ≤ 140737488355328) (hbase : base ≤ w.heap.size)
    (h : ∀ v' w', w'.ownsRow base e 1 v' (n + s.size) (xs ++ strCells s) → Grew w w' v v' → K (a.put o.dst v') w') : o.wp P a w K Q := by
  obtain ⟨v', w', hr, h2, h3⟩ := run_append_str_at (P := P) w base t u o.type e i ht hu hi hz hsize hby v n xs hown s h63 hbytes hbase
  unfold Oper.wp execOp
  simp only [ho, resolve, invoke, builtin, Sem.run_bind, Sem.run_pure, Result.andThen_ok, List.map_toArray, List.map_cons, List.map_nil, hs, hx, hr]
  exact h v' w' h2 h3

theorem wpList_append_str {ops : Array Oper} {rest : List Oper} {o : Oper} {a : Act} {Q : Exit → Act → World → Prop} (hgd : o.guard = none) (sl x : Operand) (t u : TypeId)
    (ho : o.op = .call { callee := .builtin .append, args := #[sl, x], argTypes := #[t, u] })
    (base : Nat) (e : TypeId) (i : TypeInfo) (ht : P.underlying t = some (.slice e)) (hu : P.underlying u = some .string) (hi : P.info? e = some i) (hz : i.zero = some (.int .u8 0))
    (hsize : i.size = 1) (hby : i.bytes = 1)
    (v : Value) (n : Nat) (xs : List Value) (hs : a.eval sl = v) (hown : w.ownsRow base e 1 v n xs) (s : ByteArray) (hx : a.eval x = .string s)
    (h63 : n + s.size ≤ maxLen) (hbytes : n + s.size ≤ 140737488355328) (hbase : base ≤ w.heap.size)
    (h : ∀ v' w', w'.ownsRow base e 1 v' (n + s.size) (xs ++ strCells s) → Grew w w' v v' → wpList P ops Q rest (a.put o.dst v') w') : wpList P ops Q (o :: rest) a w :=
  wpList_plain hgd fun _ hK => wp_append_str w sl x t u ho base e i ht hu hi hz hsize hby v n xs hs hown s hx h63 hbytes hbase fun v' w' h2 h3 => hK _ _ (h v' w' h2 h3)

theorem step_append_str {ops : Array Oper} {o : Oper} {a : Act} {K : Act → World → Prop} {Q : Exit → Act → World → Prop} {E : Prop} (hgd : o.guard = none) (sl x : Operand) (t u : TypeId)
    (ho : o.op = .call { callee := .builtin .append, args := #[sl, x], argTypes := #[t, u] })
    (base : Nat) (e : TypeId) (i : TypeInfo) (ht : P.underlying t = some (.slice e)) (hu : P.underlying u = some .string) (hi : P.info? e = some i) (hz : i.zero = some (.int .u8 0))
    (hsize : i.size = 1) (hby : i.bytes = 1)
    (v : Value) (n : Nat) (xs : List Value) (hs : a.eval sl = v) (hown : w.ownsRow base e 1 v n xs) (s : ByteArray) (hx : a.eval x = .string s)
    (h63 : n + s.size ≤ maxLen) (hbytes : n + s.size ≤ 140737488355328) (hbase : base ≤ w.heap.size)
    (h : ∀ v' w', w'.ownsRow base e 1 v' (n + s.size) (xs ++ strCells s) → Grew w w' v v' → K (a.put o.dst v') w') :
    if Region.wanted o (yielded ops a.tmps) = true then Oper.wp P o a w K Q else E := by
  have hw : Region.wanted o (yielded ops a.tmps) = true := by simp [Region.wanted, hgd]
  rw [if_pos hw]
  exact wp_append_str w sl x t u ho base e i ht hu hi hz hsize hby v n xs hs hown s hx h63 hbytes hbase h
end
end Go.Proofs.Ytaechgnjdjijkaa

/- The writer's other methods: Byte, Signed, Text, Fixed; NewWriter, Len. -/
namespace Go.Proofs.Ytaechgnjdjijkaa
open Go.RowKit Go.Lib

theorem strCells_bc (s : ByteArray) : strCells s = bc s.data.toList := rfl

set_option maxRecDepth 100000 in
theorem NewWriter_any (w : World) : Calls Try.prog 51 #[] w fun e w' => e = .returned (.pointer (some ⟨w.heap.size, 0, none⟩)) ∧ w.alloc (.cells #[.slice none 0 0] 133) = w' := by
  go_enter Try.func51, Try.ntmps51
  go_wp2
  go_ret
  exact ⟨rfl, rfl⟩
theorem wr_new (w : World) (B : Nat) : Wr (w.alloc (.cells #[.slice none 0 0] 133)) B w.heap.size (.slice none 0 0) [] := ⟨Bk.new _ _ _, World.ownsRow_nil _ _ _ _⟩

theorem Signed_any (B g : Nat) (x : Int) (v : Value) (bs : List UInt8) (W : World) (hw : Wr W B g v bs) (hB : B ≤ W.heap.size) (h1 : -9223372036854775808 ≤ x) (h2 : x ≤ 9223372036854775807) (hn : bs.length + 20 ≤ 140737488355328) :
    Calls Try.prog 99 #[.pointer (some ⟨g, 0, none⟩), .int .i64 x] W fun e w' => e = .returned (.int .i64 0) ∧ ∃ v', Wr w' B g v' (bs ++ num7 (zig x)) ∧ Wch W w' g v v' := by
  have HN := Lib.hid (Number_any B g (zig x) v bs W hw hB (zig_lt h1 h2) hn)
  have HF := Lib.hid (fold_any x W h1 h2)
  clear hw
  go_enter Try.func99, Try.ntmps99
  go_wp2_with (first
    | (go_at_call 104; (with_reducible refine HF.out.mono ?_); rintro e w1 ⟨rfl, rfl⟩)
    | (go_at_call 77; (with_reducible refine HN.out.mono ?_); rintro e w2 ⟨rfl, v2, hw2, hc2⟩; have HW2 := Lib.hid hw2; have HC2 := Lib.hid hc2; clear hw2 hc2))
  go_ret
  exact ⟨rfl, v2, HW2.out, HC2.out⟩

set_option maxRecDepth 100000 in
set_option maxHeartbeats 1000000 in
theorem Text_any (B g : Nat) (s : ByteArray) (v : Value) (bs : List UInt8) (W : World) (hw : Wr W B g v bs) (hB : B ≤ W.heap.size) (hn : bs.length + s.size + 20 ≤ 140737488355328) :
    Calls Try.prog 76 #[.pointer (some ⟨g, 0, none⟩), .string s] W fun e w' => e = .returned (.int .i64 0) ∧ ∃ v', Wr w' B g v' (bs ++ (num7 s.size ++ s.data.toList)) ∧ Wch W w' g v v' := by
  obtain ⟨i0, hi0, hz0, hz1, hz2⟩ := info_parts u8Info
  have hal := below_alloc W (.cells #[.string s] 9)
  have hwa := hw.below hal
  have hsl := num7_le s.size (by omega)
  have hf : Calls Try.prog 95 #[v, .pointer (some ⟨W.heap.size, 0, none⟩)] (W.alloc (.cells #[.string s] 9)) fun e w' => ∃ v', e = .returned v' ∧ Grew (W.alloc (.cells #[.string s] 9)) w' v v' ∧ w'.ownsRow B 5 1 v' (bs ++ (num7 s.size ++ s.data.toList)).length (bc (bs ++ (num7 s.size ++ s.data.toList))) := by
    have HBK : Hid (Bk (W.alloc (.cells #[.string s] 9)) W.heap.size 9 #[.string s]) := Bk.new _ _ _
    have HNE : Hid (v.ownBlock ≠ some W.heap.size) := own_bk_ne hwa.own HBK.out (by decide)
    have HC : Hid ((bs ++ (num7 s.size ++ s.data.toList)).length = bs.length + (num7 s.size).length + s.size ∧ bc (bs ++ (num7 s.size ++ s.data.toList)) = bc bs ++ bc (num7 s.size) ++ strCells s) := ⟨by simp [Nat.add_assoc], by rw [bc_append, bc_append, ← List.append_assoc]; rfl⟩
    have hbs : B ≤ (W.alloc (.cells #[.string s] 9)).heap.size := by simp; omega
    have x0 : (W.alloc (.cells #[.string s] 9)).cell? ⟨W.heap.size, 0, none⟩ = some (.string s) := HBK.out.cell 0
    have hss : (s.size : Int) ≤ 9223372036854775807 := by omega
    have hss0 : (0 : Int) ≤ (s.size : Int) := by omega
    obtain ⟨w0, hw0⟩ : ∃ w0, W.alloc (.cells #[.string s] 9) = w0 := ⟨_, rfl⟩
    rw [hw0] at HBK hbs x0 hwa ⊢
    have HN : Hid (∀ W1, Below w0.heap.size w0 W1 → Calls Try.prog 96 #[v, .int .u64 (IntKind.u64.wrap ((s.size : Nat) : Int))] W1 fun e w' => ∃ v', e = .returned v' ∧ Grew W1 w' v v' ∧ w'.ownsRow B 5 1 v' (bs.length + (num7 s.size).length) (bc bs ++ bc (num7 s.size))) := fun W1 hb => by
      rw [IntWalk.u64_in _ (by omega)]
      exact number_any B v bs.length s.size (bc bs) W1 (own_below hwa.own hb) (Nat.le_trans hbs hb.size) (by omega) (by omega)
    have HKS : Hid (∀ W1 v1, Hid (Grew w0 W1 v v1) → W1.cell? ⟨W.heap.size, 0, none⟩ = some (.string s)) := fun W1 v1 h => (HBK.out.grew h.out HNE.out).cell 0
    have hA1 : bs.length + (num7 s.size).length + s.size ≤ maxLen := by unfold maxLen; omega
    have hA2 : bs.length + (num7 s.size).length + s.size ≤ 140737488355328 := by omega
    have HA3 : Hid (∀ W1 v1, Grew w0 W1 v v1 → B ≤ W1.heap.size) := fun W1 v1 h => Nat.le_trans hbs h.only.size
    clear hwa hw hw0
    go_enter Try.func95, Try.ntmps95
    go_wp2
    go_region_held3 (fun W1 => W1.cell? ⟨W.heap.size, 0, none⟩ = some (.string s))
      (first
        | exact x0
        | exact HKS.out _ _ (Lib.hid (Grew.of_below (below_drew w0) v))
        | exact HKS.out _ _ HG1
        | exact HKS.out _ _ HG2)
      ((first
        | (go_at_call 96; (with_reducible refine (HN.out _ (below_drew w0)).mono ?_); rintro e w1 ⟨v1, rfl, hg1, ho1⟩; have HG1 := Lib.hid ((Grew.of_below (below_drew w0) v).trans hg1); have HO1 := Lib.hid ho1; have hs1 := hg1.only.size; clear hg1 ho1)
        | (refine step_append_str _ rfl (.tmp 8) (.tmp 9) 25 9 rfl B 5 i0 Try.underlying25 Try.underlying9 hi0 hz0 hz1 hz2 v1 (bs.length + (num7 s.size).length) _ rfl HO1.out s rfl hA1 hA2 (HA3.out _ _ HG1.out) ?_; intro v2 w2 ho2 hg2; have HG2 := Lib.hid (HG1.out.trans hg2); have HO2 := Lib.hid ho2; clear ho2 hg2)))
    go_wp2
    go_ret
    exact ⟨v2, rfl, HG2.out, by rw [HC.out.1, HC.out.2]; exact HO2.out⟩
  have HP := Lib.hid (put_Text B g W.heap.size v bs _ _ hwa hf)
  have HA := Lib.hid hal
  clear hf hwa hw hal
  go_enter Try.func76, Try.ntmps76
  go_wp2_with (first
    | (go_at_call 94; (with_reducible refine HP.out.mono ?_); rintro e w2 ⟨rfl, v2, hw2, hc2⟩; have HW2 := Lib.hid hw2; have HC2 := Lib.hid hc2; clear hw2 hc2))
  go_ret
  exact ⟨rfl, v2, HW2.out, (Wch.of_below HA.out g v).trans HC2.out⟩
end Go.Proofs.Ytaechgnjdjijkaa

/- The writer's Fixed and Rising. -/
namespace Go.Proofs.Ytaechgnjdjijkaa
open Go.RowKit Go.Lib

/-- The fixed form. -/
def fix4 (x : Nat) : List UInt8 := [UInt8.ofNat x, UInt8.ofNat (x / 256), UInt8.ofNat (x / 65536), UInt8.ofNat (x / 16777216)]
theorem bc_fix4 (x : Nat) : bc (fix4 x) = [.int .u8 ((x : Int) % 256), .int .u8 ((x : Int) / 256 % 256), .int .u8 ((x : Int) / 65536 % 256), .int .u8 ((x : Int) / 16777216 % 256)] := by
  simp only [bc, fix4, List.map_cons, List.map_nil, UInt8.toNat_ofNat']
  rfl

/-- Numbers as cells. -/
def ic (l : List Int) : List Value := l.map (Value.int .i64)
theorem ic_at {l : List Int} {k : Nat} {x : Int} (h : l[k]? = some x) : (ic l)[k]? = some (.int .i64 x) := by simp [ic, h]
theorem ic_length (l : List Int) : (ic l).length = l.length := by simp [ic]
def Rises (l : List Int) : Prop := ∀ (i : Nat) (x y : Int), l[i]? = some x → l[i + 1]? = some y → x < y
/-- What a list's number at a place is written as. -/
def relt (l : List Int) (i : Nat) : List UInt8 := if i = 0 then num7 (zig (l.getD 0 0)) else num7 (l.getD i 0 - l.getD (i - 1) 0 - 1).toNat
def rk (l : List Int) (k : Nat) : List UInt8 := (List.range k).flatMap (relt l)
theorem rk_succ (l : List Int) (k : Nat) : rk l (k + 1) = rk l k ++ relt l k := by simp [rk, List.range_succ]
def ris (l : List Int) : List UInt8 := num7 l.length ++ rk l l.length

theorem Rd.grew {w w' : World} {A : Option Addr} {m cap n : Nat} {xs : List Value} {v v' : Value} (h : Rd w (.slice A m cap) n xs) (k : Grew w w' v v') (hne : ∀ g off, A = some ⟨g, off, none⟩ → v.ownBlock ≠ some g) : Rd w' (.slice A m cap) n xs := by
  obtain ⟨a, c, hv, h1, h2, hr⟩ := h
  cases hv
  refine ⟨_, _, rfl, h1, h2, fun hp => ?_⟩
  obtain ⟨g, off, ha, hg, hc⟩ := hr hp
  exact ⟨g, off, ha, Nat.lt_of_lt_of_le hg k.only.size, fun j u hj => (World.cell?_of_block (a := ⟨g, off + j, none⟩) (k.only.block g hg (fun e => hne g off ha e.symm))).trans (hc j u hj)⟩

def I64 (x : Int) : Prop := -9223372036854775808 ≤ x ∧ x ≤ 9223372036854775807

theorem rises_not {l : List Int} {k : Nat} {x y : Int} (hx : l[k]? = some x) (hy : l[k + 1]? = some y) (h : ¬ x < y) : ¬ Rises l := fun hr => h (hr k x y hx hy)

end Go.Proofs.Ytaechgnjdjijkaa

/- The reader: what it is in memory; Clone, NewReader, Place, Left. -/
namespace Go.Proofs.Ytaechgnjdjijkaa
open Go.RowKit Go.Lib

set_option maxRecDepth 100000 in
theorem Clone_any (A : Option Addr) (m cap : Nat) (ns : List UInt8) (W : World) (hr : Rd W (.slice A m cap) m (bc ns)) (hm : ns.length = m) (hn : m ≤ 140737488355328) :
    Calls Try.prog 58 #[.slice A m cap] W fun e w' => ∃ v', e = .returned v' ∧ Below W.heap.size W w' ∧ w'.ownsRow W.heap.size 5 1 v' m (bc ns) := by
  obtain ⟨i0, hi0, hz0, hz1, hz2⟩ := info_parts u8Info
  cases A with
  | none =>
    have h0 : m = 0 := by
      obtain ⟨_, _, hv, _, _, h⟩ := hr
      cases hv
      rcases Nat.eq_zero_or_pos m with h1 | h1
      · exact h1
      · obtain ⟨g, o, e, _⟩ := h h1; cases e
    subst h0
    have hns : ns = [] := List.eq_nil_of_length_eq_zero hm
    subst hns
    have heq := fun W : World => Lib.run_eql_slice_nil (P := Try.prog) W 25 5 none 0 cap 0 0 Try.underlying25
    clear hr hm
    go_enter Try.func58, Try.ntmps58
    go_wp2
    go_ret
    exact ⟨_, rfl, Below.refl _ _, World.ownsRow_nil _ _ _ _⟩
  | some ad =>
    have hal := below_alloc W (.cells #[] 5)
    have HR := Lib.hid (hr.below hal)
    have HM := Lib.hid hm
    have HA := Lib.hid hal
    have HO := Lib.hid (World.ownsRow_lit (base := W.heap.size) (e := 5) (size := 1) W #[] 0 (Nat.le_refl _) (by decide) rfl)
    have heq := fun W : World => Lib.run_eql_slice_nil (P := Try.prog) W 25 5 (some ad) m cap 0 0 Try.underlying25
    clear hr hm hal
    go_enter Try.func58, Try.ntmps58
    go_wp2_with (first
      | (at_builtin; refine wpList_append_rd _ rfl (.tmp 5) (.tmp 6) 25 rfl W.heap.size 5 i0 _ 1 1 Try.underlying25 hi0 hz0 hz1 hz2 rfl (by decide) _ 0 [] rfl HO.out (some ad) m cap (bc ns) rfl (by rw [bc_length, HM.out, Nat.mul_one]) HR.out (bc_one _) (by simp only [maxLen]; omega) (by omega) (by simp) ?_; intro v1 w1 ho1 hg1 hat1
         have HB := Lib.hid (HA.out.grown hg1 (by simp) (fun r e => (HO.out.lt r e).1))
         have HO1 := Lib.hid ho1
         clear ho1 hg1 hat1))
    go_ret
    exact ⟨v1, rfl, HB.out, by have h := HO1.out; rw [Nat.zero_add] at h; exact h⟩

/-- A reader of these bytes, so many of them read. -/
structure Rr (W : World) (B g : Nat) (v : Value) (bs : List UInt8) (at_ : Nat) : Prop where
  blk : Bk W g 110 #[v, .int .i64 (at_ : Int)]
  own : W.ownsRow B 5 1 v bs.length (bc bs)
  le : at_ ≤ bs.length
theorem Rr.below {W W' : World} {B g at_ : Nat} {v : Value} {bs : List UInt8} (h : Rr W B g v bs at_) (hb : Below W.heap.size W W') : Rr W' B g v bs at_ := ⟨h.blk.below hb, own_below h.own hb, h.le⟩

set_option maxRecDepth 100000 in
theorem NewReader_any (A : Option Addr) (m cap : Nat) (ns : List UInt8) (W : World) (hr : Rd W (.slice A m cap) m (bc ns)) (hm : ns.length = m) (hn : m ≤ 140737488355328) :
    Calls Try.prog 36 #[.slice A m cap] W fun e w' => ∃ g v, e = .returned (.pointer (some ⟨g, 0, none⟩)) ∧ Below W.heap.size W w' ∧ W.heap.size ≤ g ∧ Rr w' W.heap.size g v ns 0 := by
  have HC := Lib.hid (Clone_any A m cap ns W hr hm hn)
  have HM := Lib.hid hm
  clear hr hm
  go_enter Try.func36, Try.ntmps36
  go_wp2_with (first
    | (go_at_call 58; (with_reducible refine HC.out.mono ?_); rintro e w1 ⟨v1, rfl, hb1, ho1⟩
       obtain ⟨a1, c1, rfl, _, _⟩ := ownsRow_shape ho1
       have HB := Lib.hid hb1
       have HO := Lib.hid ho1
       clear hb1 ho1))
  go_ret
  exact ⟨w1.heap.size, _, rfl, HB.out.alloc HB.out.size _, HB.out.size, ⟨Bk.new _ _ _, by have h := HO.out.alloc (.cells #[.slice a1 m c1, .int .i64 0] 110); rw [HM.out]; exact h, Nat.zero_le _⟩⟩

theorem Place_any (B g at_ : Nat) (v : Value) (bs : List UInt8) (W : World) (h : Rr W B g v bs at_) : Calls Try.prog 38 #[.pointer (some ⟨g, 0, none⟩)] W fun e w' => e = .returned (.int .i64 (at_ : Int)) ∧ W = w' := by
  have x1 : W.cell? ⟨g, 1, none⟩ = some (.int .i64 (at_ : Int)) := h.blk.cell 1
  clear h
  go_enter Try.func38, Try.ntmps38
  go_wp2
  go_ret
  exact ⟨rfl, rfl⟩
theorem Left_any (B g at_ : Nat) (v : Value) (bs : List UInt8) (W : World) (h : Rr W B g v bs at_) : Calls Try.prog 63 #[.pointer (some ⟨g, 0, none⟩)] W fun e w' => e = .returned (.int .i64 ((bs.length - at_ : Nat) : Int)) ∧ Below W.heap.size W w' := by
  have x0 : W.cell? ⟨g, 0, none⟩ = some v := h.blk.cell 0
  have x1 : W.cell? ⟨g, 1, none⟩ = some (.int .i64 (at_ : Int)) := h.blk.cell 1
  obtain ⟨a, c, rfl, hc, hm⟩ := ownsRow_shape h.own
  have hle := h.le
  unfold maxLen at hm
  have hs : Hid ((bs.length : Int) - (at_ : Int) = ((bs.length - at_ : Nat) : Int)) := by show _ = _; omega
  clear h
  go_enter Try.func63, Try.ntmps63
  go_wp2
  go_region
  all_goals go_wp2
  all_goals go_ret
  all_goals exact ⟨ret_int hs.out, below_drew _⟩
end Go.Proofs.Ytaechgnjdjijkaa

/- A scope in which the run jumps back to one label, and ahead to another one from which it jumps no more. -/
namespace Go.Proofs.Ytaechgnjdjijkaa
open Go.RowKit

/-- As Q; by a goto to the one label: J1; to the other: J2; by any other goto: no way out. -/
def jump2 (l1 l2 : Nat) (J1 J2 : Act → World → Prop) (Q : Exit → Act → World → Prop) : Exit → Act → World → Prop
  | .goto l', a, w => (l' = l1 ∧ J1 a w) ∨ (l' = l2 ∧ J2 a w)
  | e, a, w => Q e a w
theorem jump2_ret {l1 l2 : Nat} {J1 J2 : Act → World → Prop} {Q : Exit → Act → World → Prop} {a : Act} {w : World} : jump2 l1 l2 J1 J2 Q .ret a w = Q .ret a w := rfl

section
variable {P : Program} {a : Act} {w : World} {Q : Exit → Act → World → Prop}
theorem wp_scope_two {c r1 r2 : Code} (l1 l2 : Nat) (J1 J2 : Act → World → Prop) (μ : Act → World → Nat) (hf1 : findLabel c l1 = some r1) (hf2 : findLabel c l2 = some r2)
    (first : c.wp P (jump2 l1 l2 J1 J2 Q) a w)
    (pass1 : ∀ a w, J1 a w → r1.wp P (jump2 l1 l2 (fun a' w' => J1 a' w' ∧ μ a' w' < μ a w) J2 Q) a w)
    (pass2 : ∀ a w, J2 a w → r2.wp P (Exit.noGoto Q) a w) : (Code.scope c).wp P Q a w := by
  intro b k cs
  have hg1 : gotoIn l1 (.inScope c :: k) = some (.code r1 :: .inScope c :: k) := by simp [gotoIn, hf1]
  have hg2 : gotoIn l2 (.inScope c :: k) = some (.code r2 :: .inScope c :: k) := by simp [gotoIn, hf2]
  have key2 : ∀ a w, J2 a w → ∃ e a' w', Q e a' w' ∧ Arrives P (lone (b.at a (.code r2 :: .inScope c :: k)) cs w) b k cs e a' w' := by
    intro a w hJ
    obtain ⟨e, a₁, w₁, hq, harr⟩ := pass2 a w hJ b (.inScope c :: k) cs
    cases e with
    | normal => exact ⟨.normal, a₁, w₁, hq, Steps.trans harr (.one step_inScope)⟩
    | exit id => exact ⟨.exit id, a₁, w₁, hq, fun k' hk => harr k' (by simp [exitTo, hk])⟩
    | goto l' => exact hq.elim
    | ret => exact ⟨_, a₁, w₁, hq, harr⟩
    | panic ch => exact ⟨_, a₁, w₁, hq, harr⟩
    | outgrown => exact ⟨_, a₁, w₁, hq, harr⟩
  have key1 : ∀ n a w, μ a w = n → J1 a w → ∃ e a' w', Q e a' w' ∧ Arrives P (lone (b.at a (.code r1 :: .inScope c :: k)) cs w) b k cs e a' w' := by
    intro n
    induction n using Nat.strongRecOn with
    | _ n ih =>
      intro a w hn hJ
      obtain ⟨e, a₁, w₁, hq, harr⟩ := pass1 a w hJ b (.inScope c :: k) cs
      cases e with
      | normal => exact ⟨.normal, a₁, w₁, hq, Steps.trans harr (.one step_inScope)⟩
      | exit id => exact ⟨.exit id, a₁, w₁, hq, fun k' hk => harr k' (by simp [exitTo, hk])⟩
      | goto l' =>
        rcases hq with ⟨rfl, hJ', hlt⟩ | ⟨rfl, hJ'⟩
        · obtain ⟨e₂, a₂, w₂, hq₂, harr₂⟩ := ih _ (by omega) a₁ w₁ rfl hJ'
          exact ⟨e₂, a₂, w₂, hq₂, .of_steps (harr _ hg1) harr₂⟩
        · obtain ⟨e₂, a₂, w₂, hq₂, harr₂⟩ := key2 a₁ w₁ hJ'
          exact ⟨e₂, a₂, w₂, hq₂, .of_steps (harr _ hg2) harr₂⟩
      | ret => exact ⟨_, a₁, w₁, hq, harr⟩
      | panic ch => exact ⟨_, a₁, w₁, hq, harr⟩
      | outgrown => exact ⟨_, a₁, w₁, hq, harr⟩
  obtain ⟨e, a₁, w₁, hq, harr⟩ := first b (.inScope c :: k) cs
  cases e with
  | normal => exact ⟨.normal, a₁, w₁, hq, .head step_scope (Steps.trans harr (.one step_inScope))⟩
  | exit id => exact ⟨.exit id, a₁, w₁, hq, fun k' hk => .head step_scope (harr k' (by simp [exitTo, hk]))⟩
  | goto l' =>
    rcases hq with ⟨rfl, hJ'⟩ | ⟨rfl, hJ'⟩
    · obtain ⟨e₂, a₂, w₂, hq₂, harr₂⟩ := key1 _ a₁ w₁ rfl hJ'
      exact ⟨e₂, a₂, w₂, hq₂, .of_steps (.head step_scope (harr _ hg1)) harr₂⟩
    · obtain ⟨e₂, a₂, w₂, hq₂, harr₂⟩ := key2 a₁ w₁ hJ'
      exact ⟨e₂, a₂, w₂, hq₂, .of_steps (.head step_scope (harr _ hg2)) harr₂⟩
  | ret => exact ⟨_, a₁, w₁, hq, .of_steps (.one step_scope) harr⟩
  | panic ch => exact ⟨_, a₁, w₁, hq, .of_steps (.one step_scope) harr⟩
  | outgrown => exact ⟨_, a₁, w₁, hq, .of_steps (.one step_scope) harr⟩
/-- The same; the first pass may lean on the later ones. -/
theorem wp_scope_two' {c r1 r2 : Code} (l1 l2 : Nat) (J1 J2 : Act → World → Prop) (μ : Act → World → Nat) (hf1 : findLabel c l1 = some (Code.skip.seq r1)) (hf2 : findLabel c l2 = some r2)
    (first : (∀ a w, J1 a w → r1.wp P (jump2 l1 l2 J1 J2 Q) a w) → c.wp P (jump2 l1 l2 J1 J2 Q) a w)
    (pass1 : ∀ a w, J1 a w → r1.wp P (jump2 l1 l2 (fun a' w' => J1 a' w' ∧ μ a' w' < μ a w) J2 Q) a w)
    (pass2 : ∀ a w, J2 a w → r2.wp P (Exit.noGoto Q) a w) : (Code.scope c).wp P Q a w := by
  refine wp_scope_two l1 l2 J1 J2 μ hf1 hf2 (first fun a w h => wp_mono (pass1 a w h) ?_) (fun a w h => wp_seq (wp_skip (pass1 a w h))) pass2
  intro e a₁ w₁ hq
  cases e with
  | goto l' =>
    rcases hq with ⟨rfl, hJ', _⟩ | ⟨rfl, hJ'⟩
    · exact .inl ⟨rfl, hJ'⟩
    · exact .inr ⟨rfl, hJ'⟩
  | normal => exact hq
  | exit id => exact hq
  | ret => exact hq
  | panic ch => exact hq
  | outgrown => exact hq
end
end Go.Proofs.Ytaechgnjdjijkaa

/- The walk of the reader's Number. -/
namespace Go.Proofs.Ytaechgnjdjijkaa
open Go.RowKit Go.Lib

/-- The number form with which bytes begin: the number, how many bytes, the error. -/
def rdN : Nat → Nat → List UInt8 → Nat × Nat × Nat
  | _, _, [] => (0, 0, 110)
  | i, x, b :: r => if i = 9 ∧ b.toNat ≠ 1 then (0, 0, 111) else if 128 ≤ b.toNat then rdN (i + 1) (x + b.toNat % 128 * 128 ^ i) r else if 0 < i ∧ b.toNat = 0 then (0, 0, 111) else (x + b.toNat % 128 * 128 ^ i, i + 1, 0)

def intAt (a : Act) (i : Nat) : Nat := match a.tmps.getD i undef with | .int _ n => n.toNat | _ => 0
/-- What holds at the label 'next'. -/
def Nx (g at_ : Nat) (bs : List UInt8) (W : World) (a : Act) (w : World) : Prop :=
  w = W ∧ ∃ (i x p sh : Nat) (u7 u8 u9 u10 u11 u12 u13 u14 u15 u16 u17 u18 u19 u20 u21 u22 u23 u24 u25 u26 u27 u28 u29 u30 u31 u32 u33 u34 u35 u36 u37 u38 u39 u40 u41 u42 u43 u44 u45 u46 u47 u48 u49 u50 u51 u52 u53 u54 u55 u56 u57 : Value), a = { tmps := #[.pointer (some ⟨g, 0, none⟩), undef, .int .u64 0, .int .i64 0, .int .u64 (x : Int), .int .i64 (p : Int), .int .i64 (sh : Int), u7, u8, u9, u10, u11, u12, u13, u14, u15, u16, u17, u18, u19, u20, u21, u22, u23, u24, u25, u26, u27, u28, u29, u30, u31, u32, u33, u34, u35, u36, u37, u38, u39, u40, u41, u42, u43, u44, u45, u46, u47, u48, u49, u50, u51, u52, u53, u54, u55, u56, u57], defers := [] } ∧ p = at_ + i ∧ sh = 7 * i ∧ i ≤ 9 ∧ p ≤ bs.length ∧ x < 128 ^ i ∧ rdN 0 0 (bs.drop at_) = rdN i x (bs.drop p)
/-- What holds at the label 'bad'. -/
def Bd (g at_ : Nat) (bs : List UInt8) (W : World) (a : Act) (w : World) : Prop :=
  w = W ∧ ∃ (u2 u3 u4 u5 u6 u7 u8 u9 u10 u11 u12 u13 u14 u15 u16 u17 u18 u19 u20 u21 u22 u23 u24 u25 u26 u27 u28 u29 u30 u31 u32 u33 u34 u35 u36 u37 u38 u39 u40 u41 u42 u43 u44 u45 u46 u47 u48 u49 u50 u51 u52 u53 u54 u55 u56 u57 : Value), a = { tmps := #[.pointer (some ⟨g, 0, none⟩), undef, u2, u3, u4, u5, u6, u7, u8, u9, u10, u11, u12, u13, u14, u15, u16, u17, u18, u19, u20, u21, u22, u23, u24, u25, u26, u27, u28, u29, u30, u31, u32, u33, u34, u35, u36, u37, u38, u39, u40, u41, u42, u43, u44, u45, u46, u47, u48, u49, u50, u51, u52, u53, u54, u55, u56, u57], defers := [] } ∧ rdN 0 0 (bs.drop at_) = (0, 0, 111)

theorem or_step {x y sh i : Nat} {z : Int} (hz : z = (y : Int)) (hx : x < 128 ^ i) (hsh : sh = 7 * i) (hy : y < 256) (hlt : y % 128 * 128 ^ i < 18446744073709551616) (hx2 : x < 18446744073709551616) : bits .or .u64 (x : Int) (IntKind.u64.wrap (IntKind.u64.wrap (bits .and .u8 z 127) * 2 ^ sh)) = ((x + y % 128 * 128 ^ i : Nat) : Int) := by
  subst hz
  have h1 : bits .and .u8 (y : Int) 127 = ((y % 128 : Nat) : Int) := by
    have h := u8_and_nat y 127 hy (by decide)
    rw [show (127 : Nat) = 2 ^ 7 - 1 from rfl, Nat.and_two_pow_sub_one_eq_mod] at h
    exact h
  have hm : y % 128 < 128 := Nat.mod_lt _ (by decide)
  have hp : (128 : Nat) ^ i = 2 ^ sh := by rw [hsh, Nat.pow_mul]
  rw [h1, show IntKind.u64.wrap ((y % 128 : Nat) : Int) = ((y % 128 : Nat) : Int) from IntWalk.u64_in _ (by omega)]
  rw [hp] at hx hlt ⊢
  rw [show ((y % 128 : Nat) : Int) * 2 ^ sh = ((y % 128 * 2 ^ sh : Nat) : Int) by push_cast; rfl]
  rw [IntWalk.u64_in _ (by omega), u64_or_nat _ _ hx2 hlt]
  congr 1
  rw [Nat.or_comm, Nat.mul_comm, ← Nat.two_pow_add_eq_or_of_lt hx, Nat.add_comm]
theorem ret_u64_ok {z z' : Int} (h : z = z') : Ending.returned (.tuple #[.int .u64 z, .int .i64 0]) = Ending.returned (.tuple #[.int .u64 z', .int .i64 0]) := by rw [h]
theorem pow128_le {i : Nat} (h : i ≤ 9) : (128 : Nat) ^ i ≤ 9223372036854775808 := by
  have := Nat.pow_le_pow_right (n := 128) (by decide) h
  exact Nat.le_trans this (by decide)
theorem or_lt {y i : Nat} (h : i < 9) : y % 128 * 128 ^ i < 18446744073709551616 := by
  have h1 := Nat.pow_le_pow_right (n := 128) (by decide) (show i ≤ 8 by omega)
  have h2 : y % 128 < 128 := Nat.mod_lt _ (by decide)
  calc y % 128 * 128 ^ i ≤ 127 * 128 ^ 8 := Nat.mul_le_mul (by omega) h1
    _ < _ := by decide
theorem or_grow {x y i : Nat} (hx : x < 128 ^ i) : x + y % 128 * 128 ^ i < 128 ^ (i + 1) := by
  have h2 : y % 128 < 128 := Nat.mod_lt _ (by decide)
  have h3 : y % 128 * 128 ^ i ≤ 127 * 128 ^ i := Nat.mul_le_mul_right _ (by omega)
  rw [Nat.pow_succ]
  omega

set_option maxRecDepth 100000 in
set_option maxHeartbeats 4000000 in
theorem RNumber_any (B g at_ : Nat) (v : Value) (bs : List UInt8) (W : World) (h : Rr W B g v bs at_) :
    Calls Try.prog 40 #[.pointer (some ⟨g, 0, none⟩)] W fun e w' =>
      ((rdN 0 0 (bs.drop at_)).2.2 = 0 → e = .returned (.tuple #[.int .u64 ((rdN 0 0 (bs.drop at_)).1 : Int), .int .i64 0]) ∧ W.setCell ⟨g, 1, none⟩ (.int .i64 ((at_ + (rdN 0 0 (bs.drop at_)).2.1 : Nat) : Int)) = w') ∧
      ((rdN 0 0 (bs.drop at_)).2.2 ≠ 0 → e = .returned (.tuple #[.int .u64 0, .int .i64 ((rdN 0 0 (bs.drop at_)).2.2 : Int)]) ∧ W = w') := by
  have x0 : W.cell? ⟨g, 0, none⟩ = some v := h.blk.cell 0
  have x1 : W.cell? ⟨g, 1, none⟩ = some (.int .i64 (at_ : Int)) := h.blk.cell 1
  have f1 := h.blk.frozen 1
  obtain ⟨a, c, rfl, hc, hm⟩ := ownsRow_shape h.own
  have hle := h.le
  have HO := Lib.hid h.own
  unfold maxLen at hm
  obtain ⟨n, hn⟩ : ∃ n, bs.length = n := ⟨_, rfl⟩
  rw [hn] at x0 hc hle
  have HN := Lib.hid hn
  clear h hn
  go_enter Try.func40, Try.ntmps40
  go_wp2
  refine wp_scope_two' 0 1 (Nx g at_ bs W) (Bd g at_ bs W) (fun a _ => n - intAt a 5) rfl rfl ?_ ?_ ?_
  · intro hpass
    have HPASS := Lib.hid hpass
    clear hpass
    go_wp2
    go_step3
    rename_i hK
    refine hK _ _ (HPASS.out _ _ ⟨rfl, 0, 0, at_, 0, ?_⟩)
    exact ⟨_, _, _, _, _, _, _, _, _, _, _, _, _, _, _, _, _, _, _, _, _, _, _, _, _, _, _, _, _, _, _, _, _, _, _, _, _, _, _, _, _, _, _, _, _, _, _, _, _, _, _, rfl, rfl, rfl, Nat.zero_le _, by have := HN.out; omega, Nat.one_pos, rfl⟩
  · rintro a' w' ⟨rfl, i, x, p, sh, u7, u8, u9, u10, u11, u12, u13, u14, u15, u16, u17, u18, u19, u20, u21, u22, u23, u24, u25, u26, u27, u28, u29, u30, u31, u32, u33, u34, u35, u36, u37, u38, u39, u40, u41, u42, u43, u44, u45, u46, u47, u48, u49, u50, u51, u52, u53, u54, u55, u56, u57, rfl, hp, hsh, hi, hpl, hx, hr⟩
    have HR := Lib.hid hr
    have HP := Lib.hid hp
    have HSH := Lib.hid hsh
    have HX := Lib.hid hx
    have hpn : p ≤ n := by have := HN.out; omega
    have hsl : sh ≤ 63 := by omega
    clear hr hp hsh hpl hx
    by_cases hpe : p < n
    · obtain ⟨q, rfl, hq1, hq2, _, _, hcell, _⟩ := ownsRow_at HO.out (by have := HN.out; omega)
      obtain ⟨b, hb⟩ : ∃ b, bs[p]? = some b := ⟨_, List.getElem?_eq_getElem (by have := HN.out; omega)⟩
      have z0 := hcell p _ (bc_at hb)
      have hdr : bs.drop p = b :: bs.drop (p + 1) := by rw [List.drop_eq_getElem_cons (by have := HN.out; omega)]; rw [(List.getElem?_eq_some_iff.1 hb).2]
      have HDR := Lib.hid hdr
      obtain ⟨y, hy⟩ : ∃ y : Nat, b.toNat = y := ⟨_, rfl⟩
      have hyl : y < 256 := by have := b.toNat_lt; omega
      rw [hy] at z0
      have HY := Lib.hid hy
      clear hcell hb hdr hy
      have hpe' : ((p : Int) == (n : Int)) = false := by simp; omega
      by_cases hs63 : sh = 63
      · have h63 : ((sh : Int) == 63) = true := by simp; omega
        have hi9 : i = 9 := by have := HSH.out; omega
        by_cases hy1 : y = 1
        · have hbits := or_step (y := y) (z := 1) (by omega) HX.out HSH.out hyl (by subst hy1; subst hi9; decide) (by have := HX.out; have := pow128_le hi; omega)
          have hret : rdN 0 0 (bs.drop at_) = (x + y % 128 * 128 ^ i, i + 1, 0) := by
            rw [HR.out, HDR.out]
            unfold rdN
            rw [if_neg (by rw [HY.out]; omega), if_neg (by rw [HY.out]; omega), if_neg (by rw [HY.out]; omega), HY.out]
          subst hy1
          have HRET := Lib.hid hret
          clear hret
          go_wp2
          rw [jump2_ret]
          go_ret2
          rw [HRET.out]
          refine ⟨fun _ => ⟨?_, ?_⟩, fun h => absurd rfl h⟩
          · rw [show (2 : Int) ^ sh = 9223372036854775808 by rw [hs63]; rfl] at hbits
            exact ret_u64_ok hbits
          · rw [show ((at_ + (i + 1) : Nat) : Int) = (p : Int) + 1 by have := HP.out; omega]
        · have hret : rdN 0 0 (bs.drop at_) = (0, 0, 111) := by
            rw [HR.out, HDR.out]
            unfold rdN
            rw [if_pos ⟨hi9, by rw [HY.out]; exact hy1⟩]
          have hy1a : ((y : Int) == 1) = false := by simp; omega
          have hy1b : ((y : Int) != 1) = true := by simp; omega
          have HRET := Lib.hid hret
          clear hret
          go_wp2
          go_step3
          refine .inr ⟨rfl, rfl, ?_⟩
          exact ⟨_, _, _, _, _, _, _, _, _, _, _, _, _, _, _, _, _, _, _, _, _, _, _, _, _, _, _, _, _, _, _, _, _, _, _, _, _, _, _, _, _, _, _, _, _, _, _, _, _, _, _, _, _, _, _, _, rfl, HRET.out⟩
      · have h63 : ((sh : Int) == 63) = false := by simp; omega
        have hi9 : i < 9 := by have := HSH.out; omega
        have hbits := or_step (y := y) rfl HX.out HSH.out hyl (or_lt hi9) (by have := HX.out; have := pow128_le hi; omega)
        by_cases hy7 : 127 < y
        · have hy7' : decide ((127 : Int) < (y : Int)) = true := by simp; omega
          have hret : rdN 0 0 (bs.drop at_) = rdN (i + 1) (x + y % 128 * 128 ^ i) (bs.drop (p + 1)) := by
            rw [HR.out, HDR.out]
            conv => lhs; unfold rdN
            rw [if_neg (by omega), if_pos (by rw [HY.out]; omega), HY.out]
          have HRET := Lib.hid hret
          clear hret
          go_wp2
          go_step3
          refine .inl ⟨rfl, ⟨rfl, i + 1, x + y % 128 * 128 ^ i, p + 1, sh + 7, ?_⟩, ?_⟩
          · exact ⟨_, _, _, _, _, _, _, _, _, _, _, _, _, _, _, _, _, _, _, _, _, _, _, _, _, _, _, _, _, _, _, _, _, _, _, _, _, _, _, _, _, _, _, _, _, _, _, _, _, _, _, rfl, by have := HP.out; omega, by have := HSH.out; omega, by omega, by have := HN.out; omega, or_grow HX.out, HRET.out⟩
          · show n - ((p : Int) + 1).toNat < n - ((p : Int)).toNat
            omega
        · have hy7' : decide ((127 : Int) < (y : Int)) = false := by simp; omega
          by_cases hb0 : 0 < i ∧ y = 0
          · have hret : rdN 0 0 (bs.drop at_) = (0, 0, 111) := by
              rw [HR.out, HDR.out]
              unfold rdN
              rw [if_neg (by omega), if_neg (by rw [HY.out]; omega), if_pos (by rw [HY.out]; exact hb0)]
            have hy0 : ((y : Int) == 0) = true := by simp; omega
            have hs0 : decide (0 < sh) = true := by have := HSH.out; simp; omega
            have HRET := Lib.hid hret
            clear hret
            go_wp2
            go_step3
            refine .inr ⟨rfl, rfl, ?_⟩
            exact ⟨_, _, _, _, _, _, _, _, _, _, _, _, _, _, _, _, _, _, _, _, _, _, _, _, _, _, _, _, _, _, _, _, _, _, _, _, _, _, _, _, _, _, _, _, _, _, _, _, _, _, _, _, _, _, _, _, rfl, HRET.out⟩
          · have hret : rdN 0 0 (bs.drop at_) = (x + y % 128 * 128 ^ i, i + 1, 0) := by
              rw [HR.out, HDR.out]
              unfold rdN
              rw [if_neg (by omega), if_neg (by rw [HY.out]; omega), if_neg (by rw [HY.out]; exact hb0), HY.out]
            have HRET := Lib.hid hret
            clear hret
            by_cases hy0 : y = 0
            · have hy0' : ((y : Int) == 0) = true := by simp; omega
              have hs0 : decide (0 < sh) = false := by have := HSH.out; simp; omega
              go_wp2
              rw [jump2_ret]
              go_ret2
              rw [HRET.out]
              refine ⟨fun _ => ⟨?_, ?_⟩, fun h => absurd rfl h⟩
              · exact ret_u64_ok (or_step (y := y) (z := 0) (by omega) HX.out HSH.out hyl (or_lt hi9) (by have := HX.out; have := pow128_le hi; omega))
              · rw [show ((at_ + (i + 1) : Nat) : Int) = (p : Int) + 1 by have := HP.out; omega]
            · have hy0' : ((y : Int) == 0) = false := by simp; omega
              go_wp2
              rw [jump2_ret]
              go_ret2
              rw [HRET.out]
              refine ⟨fun _ => ⟨?_, ?_⟩, fun h => absurd rfl h⟩
              · exact ret_u64_ok (by show _ = ((x + y % 128 * 128 ^ i : Nat) : Int); push_cast; first | done | rfl)
              · rw [show ((at_ + (i + 1) : Nat) : Int) = (p : Int) + 1 by have := HP.out; omega]
    · have hpn2 : p = n := by omega
      have hpe' : ((p : Int) == (n : Int)) = true := by simp; omega
      have hret : rdN 0 0 (bs.drop at_) = (0, 0, 110) := by
        rw [HR.out, List.drop_eq_nil_of_le (by have := HN.out; omega)]
        unfold rdN
        rfl
      have HRET := Lib.hid hret
      clear hret
      go_wp2
      rw [jump2_ret]
      go_ret2
      rw [HRET.out]
      exact ⟨fun h => (by cases h), fun _ => ⟨rfl, rfl⟩⟩
  · rintro a' w' ⟨rfl, u2, u3, u4, u5, u6, u7, u8, u9, u10, u11, u12, u13, u14, u15, u16, u17, u18, u19, u20, u21, u22, u23, u24, u25, u26, u27, u28, u29, u30, u31, u32, u33, u34, u35, u36, u37, u38, u39, u40, u41, u42, u43, u44, u45, u46, u47, u48, u49, u50, u51, u52, u53, u54, u55, u56, u57, rfl, hr⟩
    have HR := Lib.hid hr
    clear hr
    go_wp2
    rw [Exit.noGoto_ret]
    go_ret2
    rw [HR.out]
    exact ⟨fun h => (by cases h), fun _ => ⟨rfl, rfl⟩⟩
end Go.Proofs.Ytaechgnjdjijkaa

/- The bytes of a writer, handed out; two lists of bytes compared as strings. -/
namespace Go.Proofs.Ytaechgnjdjijkaa
open Go.RowKit Go.Lib

set_option maxRecDepth 100000 in
theorem Bytes_any (B g : Nat) (v : Value) (bs : List UInt8) (W : World) (hw : Wr W B g v bs) (hn : bs.length ≤ 140737488355328) :
    Calls Try.prog 53 #[.pointer (some ⟨g, 0, none⟩)] W fun e w' => ∃ v', e = .returned v' ∧ Below W.heap.size W w' ∧ w'.ownsRow W.heap.size 5 1 v' bs.length (bc bs) := by
  have x0 : W.cell? ⟨g, 0, none⟩ = some v := hw.blk.cell 0
  have hr := Rd.of_owns hw.own
  obtain ⟨a, c, rfl, hc, hm⟩ := ownsRow_shape hw.own
  have HC := Lib.hid (Clone_any a bs.length c bs W hr rfl hn)
  clear hr hw
  go_enter Try.func53, Try.ntmps53
  go_wp2_with (first
    | (go_at_call 58; (with_reducible refine HC.out.mono ?_); rintro e w1 ⟨v1, rfl, hb1, ho1⟩
       have HB := Lib.hid hb1
       have HO := Lib.hid ho1
       clear hb1 ho1))
  go_ret
  exact ⟨v1, rfl, HB.out, HO.out⟩

theorem conv_rd (W : World) (A : Option Addr) (m cap : Nat) (ns : List UInt8) (hr : Rd W (.slice A m cap) m (bc ns)) (hm : ns.length = m) :
    (convert 25 9 (.slice A m cap)).run Try.prog W = .ok (.string ⟨ns.toArray⟩) W := by
  have hsx : strOfNums (ns.map fun b => (b.toNat : Int)) = ⟨ns.toArray⟩ := by
    unfold strOfNums
    rw [List.map_map]
    congr 2
    conv => rhs; rw [← List.map_id ns]
    apply List.map_congr_left
    intro b _
    simp
  obtain ⟨a, cap', hv, hc, hcm, h⟩ := hr
  cases hv
  cases A with
  | none =>
    have h0 : m = 0 := by
      rcases Nat.eq_zero_or_pos m with h1 | h1
      · exact h1
      · obtain ⟨g, o, e, _⟩ := h h1; cases e
    subst h0
    have hns : ns = [] := List.eq_nil_of_length_eq_zero hm
    subst hns
    rw [run_convert_bytes_nil W 25 5 Try.underlying25 Try.underlying5 0 cap 9 Try.underlying9]
    rfl
  | some ad =>
    rcases Nat.eq_zero_or_pos m with h1 | h1
    · subst h1
      have hns : ns = [] := List.eq_nil_of_length_eq_zero hm
      subst hns
      rw [run_convert_bytes_string W 25 9 5 _ 0 cap Try.underlying25 Try.underlying5 Try.underlying9, run_bytesToString W ad 0 cap [] (by simp [loadCells, loadCellsFrom, Sem.run_pure])]
      rfl
    · obtain ⟨g, o, e, hg, hcell⟩ := h h1
      cases e
      rw [run_convert_bytes_arg W 25 5 Try.underlying25 Try.underlying5 g o m cap (ns.map fun b => (b.toNat : Int)) (by simp [hm]) ?_ 9 Try.underlying9, hsx]
      intro i hi
      rw [hcell i _ (bc_at (List.getElem?_eq_getElem (by omega)))]
      simp [List.getD, List.getElem?_eq_getElem (show i < ns.length by omega)]

set_option maxRecDepth 100000 in
theorem Same_any (W : World) (A1 A2 : Option Addr) (m1 m2 c1 c2 : Nat) (ps bs : List UInt8) (h1 : Rd W (.slice A1 m1 c1) m1 (bc ps)) (hm1 : ps.length = m1) (h2 : Rd W (.slice A2 m2 c2) m2 (bc bs)) (hm2 : bs.length = m2) :
    Calls Try.prog 47 #[.slice A1 m1 c1, .slice A2 m2 c2] W fun e w' => e = .returned (.bool (ps == bs)) ∧ W = w' := by
  have hc1 := conv_rd W A1 m1 c1 ps h1 hm1
  have hc2 := conv_rd W A2 m2 c2 bs h2 hm2
  clear h1 hm1 h2 hm2
  go_enter Try.func47, Try.ntmps47
  go_wp2
  go_ret
  exact ⟨rfl, rfl⟩
end Go.Proofs.Ytaechgnjdjijkaa
