/- The walk of Moves. -/
import Derived.Maps.AppendAt
import Derived.Test.YtdbbipdkaahplaaSeq
import Derived.Test.YtdbbipdkaahplaaHeldIn
import Derived.Deep.RegionHeld
namespace Go.Proofs.Ytdbbipdkaahplaa
open Go.RowKit Go.Shelf
attribute [local go_sem] Oper.semAt_some wide_fn wide_depth wide_fn_in wide_depth_in

/-- A move's four numbers. -/
structure Mv where
  first : Int
  behind : Int
  src : Int
  dst : Int
def Mv.cells (m : Mv) : List Value := [.int .i64 m.first, .int .i64 m.behind, .int .i64 m.src, .int .i64 m.dst]
def mvCells (l : List Mv) : List Value := l.flatMap Mv.cells
theorem mvCells_append (a b : List Mv) : mvCells (a ++ b) = mvCells a ++ mvCells b := by simp [mvCells]
theorem mvCells_length (a : List Mv) : (mvCells a).length = a.length * 4 := by
  induction a with
  | nil => rfl
  | cons m l ih => simp only [mvCells, List.flatMap_cons, List.length_append, List.length_cons] at ih ⊢; rw [ih]; simp [Mv.cells]; omega

/-- The stretch's end of the worker who has group x, of q workers. -/
def owner (q g x : Int) : Int := ((x + 1) * q - 1) / g
def cutAt (q g s1 x : Int) : Int := if (owner q g x + 1) * g / q < s1 then (owner q g x + 1) * g / q else s1
/-- What a worker's stretch, from at on, gives away. -/
def movIn (q g a s1 : Int) : Nat → Int → List Mv
  | 0, _ => []
  | f + 1, x => if x < s1 then (if a = owner q g x then [] else [⟨x, cutAt q g s1 x, a, owner q g x⟩]) ++ movIn q g a s1 f (cutAt q g s1 x) else []
def movOf (P : Nat) (q g : Int) (y : Nat) : List Mv := movIn q g y (((y : Int) + 1) * g / P) 32769 ((y : Int) * g / P)
def movPre (P : Nat) (q g : Int) (pre : List Nat) : List Mv := pre.flatMap (fun (x : Nat) => movOf P q g (x % P))

/-- A block whose cells are known. -/
def rowAt (W : World) (B : Nat) (t : TypeId) (cs : Array Value) : Prop := W.heap[B]? = some (.cells cs t (0, 0))
theorem rowAt_lt {W : World} {B : Nat} {t : TypeId} {cs : Array Value} (h : rowAt W B t cs) : B < W.heap.size := (Array.getElem?_eq_some_iff.1 h).1
theorem rowAt_cell {W : World} {B : Nat} {t : TypeId} {cs : Array Value} (h : rowAt W B t cs) (j : Nat) : W.cell? ⟨B, j, none⟩ = cs[j]? := by simp [World.cell?, show W.heap[B]? = _ from h]
theorem rowAt_kept {X Y : World} {row : Option Nat} {B : Nat} {t : TypeId} {cs : Array Value} (h : rowAt X B t cs) (hg : X.grownBy Y row) (hne : some B ≠ row) : rowAt Y B t cs := (hg.block B (rowAt_lt h) hne).trans h
theorem rowAt_own {X Y : World} {row : Option Nat} {B : Nat} {t : TypeId} {cs : Array Value} (h : rowAt X B t cs) (hg : X.grownBy Y row) (hr : ∀ r, row = some r → ∃ o : Obj, X.heap[r]? = some o ∧ o.isCells = false) : rowAt Y B t cs :=
  rowAt_kept h hg (fun e' => by obtain ⟨o, ho, hc⟩ := hr B e'.symm; rw [show X.heap[B]? = _ from h] at ho; cases ho; cases hc)
theorem rowAt_frozen {W : World} {B : Nat} {t : TypeId} {cs : Array Value} (h : rowAt W B t cs) (j : Nat) : W.frozen? ⟨B, j, none⟩ = false := by simp [World.frozen?, show W.heap[B]? = _ from h]
theorem rowAt_set {W : World} {B : Nat} {t : TypeId} {cs : Array Value} (h : rowAt W B t cs) (j : Nat) (v : Value) : rowAt (W.setCell ⟨B, j, none⟩ v) B t (cs.setIfInBounds j v) := by
  obtain ⟨hlt, hk⟩ := Array.getElem?_eq_some_iff.1 h
  show (W.heap.modify B _)[B]? = _
  rw [Array.getElem?_eq_getElem (by rw [Array.size_modify]; exact hlt), Array.getElem_modify_self, hk]
  rfl
theorem rowAt_new (W : World) (t : TypeId) (cs : Array Value) : rowAt (W.alloc (.cells cs t)) W.heap.size t cs := World.alloc_heap_new W _

/-- The cells of an element that append has laid in a block of its own. -/
theorem cells_new (w : World) (cs : Array Value) (t : TypeId) : ∀ j u, cs.toList[j]? = some u → (w.alloc (.cells cs t)).cell? ((⟨w.heap.size, 0, none⟩ : Addr).add j) = some u := by
  intro j u hj
  have h := rowAt_new w t cs
  by_cases h0 : j = 0
  · subst h0; simp only [Addr.add, if_true]; rw [rowAt_cell h]; simpa using hj
  · simp only [Addr.add, if_neg h0]; rw [Nat.zero_add, rowAt_cell h]; simpa using hj

/-- What the loops keep: the boxes, the list so far. -/
structure MI (w wr : World) (N P : Nat) (q g : Int) (v : Value) (L : List Mv) : Prop where
  b4 : Boxed wr N 3 (.int .i64 q)
  b5 : Boxed wr (N + 1) 3 (.int .i64 g)
  b8 : Boxed wr (N + 1 + 1 + 1) 31 v
  bp : Boxed wr (N + 1 + 1 + 1 + 1) 3 (.int .i64 (P : Int))
  bg : Boxed wr (N + 1 + 1 + 1 + 1 + 1) 3 (.int .i64 g)
  row : wr.ownsRow N 40 4 v L.length (mvCells L)
  below : Below N w wr
  size : N + 6 ≤ wr.heap.size

theorem own_cells {W : World} {base : Nat} {e : TypeId} {size n : Nat} {v : Value} {xs : List Value} (h : W.ownsRow base e size v n xs) {row : Option Nat} (hr : ∀ r, row = some r → ∃ o : Obj, W.heap[r]? = some o ∧ o.isCells = false) : v.ownBlock = none ∨ v.ownBlock ≠ row := by
  rcases h.2 with ⟨rfl, _⟩ | ⟨g, cap, cur, rfl, _, hgb, _⟩
  · exact .inl rfl
  · refine .inr fun e' => ?_
    obtain ⟨o, ho, hc⟩ := hr g (by simpa [Value.ownBlock] using e'.symm)
    rw [hgb] at ho; cases ho; cases hc

theorem boxed_cells {W W' : World} {B : Nat} {t : TypeId} {v : Value} (h : Boxed W B t v) {row : Option Nat} (hg : W.grownBy W' row) (hr : ∀ r, row = some r → ∃ o : Obj, W.heap[r]? = some o ∧ o.isCells = false) : Boxed W' B t v :=
  h.kept hg (fun e' => by obtain ⟨o, ho, hc⟩ := hr B e'.symm; rw [show W.heap[B]? = _ from h] at ho; cases ho; cases hc)

theorem MI.kept {w wr wr' : World} {N P : Nat} {q g : Int} {v : Value} {L : List Mv} (h : MI w wr N P q g v L) {row : Option Nat} (hg : wr.grownBy wr' row) (hr : ∀ r, row = some r → N ≤ r ∧ ∃ o : Obj, wr.heap[r]? = some o ∧ o.isCells = false) : MI w wr' N P q g v L :=
  have hr' := fun r e => (hr r e).2
  ⟨boxed_cells h.b4 hg hr', boxed_cells h.b5 hg hr', boxed_cells h.b8 hg hr', boxed_cells h.bp hg hr', boxed_cells h.bg hg hr', h.row.kept hg (own_cells h.row hr'),
    h.below.grown hg (by have := h.size; omega) (fun k e => (hr k e).1), Nat.le_trans h.size hg.size⟩

theorem MI.grown {w wr wr' : World} {N P : Nat} {q g : Int} {v : Value} {L : List Mv} (h : MI w wr N P q g v L) (hg : wr.grownBy wr' none) : MI w wr' N P q g v L := h.kept hg (fun r e => by cases e)

theorem MI.keep2 {w w' A B : World} {N P : Nat} {q g q' : Int} {v v' : Value} {L L' : List Mv} (h : MI w A N P q g v L) (k : MI w' B N P q' g v' L') (hs : A.heap.size ≤ B.heap.size) : Keep2 (N + 1 + 1 + 1 + 1) (N + 1 + 1 + 1 + 1 + 1) A B :=
  ⟨hs, (show B.heap[_]? = _ from k.bp).trans (show A.heap[_]? = _ from h.bp).symm, (show B.heap[_]? = _ from k.bg).trans (show A.heap[_]? = _ from h.bg).symm⟩

theorem MI.app {w wr w1 : World} {N P : Nat} {q g : Int} {v v' : Value} {L : List Mv} {m : Mv} {tmp : Obj} {n : Nat} {ys : List Value} (h : MI w wr N P q g v L)
    (hn : n = (L ++ [m]).length) (hy : ys = mvCells (L ++ [m])) (hown : w1.ownsRow N 40 4 v' n ys) (hgrow : (wr.alloc tmp).grownBy w1 v.ownBlock) :
    MI w (w1.setCell ⟨N + 1 + 1 + 1, 0, none⟩ v') N P q g v' (L ++ [m]) ∧ KeepsOthers wr (w1.setCell ⟨N + 1 + 1 + 1, 0, none⟩ v') ∧
      (∀ B t cs, t ≠ 40 → t ≠ 31 → rowAt wr B t cs → rowAt (w1.setCell ⟨N + 1 + 1 + 1, 0, none⟩ v') B t cs) := by
  have hs := h.size
  obtain ⟨a1, a2, a3, a4, a5⟩ := h.b8.appended (by decide) h.row (n₀ := N) (by omega) (by omega) hown hgrow
  have keep : ∀ {B : Nat} {t : TypeId} {u : Value}, t ≠ 40 → B ≠ N + 1 + 1 + 1 → Boxed wr B t u → Boxed (w1.setCell ⟨N + 1 + 1 + 1, 0, none⟩ v') B t u := fun ht hB hb => ((hb.alloc tmp).kept hgrow (hb.not_row ht h.row)).other hB _
  subst hn hy
  refine ⟨⟨keep (by decide) (by omega) h.b4, keep (by decide) (by omega) h.b5, a2, keep (by decide) (by omega) h.bp, keep (by decide) (by omega) h.bg, a3, h.below.trans a5, ?_⟩, a4, ?_⟩
  · have h1 := hgrow.size; have h2 := (grownBy_setCell' w1 (N + 1 + 1 + 1) v').size
    rw [World.size_alloc] at h1; omega
  · intro B t cs ht1 ht2 hb
    refine rowAt_kept (rowAt_kept (rowAt_kept hb (World.grownBy_alloc wr tmp none) (by simp)) hgrow (fun e => ?_)) (grownBy_setCell' w1 (N + 1 + 1 + 1) v') (fun e => ?_)
    · rcases h.row.2 with ⟨rfl, _⟩ | ⟨k, cap, cur, rfl, _, hgb, _⟩
      · simp [Value.ownBlock] at e
      · obtain rfl : B = k := by simpa [Value.ownBlock] using e
        have := (show wr.heap[B]? = _ from hb).symm.trans hgb
        simp at this; exact ht1 this.2
    · obtain rfl : B = N + 1 + 1 + 1 := by simpa using e
      have := (show wr.heap[_]? = _ from hb).symm.trans (show wr.heap[_]? = _ from h.b8)
      simp at this; exact ht2 this.2

theorem movIn_len (q g a s1 : Int) : ∀ (f : Nat) (x : Int), (movIn q g a s1 f x).length ≤ f
  | 0, _ => by simp [movIn]
  | f + 1, x => by
    have ih := movIn_len q g a s1 f (cutAt q g s1 x)
    unfold movIn
    split
    · rw [List.length_append]; split <;> simp <;> omega
    · simp
theorem movPre_len (P : Nat) (q g : Int) : ∀ pre : List Nat, (movPre P q g pre).length ≤ pre.length * 32769
  | [] => by simp [movPre]
  | x :: l => by
    have ih := movPre_len P q g l
    have h := movIn_len q g ((x % P : Nat) : Int) ((((x % P : Nat) : Int) + 1) * g / P) 32769 (((x % P : Nat) : Int) * g / P)
    simp only [movPre, List.flatMap_cons, List.length_append, List.length_cons] at ih ⊢
    unfold movOf at *
    omega

theorem moveInfo : (Try.prog.info? 40).map (fun i => (i.zero, i.size, i.bytes)) = some (some (.agg #[.int .i64 0, .int .i64 0, .int .i64 0, .int .i64 0]), 4, 32) := by kernel_rfl

set_option maxRecDepth 100000 in
set_option maxHeartbeats 1000000 in
theorem Moves_yes (P : Nat) (q g : Int) (w : World) (hp : mayB P g) (hq : mayB q g) :
    Calls Try.prog 12 #[.int .i64 (P : Int), .int .i64 q, .int .i64 g] w fun e w' => ∃ v, e = .returned (.tuple #[v, .int .i64 0]) ∧ Below w.heap.size w w' ∧ w'.ownsRow w.heap.size 40 4 v (movPre P q g (List.range P)).length (mvCells (movPre P q g (List.range P))) := by
  have Hp := Lib.hid hp
  have Hq := Lib.hid hq
  obtain ⟨p1, p2, p3, p4⟩ := id hp
  obtain ⟨q1, q2, q3, q4⟩ := id hq
  clear hp hq
  obtain ⟨i0, hi0, hz0, hz1, hz2⟩ := info_parts moveInfo
  refine (callsIn_wide (n := 10)).1 ?_
  refine callsIn_of_wp_marks Try.func12 rfl trivial ?_ rfl
  simp only [Try.ntmps12, List.size_toArray, List.length_cons, List.length_nil, Nat.reduceAdd, Nat.reduceSub, Array.replicate_succ, Array.replicate_zero, List.push_toArray, List.append_toArray, List.nil_append, List.cons_append]
  gi_wp2_with (first
    | (gi_at_call 29; (with_reducible refine (callsIn_wide.2 (may_yes _ _ _ Hp.out)).mono ?_); rintro e w' ⟨rfl, rfl⟩)
    | (gi_at_call 29; (with_reducible refine (callsIn_wide.2 (may_yes _ _ _ Hq.out)).mono ?_); rintro e w' ⟨rfl, rfl⟩)
    | (gi_at_call 8; (with_reducible refine (callsIn_wide.2 (Stretches_any _ _ _)).mono ?_); rintro e w' ⟨rfl, rfl⟩))
  have b4 := (((((Boxed.new w 3 (.int .i64 q)).alloc (.cells #[.int .i64 g] 3)).alloc (.cells #[] 40)).alloc (.cells #[(.slice (some ⟨w.heap.size + 1 + 1, 0, none⟩) 0 0)] 31)).alloc (.cells #[.int .i64 (P : Int)] 3)).alloc (.cells #[.int .i64 g] 3)
  have b5 := ((((Boxed.new (w.alloc (.cells #[.int .i64 q] 3)) 3 (.int .i64 g)).alloc (.cells #[] 40)).alloc (.cells #[(.slice (some ⟨w.heap.size + 1 + 1, 0, none⟩) 0 0)] 31)).alloc (.cells #[.int .i64 (P : Int)] 3)).alloc (.cells #[.int .i64 g] 3)
  have r8 := World.ownsRow_made (size := 4) (base := w.heap.size) (e := 40) ((w.alloc (.cells #[.int .i64 q] 3)).alloc (.cells #[.int .i64 g] 3)) #[] 0 (by simp; omega) (by simp [maxLen]) rfl
  have r8' := ((r8.alloc (.cells #[(.slice (some ⟨w.heap.size + 1 + 1, 0, none⟩) 0 0)] 31)).alloc (.cells #[.int .i64 (P : Int)] 3)).alloc (.cells #[.int .i64 g] 3)
  clear r8
  have b8 := ((Boxed.new (((w.alloc (.cells #[.int .i64 q] 3)).alloc (.cells #[.int .i64 g] 3)).alloc (.cells #[] 40)) 31 (.slice (some ⟨w.heap.size + 1 + 1, 0, none⟩) 0 0)).alloc (.cells #[.int .i64 (P : Int)] 3)).alloc (.cells #[.int .i64 g] 3)
  have bp := (Boxed.new ((((w.alloc (.cells #[.int .i64 q] 3)).alloc (.cells #[.int .i64 g] 3)).alloc (.cells #[] 40)).alloc (.cells #[(.slice (some ⟨w.heap.size + 1 + 1, 0, none⟩) 0 0)] 31)) 3 (.int .i64 (P : Int))).alloc (.cells #[.int .i64 g] 3)
  have bg := Boxed.new (((((w.alloc (.cells #[.int .i64 q] 3)).alloc (.cells #[.int .i64 g] 3)).alloc (.cells #[] 40)).alloc (.cells #[(.slice (some ⟨w.heap.size + 1 + 1, 0, none⟩) 0 0)] 31)).alloc (.cells #[.int .i64 (P : Int)] 3)) 3 (.int .i64 g)
  have hB0 : Below w.heap.size w ((((((w.alloc (.cells #[.int .i64 q] 3)).alloc (.cells #[.int .i64 g] 3)).alloc (.cells #[] 40)).alloc (.cells #[(.slice (some ⟨w.heap.size + 1 + 1, 0, none⟩) 0 0)] 31)).alloc (.cells #[.int .i64 (P : Int)] 3)).alloc (.cells #[.int .i64 g] 3)) :=
    ((((((Below.refl _ w).alloc (Nat.le_refl _) _).alloc (by simp) _).alloc (by simp; omega) _).alloc (by simp; omega) _).alloc (by simp; omega) _).alloc (by simp; omega) _
  have hsz : ((((((w.alloc (.cells #[.int .i64 q] 3)).alloc (.cells #[.int .i64 g] 3)).alloc (.cells #[] 40)).alloc (.cells #[(.slice (some ⟨w.heap.size + 1 + 1, 0, none⟩) 0 0)] 31)).alloc (.cells #[.int .i64 (P : Int)] 3)).alloc (.cells #[.int .i64 g] 3)).heap.size = w.heap.size + 6 := by simp
  simp only [World.size_alloc] at b4 b5 r8' b8 bp bg
  obtain ⟨W0, hW0⟩ : ∃ W0, (((((w.alloc (.cells #[.int .i64 q] 3)).alloc (.cells #[.int .i64 g] 3)).alloc (.cells #[] 40)).alloc (.cells #[(.slice (some ⟨w.heap.size + 1 + 1, 0, none⟩) 0 0)] 31)).alloc (.cells #[.int .i64 (P : Int)] 3)).alloc (.cells #[.int .i64 g] 3) = W0 := ⟨_, rfl⟩
  rw [hW0] at b4 b5 r8' b8 bp bg hB0 hsz ⊢
  clear hW0
  obtain ⟨N, hN⟩ : ∃ N, w.heap.size = N := ⟨_, rfl⟩
  rw [hN] at b4 b5 r8' b8 bp bg hsz hB0 ⊢
  refine wpIn_rangeFunc_ownH (α := Nat) (w := W0) rfl (by omega) (gf := 28) (lb := #[.pointer (some ⟨N + 1 + 1 + 1 + 1, 0, none⟩), .pointer (some ⟨N + 1 + 1 + 1 + 1 + 1, 0, none⟩)]) rfl trivial (enters_of Try.func28 (by kernel_rfl) rfl)
    (seq_stops 9 (N + 1 + 1 + 1 + 1) (N + 1 + 1 + 1 + 1 + 1) P g W0 Hp.out (by omega) (by omega) bp.cell bg.cell) keep2_t (keep2_b (by omega) (by omega)) (Below.refl _ _) (fun _ => rfl)
    (fun pre W => ∃ v, MI w W N P q g v (movPre P q g pre))
    (fun _ _ _ => False)
    (fun s X Y row hs hg hr => by obtain ⟨v, hv⟩ := hs; exact ⟨v, hv.kept hg (fun r e => ⟨by have := (hr r e).1; omega, (hr r e).2⟩)⟩)
    (fun _ _ _ _ _ hs _ _ => hs)
    ⟨_, b4, b5, b8, bp, bg, r8', hB0, by omega⟩
    (fun x a' W => ∃ Bx, N + 5 < Bx ∧ rowAt W Bx 26 (strArr P g (x % P)).cells ∧ a' = { tmps := #[.int .i64 (P : Int), .int .i64 q, .int .i64 g, undef, .pointer (some ⟨N, 0, none⟩), .pointer (some ⟨N + 1, 0, none⟩), .slice none 0 0, .int .i64 0, .pointer (some ⟨N + 1 + 1 + 1, 0, none⟩), .int .i64 ((x % P : Nat) : Int), .pointer (some ⟨Bx, 0, none⟩), undef, undef, undef, undef, .int .i64 (P : Int), .int .i64 g, .bool true, .bool false, .bool false, .int .i64 q, .int .i64 g, .bool true, .bool false, .bool false, .slice (some ⟨N + 1 + 1, 0, none⟩) 0 0, .int .i64 (P : Int), .int .i64 g, .func (.func 28) #[] #[.pointer (some ⟨N + 1 + 1 + 1 + 1, 0, none⟩), .pointer (some ⟨N + 1 + 1 + 1 + 1 + 1, 0, none⟩)], .int .i64 ((x % P : Nat) : Int), strArr P g (x % P), undef, undef, undef, undef, undef, undef, undef, undef, undef, undef, undef, undef, undef, undef, undef, undef, undef, undef, undef, undef, undef, undef, undef, undef, undef, undef, undef, undef, undef, undef, undef, undef, undef, undef, undef], defers := [] })
    (fun x a' _ X Y row hs hg hr => by obtain ⟨Bx, h1, h2, h3⟩ := hs; exact ⟨Bx, h1, rowAt_own h2 hg (fun r e => (hr r e).2), h3⟩)
    ?assign ?body ?done ?stop
  case assign =>
    rintro l pre x W K ⟨v, hM⟩ hK
    have hsW := hM.size
    simp only [strEnc, strArr] at hK ⊢
    generalize x % P = y at hK ⊢
    gi_wp2
    exact hK _ _ ((KeepsOthers.alloc _ _).from _) (keep2_grown (World.grownBy_alloc W _ none) (by omega) (by omega) (by simp) (by simp)) ⟨v, hM.grown (World.grownBy_alloc W _ none)⟩ ⟨W.heap.size, by omega, rowAt_new _ _ _, rfl⟩
  case body =>
    rintro l pre x a' W - - ⟨v0, hM0⟩ ⟨Bx, hBx, hR0, rfl⟩ hlt
    have HI : Hid (∀ L v wr, MI w wr N P q g v L → L = movPre P q g (pre ++ [x]) → KeepsOthers W wr → ownPostG W0.heap.size (Keep2 (N + 1 + 1 + 1 + 1) (N + 1 + 1 + 1 + 1 + 1)) (fun pre W => ∃ v, MI w W N P q g v (movPre P q g pre)) (fun _ _ _ => False) (pre ++ [x]) W .normal { tmps := #[], defers := [] } wr) := by
      intro L v wr hM hL hK
      exact ⟨hK.from _, hM0.keep2 hM hK.size, v, hL ▸ hM⟩
    have HL : Hid (movPre P q g (pre ++ [x]) = movPre P q g pre ++ movOf P q g (x % P)) := by simp [Hid, movPre]
    have hyP : x % P < P := Nat.mod_lt _ (by omega)
    simp only [strArr, Value.cells] at hR0 ⊢
    generalize x % P = y at *
    have e0 := rowAt_cell hR0 0
    have e1 := rowAt_cell hR0 1
    simp only [List.getElem?_toArray, List.getElem?_cons_zero, List.getElem?_cons_succ] at e0 e1
    have hd : 1 ≤ 10 - 1 - 1 := by omega
    gi_wp2
    refine wpIn_scope_straight ?_
    gi_wp2
    refine wpIn_label ?_
    gi_wp2
    have hmo : movOf P q g y = movIn q g y (((y : Int) + 1) * g / P) 32769 ((y : Int) * g / P) := rfl
    have hs0 : 0 ≤ (y : Int) * g / P := Int.ediv_nonneg (Int.mul_nonneg (by omega) (by omega)) (by omega)
    have hs1 : ((y : Int) + 1) * g / P ≤ g := by
      have h1 : ((y : Int) + 1) * g ≤ g * P := by rw [Int.mul_comm g]; exact Int.mul_le_mul_of_nonneg_right (by omega) (by omega)
      have h2 := Int.ediv_le_ediv (c := (P : Int)) (by omega) h1
      rwa [Int.mul_ediv_cancel _ (by omega)] at h2
    generalize ((y : Int) + 1) * g / P = s1 at *
    generalize (y : Int) * g / P = s0 at *
    have HM := Lib.hid hmo
    clear hmo e0 e1
    gi_loopw [11] (fun a wr => ∃ (x0 : Int) (f : Nat) (acc : List Mv) (v : Value), a = .int .i64 x0 ∧ 0 ≤ x0 ∧ s1 - x0 ≤ f ∧ acc.length + f ≤ 32769 ∧ Hid (acc ++ movIn q g y s1 f x0 = movOf P q g y) ∧ MI w wr N P q g v (movPre P q g pre ++ acc) ∧ KeepsOthers W wr ∧ rowAt wr Bx 26 #[.int .i64 s0, .int .i64 s1])
      (fun a _ => (s1 - intOf a).toNat)
    case atStart => exact ⟨s0, 32769, [], v0, rfl, hs0, by omega, by simp, HM.out.symm, by simpa using hM0, KeepsOthers.refl _, hR0⟩
    case round =>
      obtain ⟨x0, f, acc, v, rfl, h0, hf, hlen, HE, hM, hK, hR⟩ := hrel
      have e1 := rowAt_cell hR 1
      simp only [List.getElem?_toArray, List.getElem?_cons_zero, List.getElem?_cons_succ] at e1
      have cq := hM.b4.cell
      have cg := hM.b5.cell
      by_cases hxs : x0 < s1
      · have ho0 : 0 ≤ owner q g x0 := wrk_nonneg q3 q1 h0
        have ho1 : owner q g x0 < q := wrk_lt q3 q1 (by omega)
        have hcut : x0 < (owner q g x0 + 1) * g / q := by
          have h := le_wrk (w := owner q g x0 + 1) (x := x0) q3 q1
          have h2 : ¬ (owner q g x0 + 1 ≤ owner q g x0) := by omega
          have h3 : ¬ ((owner q g x0 + 1) * g / q ≤ x0) := fun hh => h2 (h.2 hh)
          omega
        have hwk : ∀ W, Calls Try.prog 18 #[.int .i64 x0, .int .i64 q, .int .i64 g] W fun e w' => e = .returned (.tuple #[.int .i64 (owner q g x0), .int .i64 0]) ∧ Below W.heap.size W w' := fun W => Worker_yes x0 q g W Hq.out h0 (by omega)
        have hst : ∀ W, Calls Try.prog 30 #[.int .i64 (owner q g x0), .int .i64 q, .int .i64 g] W fun e w' => e = .returned (.agg #[.int .i64 (owner q g x0 * g / q), .int .i64 ((owner q g x0 + 1) * g / q)]) ∧ Below W.heap.size W w' := fun W => stretch_any _ _ _ W q3 (by omega) q1 q2 ho0 ho1
        have hct : (if (owner q g x0 + 1) * g / q < s1 then (owner q g x0 + 1) * g / q else s1) = cutAt q g s1 x0 := rfl
        have hc1 : x0 < cutAt q g s1 x0 := by unfold cutAt; split <;> omega
        have hc2 : cutAt q g s1 x0 ≤ s1 := by unfold cutAt; split <;> omega
        have hmv : ∃ f', f = f' + 1 ∧ movIn q g y s1 f x0 = (if (y : Int) = owner q g x0 then [] else [⟨x0, cutAt q g s1 x0, y, owner q g x0⟩]) ++ movIn q g y s1 f' (cutAt q g s1 x0) := by
          obtain ⟨f', rfl⟩ : ∃ f', f = f' + 1 := ⟨f - 1, by omega⟩
          exact ⟨f', rfl, by rw [movIn, if_pos hxs]⟩
        obtain ⟨f', rfl, hmv⟩ := hmv
        have HV := Lib.hid hmv
        have HW := Lib.hid hwk
        have HS := Lib.hid hst
        clear hmv hwk hst
        generalize owner q g x0 = o at *
        generalize (o + 1) * g / q = c at *
        generalize o * g / q = c0 at *
        generalize cutAt q g s1 x0 = d at *
        gi_wp2_with (gi_at_call 18; (with_reducible refine (CallsIn.inRound l (callsIn_wide.2 (HW.out _))).mono ?_); rintro e w1 ⟨rfl, hb1⟩; have hM1 := hM.grown (below_grown hb1 none); have cq1 := hM1.b4.cell; have cg1 := hM1.b5.cell; have hR1 := rowAt_kept hR (below_grown hb1 none) (by simp); have e11 := (rowAt_cell hR1 1).trans ((rowAt_cell hR 1).symm.trans e1))
        have hi1 : ∀ w : World, (Instr.index 26 (.agg #[.int .i64 c0, .int .i64 c]) (.int .i64 1)).run Try.prog w = .ok (.int .i64 c) w := fun _ => by kernel_rfl
        have hmx : Try.prog.follows .mixedOrders = true := by kernel_rfl
        have hF : ∀ W, Below w1.heap.size w1 W → W.cell? ⟨Bx, 1, none⟩ = some (.int .i64 s1) ∧ W.cell? ⟨N, 0, none⟩ = some (.int .i64 q) ∧ W.cell? ⟨N + 1, 0, none⟩ = some (.int .i64 g) := fun W hW =>
          ⟨(hW.cell (p := ⟨Bx, 1, none⟩) (rowAt_lt hR1)).trans e11, (hW.cell (p := ⟨N, 0, none⟩) hM1.b4.lt).trans cq1, (hW.cell (p := ⟨N + 1, 0, none⟩) hM1.b5.lt).trans cg1⟩
        have HF := Lib.hid hF
        have hS := below_drew w1
        refine wpIn_region_held (S := Below w1.heap.size w1) hmx (by kernel_rfl) ?_ (fun _ _ h => h)
        refine wpAnyH_take' 0 44 (.int .i64 x0) rfl rfl (by kernel_rfl) (by kernel_rfl) (by kernel_rfl) (fun _ _ _ h => h) rfl (fun W hW => by obtain ⟨z1, z2, z3⟩ := HF.out W hW; go_simp) hS ?_
        simp only [List.setIfInBounds_toArray, List.set]
        refine wpAnyH_take' 1 45 (.pointer (some ⟨Bx, 1, none⟩)) rfl rfl (by kernel_rfl) (by kernel_rfl) (by kernel_rfl) (fun _ _ _ h => h) rfl (fun W hW => by obtain ⟨z1, z2, z3⟩ := HF.out W hW; go_simp) hS ?_
        simp only [List.setIfInBounds_toArray, List.set]
        refine wpAnyH_take' 2 46 (.int .i64 s1) rfl rfl (by kernel_rfl) (by kernel_rfl) (by kernel_rfl) (fun _ _ _ h => h) rfl (fun W hW => by obtain ⟨z1, z2, z3⟩ := HF.out W hW; go_simp) hS ?_
        simp only [List.setIfInBounds_toArray, List.set]
        refine wpAnyH_take' 3 47 (.int .i64 o) rfl rfl (by kernel_rfl) (by kernel_rfl) (by kernel_rfl) (fun _ _ _ h => h) rfl (fun W hW => by obtain ⟨z1, z2, z3⟩ := HF.out W hW; go_simp) hS ?_
        simp only [List.setIfInBounds_toArray, List.set]
        refine wpAnyH_take' 4 48 (.int .i64 q) rfl rfl (by kernel_rfl) (by kernel_rfl) (by kernel_rfl) (fun _ _ _ h => h) rfl (fun W hW => by obtain ⟨z1, z2, z3⟩ := HF.out W hW; go_simp) hS ?_
        simp only [List.setIfInBounds_toArray, List.set]
        refine wpAnyH_take' 5 49 (.int .i64 g) rfl rfl (by kernel_rfl) (by kernel_rfl) (by kernel_rfl) (fun _ _ _ h => h) rfl (fun W hW => by obtain ⟨z1, z2, z3⟩ := HF.out W hW; go_simp) hS ?_
        simp only [List.setIfInBounds_toArray, List.set]
        refine wpAnyH_take' 9 53 (.int .i64 (y : Int)) rfl rfl (by kernel_rfl) (by kernel_rfl) (by kernel_rfl) (fun _ _ _ h => h) rfl (fun W hW => by obtain ⟨z1, z2, z3⟩ := HF.out W hW; go_simp) hS ?_
        simp only [List.setIfInBounds_toArray, List.set]
        refine wpAnyH_take' 10 54 (.int .i64 o) rfl rfl (by kernel_rfl) (by kernel_rfl) (by kernel_rfl) (fun _ _ _ h => h) rfl (fun W hW => by obtain ⟨z1, z2, z3⟩ := HF.out W hW; go_simp) hS ?_
        simp only [List.setIfInBounds_toArray, List.set]
        refine wpAnyH_ready (rs := [6, 12]) (by kernel_rfl) (by simp) ?_
        refine AllReadyH.cons rfl (fun K hK => ?_) (AllReadyH.cons rfl (fun K hK => ?_) AllReadyH.nil)
        · go_simp
          (with_reducible refine (HS.out _).mono ?_); rintro e w2 ⟨rfl, hb2⟩
          refine hK.out _ _ (below_trans (below_drew w1) hb2) (fun hS2 => ?_)
          clear hK K
          refine wpAnyH_take' 7 51 (.int .i64 c) rfl rfl (by kernel_rfl) (by kernel_rfl) (by kernel_rfl) (fun _ _ _ h => h) rfl (fun W hW => by go_simp) hS2 ?_
          simp only [List.setIfInBounds_toArray, List.set]
          refine wpAnyH_take' 8 52 (.int .i64 d) rfl rfl (by kernel_rfl) (by kernel_rfl) (by kernel_rfl) (fun _ _ _ h => h) rfl (fun W hW => by go_simp) hS2 ?_
          simp only [List.setIfInBounds_toArray, List.set]
          refine wpAnyH_take' 11 55 (.agg #[.int .i64 x0, .int .i64 d, .int .i64 (y : Int), .int .i64 o]) rfl rfl (by kernel_rfl) (by kernel_rfl) (by kernel_rfl) (fun _ _ _ h => h) rfl (fun W hW => by go_simp) hS2 ?_
          simp only [List.setIfInBounds_toArray, List.set]
          refine wpAnyH_ready (rs := [12]) (by kernel_rfl) (by simp) ?_
          refine AllReadyH.cons rfl (fun K hK => ?_) AllReadyH.nil
          go_simp
          refine hK.out _ _ (hS2.alloc hS2.size _) (fun hS3 => ?_)
          clear hK K
          refine wpAnyH_ready (rs := [13]) (by kernel_rfl) (by simp) ?_
          refine AllReadyH.cons rfl (fun K hK => ?_) AllReadyH.nil
          go_simp
          have hR3 := rowAt_new w2 40 #[.int .i64 x0, .int .i64 d, .int .i64 (y : Int), .int .i64 o]
          refine hK.out _ _ (hS2.alloc hS2.size _) (fun hS4 => ?_)
          clear hK K
          refine wpAnyH_done (by kernel_rfl) ?_ _
          obtain ⟨w3, hw3⟩ : ∃ w3, w2.alloc (.cells #[.int .i64 x0, .int .i64 d, .int .i64 (y : Int), .int .i64 o] 40) = w3 := ⟨_, rfl⟩
          rw [hw3] at hS4 hR3 ⊢
          clear hw3 hS3 hS2
          obtain ⟨B, hB⟩ : ∃ B, w2.heap.size = B := ⟨_, rfl⟩
          rw [hB] at hR3 ⊢
          clear hB
          simp only [EndsIn]
          have f0 := rowAt_cell hR3 0
          have f1 := rowAt_cell hR3 1
          have f2 := rowAt_cell hR3 2
          have f3 := rowAt_cell hR3 3
          simp only [List.getElem?_toArray, List.getElem?_cons_zero, List.getElem?_cons_succ] at f0 f1 f2 f3
          have hM3 := hM1.grown (below_grown hS4 none)
          have hR4 := rowAt_kept hR1 (below_grown hS4 none) (by simp)
          have hK3 := (hK.trans (KeepsOthers.of_grownBy (below_grown hb1 none) (fun j o e => by cases e))).trans (KeepsOthers.of_grownBy (below_grown hS4 none) (fun j o e => by cases e))
          have cb := hM3.b8.cell
          have fb := hM3.b8.frozen
          by_cases hyo : (y : Int) = o
          · have hyo1 : ((y : Int) == o) = true := beq_iff_eq.2 hyo
            have HY := Lib.hid hyo
            clear hyo
            gi_wp2
            go_roundw
            case rel => exact ⟨d, f', acc, v, rfl, by omega, by omega, by omega, by have h := HV.out; rw [if_pos HY.out, List.nil_append] at h; have h2 := HE.out; rw [h] at h2; exact h2, hM3, hK3, hR4⟩
            case measure => simp [intOf]; omega
          · have hyo1 : ((y : Int) == o) = false := beq_eq_false_iff_ne.2 hyo
            have HY := Lib.hid hyo
            clear hyo
            have hb8 : (movPre P q g pre ++ acc).length + 1 ≤ 2000000000 := by
              have h1 := movPre_len P q g pre
              have h2 : pre.length * 32769 ≤ 32768 * 32769 := Nat.mul_le_mul_right _ (by omega)
              rw [List.length_append]; omega
            have hsz3 := hM3.size
            have hrow := hM3.row.alloc (.cells #[.int .i64 x0, .int .i64 d, .int .i64 (y : Int), .int .i64 o] 40)
            have HROW := Lib.hid hrow
            have HM3 := Lib.hid hM3
            clear hrow hM3
            gi_wp2_with (gi_at_builtin; refine wpListIn_append_own _ rfl _ _ 31 rfl N 40 i0 _ 4 32 Try.underlying31 hi0 hz0 hz1 hz2 rfl (by decide) _ _ _ rfl HROW.out ⟨w3.heap.size, 0, none⟩ 1 1 [.int .i64 x0, .int .i64 d, .int .i64 (y : Int), .int .i64 o] rfl rfl (cells_new _ _ _) (by simp [Value.oneCell']) (by simp only [maxLen]; omega) (by omega) (by simp; omega) ?_; intro v' w4 hown' hgrow _; obtain ⟨g', cap', rfl⟩ := ownsRow_succ hown'; have hv1 := (HM3.out.b8.appended (by decide) HM3.out.row (n₀ := N) (by omega) (by omega) hown' hgrow).1; have hc1 := hv1.cell; have hf1 := hv1.frozen)
            rw [List.length_append] at hown'
            obtain ⟨m1, m2, m3⟩ := HM3.out.app (m := ⟨x0, d, (y : Int), o⟩) (by simp [Nat.add_assoc]) (by simp only [mvCells_append]; rfl) hown' hgrow
            go_roundw
            case rel => exact ⟨d, f', acc ++ [⟨x0, d, (y : Int), o⟩], _, rfl, by omega, by omega, by rw [List.length_append, List.length_singleton]; omega, by have h := HV.out; rw [if_neg HY.out] at h; have h2 := HE.out; rw [h, ← List.append_assoc] at h2; exact h2, by rw [← List.append_assoc]; exact m1, hK3.trans m2, m3 Bx _ _ (by decide) (by decide) hR4⟩
            case measure => simp [intOf]; omega
        · go_simp
          refine hK.out _ _ (((Below.refl _ w1).alloc (Nat.le_refl _) _).drew) (fun hS3 => ?_)
          clear hK K
          refine wpAnyH_ready (rs := [6]) (by kernel_rfl) (by simp) ?_
          refine AllReadyH.cons rfl (fun K hK => ?_) AllReadyH.nil
          go_simp
          (with_reducible refine (HS.out _).mono ?_); rintro e w2 ⟨rfl, hb2⟩
          refine hK.out _ _ (((Below.refl _ w1).alloc (Nat.le_refl _) _).drew.trans (hb2.mono (by simp))) (fun hS2 => ?_)
          clear hK K
          refine wpAnyH_take' 7 51 (.int .i64 c) rfl rfl (by kernel_rfl) (by kernel_rfl) (by kernel_rfl) (fun _ _ _ h => h) rfl (fun W hW => by go_simp) hS2 ?_
          simp only [List.setIfInBounds_toArray, List.set]
          refine wpAnyH_take' 8 52 (.int .i64 d) rfl rfl (by kernel_rfl) (by kernel_rfl) (by kernel_rfl) (fun _ _ _ h => h) rfl (fun W hW => by go_simp) hS2 ?_
          simp only [List.setIfInBounds_toArray, List.set]
          refine wpAnyH_take' 11 55 (.agg #[.int .i64 x0, .int .i64 d, .int .i64 (y : Int), .int .i64 o]) rfl rfl (by kernel_rfl) (by kernel_rfl) (by kernel_rfl) (fun _ _ _ h => h) rfl (fun W hW => by go_simp) hS2 ?_
          simp only [List.setIfInBounds_toArray, List.set]
          have hR2 : rowAt w2 w1.heap.size 40 #[.int .i64 0, .int .i64 0, .int .i64 0, .int .i64 0] := (hb2.block _ (by simp)).trans (rowAt_new w1 40 #[.int .i64 0, .int .i64 0, .int .i64 0, .int .i64 0])
          have z0 : w2.cell? ⟨w1.heap.size, 0, none⟩ = some (.int .i64 0) := rowAt_cell hR2 0
          have y0 := rowAt_frozen hR2 0
          have z1 : w2.cell? ⟨w1.heap.size, 1, none⟩ = some (.int .i64 0) := rowAt_cell hR2 1
          have y1 := rowAt_frozen hR2 1
          have z2 : w2.cell? ⟨w1.heap.size, 2, none⟩ = some (.int .i64 0) := rowAt_cell hR2 2
          have y2 := rowAt_frozen hR2 2
          have z3 : w2.cell? ⟨w1.heap.size, 3, none⟩ = some (.int .i64 0) := rowAt_cell hR2 3
          have y3 := rowAt_frozen hR2 3
          refine wpAnyH_ready (rs := [13]) (by kernel_rfl) (by simp) ?_
          refine AllReadyH.cons rfl (fun K hK => ?_) AllReadyH.nil
          go_simp
          have hR3 := rowAt_set (rowAt_set (rowAt_set (rowAt_set hR2 0 (.int .i64 x0)) 1 (.int .i64 d)) 2 (.int .i64 (y : Int))) 3 (.int .i64 o)
          simp only [List.setIfInBounds_toArray, List.set] at hR3
          refine hK.out _ _ ((((hS2.setCell (p := ⟨w1.heap.size, 0, none⟩) (Nat.le_refl _) _).setCell (p := ⟨w1.heap.size, 1, none⟩) (Nat.le_refl _) _).setCell (p := ⟨w1.heap.size, 2, none⟩) (Nat.le_refl _) _).setCell (p := ⟨w1.heap.size, 3, none⟩) (Nat.le_refl _) _) (fun hS4 => ?_)
          clear hK K
          refine wpAnyH_done (by kernel_rfl) ?_ _
          obtain ⟨w3, hw3⟩ : ∃ w3, (((w2.setCell ⟨w1.heap.size, 0, none⟩ (.int .i64 x0)).setCell ⟨w1.heap.size, 1, none⟩ (.int .i64 d)).setCell ⟨w1.heap.size, 2, none⟩ (.int .i64 (y : Int))).setCell ⟨w1.heap.size, 3, none⟩ (.int .i64 o) = w3 := ⟨_, rfl⟩
          rw [hw3] at hS4 hR3 ⊢
          clear hw3 hS3 hS2
          obtain ⟨B, hB⟩ : ∃ B, w1.heap.size = B := ⟨_, rfl⟩
          rw [hB] at hR3 ⊢
          clear hB
          simp only [EndsIn]
          have f0 := rowAt_cell hR3 0
          have f1 := rowAt_cell hR3 1
          have f2 := rowAt_cell hR3 2
          have f3 := rowAt_cell hR3 3
          simp only [List.getElem?_toArray, List.getElem?_cons_zero, List.getElem?_cons_succ] at f0 f1 f2 f3
          have hM3 := hM1.grown (below_grown hS4 none)
          have hR4 := rowAt_kept hR1 (below_grown hS4 none) (by simp)
          have hK3 := (hK.trans (KeepsOthers.of_grownBy (below_grown hb1 none) (fun j o e => by cases e))).trans (KeepsOthers.of_grownBy (below_grown hS4 none) (fun j o e => by cases e))
          have cb := hM3.b8.cell
          have fb := hM3.b8.frozen
          by_cases hyo : (y : Int) = o
          · have hyo1 : ((y : Int) == o) = true := beq_iff_eq.2 hyo
            have HY := Lib.hid hyo
            clear hyo
            gi_wp2
            go_roundw
            case rel => exact ⟨d, f', acc, v, rfl, by omega, by omega, by omega, by have h := HV.out; rw [if_pos HY.out, List.nil_append] at h; have h2 := HE.out; rw [h] at h2; exact h2, hM3, hK3, hR4⟩
            case measure => simp [intOf]; omega
          · have hyo1 : ((y : Int) == o) = false := beq_eq_false_iff_ne.2 hyo
            have HY := Lib.hid hyo
            clear hyo
            have hb8 : (movPre P q g pre ++ acc).length + 1 ≤ 2000000000 := by
              have h1 := movPre_len P q g pre
              have h2 : pre.length * 32769 ≤ 32768 * 32769 := Nat.mul_le_mul_right _ (by omega)
              rw [List.length_append]; omega
            have hsz3 := hM3.size
            have hrow := hM3.row.alloc (.cells #[.int .i64 x0, .int .i64 d, .int .i64 (y : Int), .int .i64 o] 40)
            have HROW := Lib.hid hrow
            have HM3 := Lib.hid hM3
            clear hrow hM3
            gi_wp2_with (gi_at_builtin; refine wpListIn_append_own _ rfl _ _ 31 rfl N 40 i0 _ 4 32 Try.underlying31 hi0 hz0 hz1 hz2 rfl (by decide) _ _ _ rfl HROW.out ⟨w3.heap.size, 0, none⟩ 1 1 [.int .i64 x0, .int .i64 d, .int .i64 (y : Int), .int .i64 o] rfl rfl (cells_new _ _ _) (by simp [Value.oneCell']) (by simp only [maxLen]; omega) (by omega) (by simp; omega) ?_; intro v' w4 hown' hgrow _; obtain ⟨g', cap', rfl⟩ := ownsRow_succ hown'; have hv1 := (HM3.out.b8.appended (by decide) HM3.out.row (n₀ := N) (by omega) (by omega) hown' hgrow).1; have hc1 := hv1.cell; have hf1 := hv1.frozen)
            rw [List.length_append] at hown'
            obtain ⟨m1, m2, m3⟩ := HM3.out.app (m := ⟨x0, d, (y : Int), o⟩) (by simp [Nat.add_assoc]) (by simp only [mvCells_append]; rfl) hown' hgrow
            go_roundw
            case rel => exact ⟨d, f', acc ++ [⟨x0, d, (y : Int), o⟩], _, rfl, by omega, by omega, by rw [List.length_append, List.length_singleton]; omega, by have h := HV.out; rw [if_neg HY.out] at h; have h2 := HE.out; rw [h, ← List.append_assoc] at h2; exact h2, by rw [← List.append_assoc]; exact m1, hK3.trans m2, m3 Bx _ _ (by decide) (by decide) hR4⟩
            case measure => simp [intOf]; omega
      · have hnil : movIn q g y s1 f x0 = [] := by cases f <;> simp [movIn, hxs]
        have hL : movPre P q g pre ++ acc = movPre P q g (pre ++ [x]) := by
          have h := HE.out
          rw [hnil, List.append_nil] at h
          rw [HL.out, h]
        have hfin := HI.out _ v wr hM hL hK
        have HF := Lib.hid hfin
        clear hnil hL hfin
        gi_wp2
        exact HF.out
  case done =>
    rintro D xs W hD rfl ⟨v, hM⟩ hK
    have cb := hM.b8.cell
    gi_wp2
    refine ⟨by simp, .inl ⟨_, _, rfl, run_takeDeferred hK, ?_⟩⟩
    exact ⟨_, results_tmp2 rfl _ _ _, v, rfl, hN ▸ hM.below.trans (belowK_b (w := W0) (by omega) W D _ _ hD hK rfl rfl), hN ▸ ownsRow_putObj hM.row _ hK rfl⟩
  case stop =>
    rintro D c pre W _ _ h _
    exact h.elim
end Go.Proofs.Ytdbbipdkaahplaa
