/- The writer: what it is in memory; the walk of put for each of the closures that are handed to it. -/
import Derived.Test.YtaechgnjdjijkaaFold
namespace Go.Proofs.Ytaechgnjdjijkaa
open Go.RowKit

/-- A writer of these bytes. -/
structure Wr (W : World) (B g : Nat) (v : Value) (bs : List UInt8) : Prop where
  blk : Bk W g 133 #[v]
  own : W.ownsRow B 5 1 v bs.length (bc bs)
theorem Wr.ne {W : World} {B g : Nat} {v : Value} {bs : List UInt8} (h : Wr W B g v bs) : v.ownBlock ≠ some g := own_bk_ne h.own h.blk (by decide)

/-- What a writer's call leaves: its box, its bytes' block and what is new have turned. -/
structure Wch (W W' : World) (g : Nat) (v v' : Value) : Prop where
  os : W'.os = W.os
  tape : W'.tape = W.tape
  output : W'.output = W.output
  size : W.heap.size ≤ W'.heap.size
  block : ∀ k, k < W.heap.size → k ≠ g → some k ≠ v.ownBlock → W'.heap[k]? = W.heap[k]?
  at_ : ∀ r, v'.ownBlock = some r → v.ownBlock = some r ∨ W.heap.size ≤ r
theorem Wch.refl (W : World) (g : Nat) (v : Value) : Wch W W g v v := ⟨rfl, rfl, rfl, Nat.le_refl _, fun _ _ _ _ => rfl, fun _ h => .inl h⟩
theorem Wch.trans {a b c : World} {g : Nat} {u v x : Value} (h : Wch a b g u v) (k : Wch b c g v x) : Wch a c g u x :=
  ⟨k.os.trans h.os, k.tape.trans h.tape, k.output.trans h.output, Nat.le_trans h.size k.size, fun i hi h1 h2 =>
    (k.block i (Nat.lt_of_lt_of_le hi h.size) h1 (fun e => by rcases h.at_ i e.symm with h3 | h3; exact h2 h3.symm; omega)).trans (h.block i hi h1 h2),
   fun r e => by
    rcases k.at_ r e with h1 | h1
    · exact h.at_ r h1
    · exact .inr (Nat.le_trans h.size h1)⟩
theorem Wch.of_grew {W W' : World} {v v' : Value} (g : Nat) (h : Grew W W' v v') : Wch W W' g v v' := ⟨h.only.os, h.only.tape, h.only.output, h.only.size, fun k hk _ h2 => h.only.block k hk h2, h.at_⟩
theorem Wch.of_below {W W' : World} (h : Below W.heap.size W W') (g : Nat) (v : Value) : Wch W W' g v v := Wch.of_grew g (Grew.of_below h v)
theorem Wch.set {W : World} {g : Nat} {v : Value} (u : Value) : Wch W (W.setCell ⟨g, 0, none⟩ u) g v v :=
  ⟨rfl, rfl, rfl, ((Below.refl 0 W).setCell (p := ⟨g, 0, none⟩) (Nat.zero_le _) u).size, fun k _ h1 _ => Below.heap_setCell _ _ _ k h1, fun _ h => .inl h⟩
theorem Wch.below {W W' : World} {g B : Nat} {v v' : Value} (h : Wch W W' g v v') (hB : B ≤ W.heap.size) (hg : B ≤ g) (hv : ∀ r, v.ownBlock = some r → B ≤ r) : Below B W W' :=
  ⟨h.os, h.tape, h.output, h.size, fun k hk => h.block k (by omega) (by omega) (fun e => by have := hv k e.symm; omega)⟩
theorem Bk.wch {W W' : World} {g : Nat} {v v' : Value} {k : Nat} {t : TypeId} {cs : Array Value} (h : Bk W k t cs) (c : Wch W W' g v v') (h1 : k ≠ g) (h2 : v.ownBlock ≠ some k) : Bk W' k t cs := (c.block k h.lt h1 (fun e => h2 e.symm)).trans h
theorem own_wch {W W' : World} {g B : Nat} {v v' x : Value} {e : TypeId} {size n : Nat} {xs : List Value} (h : W.ownsRow B e size x n xs) (c : Wch W W' g v v') (h1 : x.ownBlock ≠ some g) (h2 : x.ownBlock = none ∨ x.ownBlock ≠ v.ownBlock) : W'.ownsRow B e size x n xs := by
  rcases h.2 with ⟨rfl, h0⟩ | ⟨k, cap, cur, rfl, hb, hh, hr⟩
  · exact ⟨h.1, .inl ⟨rfl, h0⟩⟩
  · refine ⟨h.1, .inr ⟨k, cap, cur, rfl, hb, ?_, hr⟩⟩
    have hlt := (Array.getElem?_eq_some_iff.1 hh).1
    rw [c.block k hlt (fun e => h1 (by simp [Value.ownBlock, e])) (fun e => by
      rcases h2 with h2 | h2
      · cases h2
      · exact h2 e)]
    exact hh
theorem Wr.below {W W' : World} {B g : Nat} {v : Value} {bs : List UInt8} (h : Wr W B g v bs) (hb : Below W.heap.size W W') : Wr W' B g v bs := ⟨h.blk.below hb, own_below h.own hb⟩
theorem Wr.mono {W : World} {B B' g : Nat} {v : Value} {bs : List UInt8} (h : Wr W B g v bs) (hB : B' ≤ B) : Wr W B' g v bs := ⟨h.blk, own_mono h.own hB⟩

set_option maxRecDepth 100000 in
theorem put_Number (B g c : Nat) (v : Value) (bs bs' : List UInt8) (W : World) (hw : Wr W B g v bs)
    (hf : Calls Try.prog 97 #[v, .pointer (some ⟨c, 0, none⟩)] W fun e w' => ∃ v', e = .returned v' ∧ Grew W w' v v' ∧ w'.ownsRow B 5 1 v' bs'.length (bc bs')) :
    Calls Try.prog 94 #[.pointer (some ⟨g, 0, none⟩), .func (.func 97) #[] #[.pointer (some ⟨c, 0, none⟩)]] W fun e w' => e = .returned (.int .i64 0) ∧ ∃ v', Wr w' B g v' bs' ∧ Wch W w' g v v' := by
  have HW := Lib.hid hw
  have HF := Lib.hid hf
  have x0 : W.cell? ⟨g, 0, none⟩ = some v := hw.blk.cell 0
  have fz := hw.blk.frozen 0
  clear hw hf
  go_enter Try.func94, Try.ntmps94
  go_wp2_with (first
    | (go_at_call 97; (with_reducible refine HF.out.mono ?_); rintro e w1 ⟨v1, rfl, hg1, ho1⟩
       obtain ⟨a1, c1, rfl, _, _⟩ := ownsRow_shape ho1
       have HB1 := Lib.hid (HW.out.blk.grew hg1 HW.out.ne)
       have HG1 := Lib.hid hg1
       have HO1 := Lib.hid ho1
       have y0 : w1.cell? ⟨g, 0, none⟩ = some v := HB1.out.cell 0
       have fy := HB1.out.frozen 0
       clear hg1 ho1 x0 fz))
  go_ret
  exact ⟨rfl, _, ⟨HB1.out.set 0 _, own_set HO1.out HB1.out (by decide) 0 _⟩, (Wch.of_grew g HG1.out).trans (Wch.set _)⟩

set_option maxRecDepth 100000 in
theorem put_Text (B g c : Nat) (v : Value) (bs bs' : List UInt8) (W : World) (hw : Wr W B g v bs)
    (hf : Calls Try.prog 95 #[v, .pointer (some ⟨c, 0, none⟩)] W fun e w' => ∃ v', e = .returned v' ∧ Grew W w' v v' ∧ w'.ownsRow B 5 1 v' bs'.length (bc bs')) :
    Calls Try.prog 94 #[.pointer (some ⟨g, 0, none⟩), .func (.func 95) #[] #[.pointer (some ⟨c, 0, none⟩)]] W fun e w' => e = .returned (.int .i64 0) ∧ ∃ v', Wr w' B g v' bs' ∧ Wch W w' g v v' := by
  have HW := Lib.hid hw
  have HF := Lib.hid hf
  have x0 : W.cell? ⟨g, 0, none⟩ = some v := hw.blk.cell 0
  have fz := hw.blk.frozen 0
  clear hw hf
  go_enter Try.func94, Try.ntmps94
  go_wp2_with (first
    | (go_at_call 95; (with_reducible refine HF.out.mono ?_); rintro e w1 ⟨v1, rfl, hg1, ho1⟩
       obtain ⟨a1, c1, rfl, _, _⟩ := ownsRow_shape ho1
       have HB1 := Lib.hid (HW.out.blk.grew hg1 HW.out.ne)
       have HG1 := Lib.hid hg1
       have HO1 := Lib.hid ho1
       have y0 : w1.cell? ⟨g, 0, none⟩ = some v := HB1.out.cell 0
       have fy := HB1.out.frozen 0
       clear hg1 ho1 x0 fz))
  go_ret
  exact ⟨rfl, _, ⟨HB1.out.set 0 _, own_set HO1.out HB1.out (by decide) 0 _⟩, (Wch.of_grew g HG1.out).trans (Wch.set _)⟩

theorem putNil_any (F : Value) (W : World) : Calls Try.prog 94 #[.pointer none, F] W fun e w' => e = .returned (.int .i64 1) ∧ W = w' := by
  go_enter Try.func94, Try.ntmps94
  go_wp2
  go_ret
  exact ⟨rfl, rfl⟩

set_option maxRecDepth 100000 in
theorem Number_any (B g x : Nat) (v : Value) (bs : List UInt8) (W : World) (hw : Wr W B g v bs) (hB : B ≤ W.heap.size) (hx : x < 18446744073709551616) (hn : bs.length + 20 ≤ 140737488355328) :
    Calls Try.prog 77 #[.pointer (some ⟨g, 0, none⟩), .int .u64 (x : Int)] W fun e w' => e = .returned (.int .i64 0) ∧ ∃ v', Wr w' B g v' (bs ++ num7 x) ∧ Wch W w' g v v' := by
  have hal := below_alloc W (.cells #[.int .u64 (x : Int)] 76)
  have hwa := hw.below hal
  have hf : Calls Try.prog 97 #[v, .pointer (some ⟨W.heap.size, 0, none⟩)] (W.alloc (.cells #[.int .u64 (x : Int)] 76)) fun e w' => ∃ v', e = .returned v' ∧ Grew (W.alloc (.cells #[.int .u64 (x : Int)] 76)) w' v v' ∧ w'.ownsRow B 5 1 v' (bs ++ num7 x).length (bc (bs ++ num7 x)) := by
    have HN := Lib.hid (number_any B v bs.length x (bc bs) _ hwa.own (by simp; omega) hx hn)
    have HC : Hid ((bs ++ num7 x).length = bs.length + (num7 x).length ∧ bc (bs ++ num7 x) = bc bs ++ bc (num7 x)) := ⟨by simp, bc_append _ _⟩
    clear hwa hw
    go_enter Try.func97, Try.ntmps97
    go_wp2_with (first
      | (go_at_call 96; (with_reducible refine HN.out.mono ?_); rintro e w1 ⟨v1, rfl, hg1, ho1⟩; have HG := Lib.hid hg1; have HO := Lib.hid ho1; clear hg1 ho1))
    go_ret
    exact ⟨v1, rfl, HG.out, by rw [HC.out.1, HC.out.2]; exact HO.out⟩
  have HP := Lib.hid (put_Number B g W.heap.size v bs (bs ++ num7 x) _ hwa hf)
  have HA := Lib.hid hal
  clear hf hwa hw hal
  go_enter Try.func77, Try.ntmps77
  go_wp2_with (first
    | (go_at_call 94; (with_reducible refine HP.out.mono ?_); rintro e w2 ⟨rfl, v2, hw2, hc2⟩; have HW2 := Lib.hid hw2; have HC2 := Lib.hid hc2; clear hw2 hc2))
  go_ret
  exact ⟨rfl, v2, HW2.out, (Wch.of_below HA.out g v).trans HC2.out⟩
end Go.Proofs.Ytaechgnjdjijkaa
