/- Keys' states in a row in memory; all keys' states, read: plainly. -/
import Derived.Test.YtaechgnjdjijkaaKnown3
import Derived.Test.YtaechgnjdjijkaaBack2
import Derived.Test.YtaechgnjdjijkaaFront
namespace Go.Proofs.Ytaechgnjdjijkaa
open Go.RowKit Go.Lib

/-- A key's state and where its windows lie. -/
structure Km where
  k : Kn
  A : Option Addr
  cap : Nat
def Km.win (x : Km) : Value := .slice x.A x.k.ws.length x.cap
def Km.cells (x : Km) : List Value := [.string x.k.key, .int .i64 x.k.dr, .slice x.A x.k.ws.length x.cap]
def Km.arr (x : Km) : Array Value := #[.string x.k.key, .int .i64 x.k.dr, .slice x.A x.k.ws.length x.cap]
def Km.val (x : Km) : Value := .agg #[.string x.k.key, .int .i64 x.k.dr, .slice x.A x.k.ws.length x.cap]
def kcells (l : List Km) : List Value := l.flatMap Km.cells
theorem kcells_append (a b : List Km) : kcells (a ++ b) = kcells a ++ kcells b := by simp [kcells]
theorem kcells_length (l : List Km) : (kcells l).length = l.length * 3 := flat_length Km.cells 3 (fun _ => rfl) l
theorem kcells_at (l : List Km) (k : Nat) (x : Km) (h : l[k]? = some x) (j : Nat) (u : Value) (hj : x.cells[j]? = some u) : (kcells l)[k * 3 + j]? = some u := flat_at Km.cells 3 (fun _ => rfl) l k x h j u hj
theorem km_one (x : Km) : ∀ u ∈ x.cells, u.oneCell' = true := by
  intro u hu
  simp only [Km.cells, List.mem_cons, List.not_mem_nil, or_false] at hu
  rcases hu with rfl | rfl | rfl <;> rfl
theorem kcells_one (l : List Km) : ∀ u ∈ kcells l, u.oneCell' = true := by
  intro u hu
  simp only [kcells, List.mem_flatMap] at hu
  obtain ⟨x, _, hx⟩ := hu
  exact km_one x u hx
/-- Its windows lie there. -/
def Km.Ok (w : World) (x : Km) : Prop := Rd w (.slice x.A x.k.ws.length x.cap) x.k.ws.length (wcells x.k.ws)
/-- Its windows lie in new memory. -/
def Km.Own (w : World) (B : Nat) (x : Km) : Prop := w.ownsRow B 93 9 (.slice x.A x.k.ws.length x.cap) x.k.ws.length (wcells x.k.ws)
theorem Km.Own.ok {w : World} {B : Nat} {x : Km} (h : x.Own w B) : x.Ok w := Rd.of_owns h
theorem Km.Ok.below {w w' : World} {x : Km} (h : x.Ok w) (hb : Below w.heap.size w w') : x.Ok w' := Rd.below h hb
theorem Km.Own.mono {w : World} {B B' : Nat} {x : Km} (h : x.Own w B) (hb : B' ≤ B) : x.Own w B' := own_mono h hb
theorem Km.Own.below {w w' : World} {B : Nat} {x : Km} (h : x.Own w B) (hb : Below w.heap.size w w') : x.Own w' B := own_below h hb
theorem Km.Ok.rk {w : World} {x : Km} (h : x.Ok w) : Rk w x.val x.k := ⟨x.A, x.cap, rfl, h⟩
/-- A slice that reads as keys' states. -/
structure Rks (w : World) (v : Value) (n : Nat) (l : List Km) : Prop where
  rd : Rd w v n (kcells l)
  len : l.length = n
  ok : ∀ x ∈ l, x.Ok w
theorem Rks.below {w w' : World} {v : Value} {n : Nat} {l : List Km} (h : Rks w v n l) (hb : Below w.heap.size w w') : Rks w' v n l := ⟨h.rd.below hb, h.len, fun x hx => (h.ok x hx).below hb⟩
/-- A slice of keys' states in new memory. -/
structure Oks (w : World) (B : Nat) (v : Value) (n : Nat) (l : List Km) : Prop where
  own : w.ownsRow B 29 3 v n (kcells l)
  len : l.length = n
  each : ∀ x ∈ l, x.Own w B
theorem Oks.rks {w : World} {B : Nat} {v : Value} {n : Nat} {l : List Km} (h : Oks w B v n l) : Rks w v n l := ⟨Rd.of_owns h.own, h.len, fun x hx => (h.each x hx).ok⟩
theorem Oks.below {w w' : World} {B : Nat} {v : Value} {n : Nat} {l : List Km} (h : Oks w B v n l) (hb : Below w.heap.size w w') : Oks w' B v n l := ⟨own_below h.own hb, h.len, fun x hx => (h.each x hx).below hb⟩
theorem Oks.mono {w : World} {B B' : Nat} {v : Value} {n : Nat} {l : List Km} (h : Oks w B v n l) (hb : B' ≤ B) : Oks w B' v n l := ⟨own_mono h.own hb, h.len, fun x hx => (h.each x hx).mono hb⟩
/-- Behind what has turned elsewhere. -/
theorem Km.Own.grown {w w' : World} {B : Nat} {x : Km} {row : Option Nat} (h : x.Own w B) (hg : w.grownBy w' row) (hr : ∀ r, row = some r → (Value.slice x.A x.k.ws.length x.cap).ownBlock ≠ some r) : x.Own w' B :=
  own_heap h fun r hr' => hg.block r (h.lt r hr').2 (fun e => hr r e.symm hr')
theorem Km.Own.ne {w : World} {B B' : Nat} {x : Km} {v : Value} {n : Nat} {xs : List Value} (h : x.Own w B) (ho : w.ownsRow B' 29 3 v n xs) : ∀ r, v.ownBlock = some r → (Value.slice x.A x.k.ws.length x.cap).ownBlock ≠ some r := fun r hr e => by
  rcases own_own_ne h ho (by decide) with h1 | h1
  · rw [h1] at e; cases e
  · exact h1 (e.trans hr.symm)
/-- One behind them. -/
theorem Oks.snoc {w w' : World} {B : Nat} {v v' : Value} {n : Nat} {l : List Km} {x : Km} (h : Oks w B v n l) (hx : x.Own w B) (ho : w'.ownsRow B 29 3 v' (n + 1) (kcells l ++ x.cells)) (hg : w.grownBy w' v.ownBlock) : Oks w' B v' (n + 1) (l ++ [x]) := by
  refine ⟨?_, by simp [h.len], fun y hy => ?_⟩
  · rw [kcells_append]
    have : kcells [x] = x.cells := by simp [kcells]
    rw [this]; exact ho
  · rw [List.mem_append, List.mem_singleton] at hy
    rcases hy with hy | rfl
    · exact (h.each y hy).grown hg ((h.each y hy).ne h.own)
    · exact hx.grown hg (hx.ne h.own)
/-- The key's state at a place of a slice. -/
theorem rks_at {w : World} {A : Option Addr} {n cap : Nat} {l : List Km} (h : Rks w (.slice A n cap) n l) {k : Nat} {x : Km} (hk : l[k]? = some x) :
    ∃ g off, A = some ⟨g, off, none⟩ ∧ g < w.heap.size ∧ w.cell? ⟨g, off + k * 3, none⟩ = some (.string x.k.key) ∧ w.cell? ⟨g, off + k * 3 + 1, none⟩ = some (.int .i64 x.k.dr) ∧ w.cell? ⟨g, off + k * 3 + 2, none⟩ = some (.slice x.A x.k.ws.length x.cap) := by
  obtain ⟨_, _, hv, _, _, hr⟩ := h.rd
  cases hv
  have hlt := (List.getElem?_eq_some_iff.1 hk).1
  have := h.len
  obtain ⟨g, off, hA, hg, hc⟩ := hr (by omega)
  have e : ∀ (j : Nat) (u : Value), x.cells[j]? = some u → w.cell? ⟨g, off + k * 3 + j, none⟩ = some u := fun j u hj => by rw [Nat.add_assoc]; exact hc _ _ (kcells_at l k x hk j u hj)
  exact ⟨g, off, hA, hg, e 0 _ rfl, e 1 _ rfl, e 2 _ rfl⟩
theorem keyInfo : (Try.prog.info? 29).map (fun i => (i.zero, i.size, i.bytes)) = some (some (.agg #[.string ⟨#[]⟩, .int .i64 0, .slice none 0 0]), 3, 48) := by kernel_rfl

/-! Plainly. -/
/-- Is one key not below another one? -/
def geS (a b : ByteArray) : Bool := !Op.bytesLess a.toList b.toList
/-- Is the last key not below this one? -/
def notUp (l : List Kn) (k : Kn) : Bool := match l.getLast? with
  | none => false
  | some y => geS y.key k.key
/-- All keys' states, read behind these. -/
noncomputable def rdAll (c : Cf) : Nat → List UInt8 → List Kn → Option (List Kn)
  | 0, _, l => some l
  | n + 1, bs, l => if bs.length = 0 then some l else match rdKey c bs 0 with
    | none => none
    | some (k, a) => if notUp l k then none else rdAll c n (bs.drop a) (l ++ [k])
theorem rdAll_nil (c : Cf) (n : Nat) (l : List Kn) : rdAll c n [] l = some l := by cases n <;> simp [rdAll]
theorem rdWs_ge {bs : List UInt8} : ∀ (n a : Nat) (l : List Wn) (l' : List Wn) (a' : Nat), a ≤ bs.length → (∀ x ∈ l, x.Fit) → rdWs bs n a l = some (l', a') → a + 9 * n ≤ a' ∧ l'.length = l.length + n
  | 0, a, l, l', a', ha, hl, h => by cases h; exact ⟨Nat.le_refl _, rfl⟩
  | n + 1, a, l, l', a', ha, hl, h => by
    rw [rdWs] at h
    cases hk : rdTo bs (lastS l) a 9 with
    | none => rw [hk] at h; cases h
    | some y =>
      obtain ⟨x, a2⟩ := y
      rw [hk] at h
      have hls : ∀ s, lastS l = some s → In64 s := fun s hs => by
        unfold lastS at hs
        cases hg : l.getLast? with
        | none => rw [hg] at hs; cases hs
        | some z => rw [hg] at hs; cases hs; exact (hl z (List.mem_of_getLast? hg)).s
      obtain ⟨h1, h2, h3⟩ := rdTo_facts hls ha 9 x a2 hk
      obtain ⟨h4, h5⟩ := rdWs_ge n a2 _ l' a' h2 (fun z hz => by
        rw [List.mem_append, List.mem_singleton] at hz
        rcases hz with hz | rfl
        · exact hl z hz
        · exact h1) h
      rw [List.length_append, List.length_singleton] at h5
      omega
theorem cut_size {bs : List UInt8} {a n : Nat} (h : a + n ≤ bs.length) : (⟨(cut bs a n).toArray⟩ : ByteArray).size = n := by
  show (cut bs a n).toArray.size = n
  simp [cut_length bs a n h]
theorem rdKey_pos {c : Cf} {bs : List UInt8} {k : Kn} {a : Nat} (h : rdKey c bs 0 = some (k, a)) : k.key.size + 9 * k.ws.length + 3 ≤ a ∧ KeyP (c.k == 3) k := by
  unfold rdKey at h
  split at h
  · cases h
  · rename_i h0
    obtain ⟨t1, t2, t3⟩ := txE_ok (m := 256) (bs := bs) (a := 0) (by omega)
    simp only at h
    split at h
    · cases h
    · rename_i h1
      have f1 := (rdAt_facts bs _ t3).2.1
      split at h
      · cases h
      · rename_i h2
        have f2 := (rdAt_facts bs _ f1).2.1
        have p0 := rdAt_pos (Nat.zero_le _) t1
        have p1 := rdAt_pos t3 (by omega)
        have p2 := rdAt_pos f1 (by omega)
        split at h
        · cases h
        · rename_i l r hw
          split at h
          · rename_i hk
            cases h
            obtain ⟨g1, g2⟩ := rdWs_ge _ _ _ _ _ f2 (by simp) hw
            refine ⟨?_, keyB_iff.1 hk⟩
            simp only
            rw [cut_size t3]
            have g3 : l.length = _ := g2.trans (Nat.zero_add _)
            omega
          · cases h
end Go.Proofs.Ytaechgnjdjijkaa
