/- The heap of holds in memory: what it is; Len, Less, Swap. -/
import Derived.Test.YtdndljbagjfkkaaHpl
import Derived.Test.YtdndljbagjfkkaaMeth
import Derived.RegionTactic
import Derived.ChangeAlike
namespace Go.Proofs.Ytdndljbagjfkkaa
open Go.RowKit Go.Lib

/-- Of what there was only what X names has turned. -/
structure Only (X : Nat → Prop) (w w' : World) : Prop where
  os : w'.os = w.os
  tape : w'.tape = w.tape
  output : w'.output = w.output
  size : w.heap.size ≤ w'.heap.size
  block : ∀ k, k < w.heap.size → ¬ X k → w'.heap[k]? = w.heap[k]?
section
variable {X Y : Nat → Prop} {w w' w'' : World}
theorem Only.refl (X : Nat → Prop) (w : World) : Only X w w := ⟨rfl, rfl, rfl, Nat.le_refl _, fun _ _ _ => rfl⟩
theorem Only.of_below (h : Below w.heap.size w w') : Only X w w' := ⟨h.os, h.tape, h.output, h.size, fun k hk _ => h.block k hk⟩
theorem Only.trans (h : Only X w w') (k : Only Y w' w'') (hy : ∀ b, Y b → X b ∨ w.heap.size ≤ b) : Only X w w'' :=
  ⟨k.os.trans h.os, k.tape.trans h.tape, k.output.trans h.output, Nat.le_trans h.size k.size, fun b hb hx => (k.block b (Nat.lt_of_lt_of_le hb h.size) (fun hyb => by rcases hy b hyb with h1 | h1; exact hx h1; omega)).trans (h.block b hb hx)⟩
theorem Only.then (h : Only X w w') (k : Only X w' w'') : Only X w w'' := h.trans k fun _ h => .inl h
theorem Only.below (h : Only X w w') {B : Nat} (hx : ∀ b, X b → B ≤ b) (hB : B ≤ w.heap.size) : Below B w w' :=
  ⟨h.os, h.tape, h.output, h.size, fun k hk => h.block k (by omega) (fun hxk => by have := hx k hxk; omega)⟩
theorem Only.set (p : Addr) (u : Value) (hp : X p.block) (w : World) : Only X w (w.setCell p u) :=
  ⟨rfl, rfl, rfl, ((Below.refl 0 w).setCell (p := p) (Nat.zero_le _) u).size, fun k _ hk => Below.heap_setCell _ _ _ k (fun e => hk (by rw [e]; exact hp))⟩
theorem Only.drewN (n : Nat) (w : World) : Only X w (w.drewN n) := ⟨rfl, rfl, rfl, Nat.le_refl _, fun _ _ _ => rfl⟩
theorem Only.of_grown {row : Option Nat} (h : w.grownBy w' row) (hr : ∀ b, row = some b → X b ∨ w.heap.size ≤ b) : Only X w w' :=
  ⟨h.os, h.tape, h.output, h.size, fun k hk hx => h.block k hk (fun e => by rcases hr k e.symm with h1 | h1; exact hx h1; omega)⟩
theorem Only.wide (h : Only X w w') (hy : ∀ b, X b → Y b ∨ w.heap.size ≤ b) : Only Y w w' :=
  ⟨h.os, h.tape, h.output, h.size, fun k hk hx => h.block k hk (fun hxk => by rcases hy k hxk with h1 | h1; exact hx h1; omega)⟩
theorem Bk.only {g : Nat} {t : TypeId} {cs : Array Value} (h : Bk w g t cs) (ho : Only X w w') (hg : ¬ X g) : Bk w' g t cs := (ho.block g h.lt hg).trans h
theorem own_only {base : Nat} {e : TypeId} {size n : Nat} {v : Value} {xs : List Value} (h : w.ownsRow base e size v n xs) (ho : Only X w w') (hv : ∀ r, v.ownBlock = some r → ¬ X r) : w'.ownsRow base e size v n xs := by
  refine ⟨h.1, ?_⟩
  rcases h.2 with h2 | ⟨q, c', cur, hq, h3, h4, h5⟩
  · exact .inl h2
  · exact .inr ⟨q, c', cur, hq, h3, (ho.block q ((Array.getElem?_eq_some_iff.1 h4).1) (hv q (by rw [hq]; rfl))).trans h4, h5⟩
end

theorem bytes_lt : ∀ (x y : List UInt8), Op.bytesLess x y = decide (x < y)
  | [], [] => by simp [Op.bytesLess]
  | _ :: _, [] => by simp [Op.bytesLess]
  | [], _ :: _ => by simp [Op.bytesLess]
  | a :: x, b :: y => by
    rw [Op.bytesLess, bytes_lt x y, Bool.eq_iff_iff]
    simp [List.cons_lt_cons_iff]
theorem Bk.ne {w : World} {g g' : Nat} {t t' : TypeId} {cs cs' : Array Value} (h : Bk w g t cs) (h' : Bk w g' t' cs') (hne : t ≠ t') : g ≠ g' := by
  intro e
  subst e
  have := h.symm.trans h'
  simp only [Option.some.injEq, Obj.cells.injEq] at this
  exact hne this.2.1
/-- Which of two holds is the lesser. -/
def hlt (nm : Nat → ByteArray) (tm : Nat → Int) (a b : Nat) : Prop := tm a < tm b ∨ tm a = tm b ∧ Op.bytesLess (nm a).toList (nm b).toList = true
theorem hlt_ord (nm : Nat → ByteArray) (tm : Nat → Int) : Hp.Ord (hlt nm tm) := by
  have e : ∀ a b, hlt nm tm a b ↔ (tm a < tm b ∨ tm a = tm b ∧ (nm a).toList < (nm b).toList) := fun a b => by
    unfold hlt
    rw [bytes_lt]
    simp
  refine ⟨fun a b h k => ?_, fun a b c h k => ?_, fun a b c h k l => ?_⟩
  · rw [e] at h k
    rcases h with h | ⟨h, h'⟩ <;> rcases k with k | ⟨k, k'⟩
    · omega
    · omega
    · omega
    · exact absurd k' (List.lt_asymm h')
  · rw [e] at h k ⊢
    rcases h with h | ⟨h, h'⟩ <;> rcases k with k | ⟨k, k'⟩
    · left; omega
    · left; omega
    · left; omega
    · right; exact ⟨by omega, List.lt_trans h' k'⟩
  · rw [e] at h k l
    rcases l with l | ⟨l, l'⟩
    · by_cases h1 : tm b < tm a
      · exact h (.inl h1)
      · by_cases h2 : tm c < tm b
        · exact k (.inl h2)
        · omega
    · by_cases h1 : tm b < tm a
      · exact h (.inl h1)
      · by_cases h2 : tm c < tm b
        · exact k (.inl h2)
        · have e1 : tm b = tm a := by omega
          have e2 : tm c = tm b := by omega
          have h3 : ¬ (nm b).toList < (nm a).toList := fun x => h (.inr ⟨e1, x⟩)
          have h4 : ¬ (nm c).toList < (nm b).toList := fun x => k (.inr ⟨e2, x⟩)
          rw [List.not_lt] at h3 h4
          exact absurd l' (List.not_lt.2 (List.le_trans h3 h4))
/-- The row's cells. -/
def hc (f : Nat → Nat) (n : Nat) : List Value := (List.range n).map fun k => .pointer (some ⟨f k, 0, none⟩)
theorem hc_length (f : Nat → Nat) (n : Nat) : (hc f n).length = n := by simp [hc]
theorem hc_at (f : Nat → Nat) {n k : Nat} (h : k < n) : (hc f n)[k]? = some (.pointer (some ⟨f k, 0, none⟩)) := by simp [hc, h]
theorem hc_sw (f : Nat → Nat) {n i j : Nat} (hi : i < n) (_hj : j < n) : ((hc f n).set i (.pointer (some ⟨f j, 0, none⟩))).set j (.pointer (some ⟨f i, 0, none⟩)) = hc (Hp.sw f i j) n := by
  apply List.ext_getElem?
  intro k
  by_cases hk : k < n
  · rw [hc_at _ hk]
    simp only [List.getElem?_set, List.length_set, hc_length]
    unfold Hp.sw
    by_cases h1 : j = k
    · subst h1
      by_cases h2 : j = i
      · subst h2; simp [hk]
      · simp [hk, h2]
    · by_cases h2 : i = k
      · subst h2; simp [hk, h1]
      · rw [if_neg h1, if_neg h2, hc_at f hk, if_neg (fun e => h2 e.symm), if_neg (fun e => h1 e.symm)]
  · rw [List.getElem?_eq_none (by simp [hc_length]; omega), List.getElem?_eq_none (by rw [hc_length]; omega)]
/-- The heap of a clock. -/
structure Hs (w : World) (X : Nat → Prop) (c : Nat) (mk mp v : Value) (n : Nat) (f : Nat → Nat) (nm : Nat → ByteArray) (tm : Nat → Int) : Prop where
  blk : Bk w c 70 #[mk, v, mp]
  own : w.ownsRow 0 77 1 v n (hc f n)
  ent : ∀ k, k < n → Bk w (f k) 82 #[.string (nm (f k)), .int .i64 (tm (f k)), .int .i64 (k : Int)]
  inj : ∀ k l, k < n → l < n → f k = f l → k = l
  xc : X c
  xv : ∀ r, v.ownBlock = some r → X r
  xf : ∀ k, k < n → X (f k)
section
variable {w w' : World} {X : Nat → Prop} {c : Nat} {mk mp v : Value} {n : Nat} {f : Nat → Nat} {nm : Nat → ByteArray} {tm : Nat → Int}
theorem Hs.below (h : Hs w X c mk mp v n f nm tm) (hb : Below w.heap.size w w') : Hs w' X c mk mp v n f nm tm :=
  ⟨h.blk.below hb, own_below h.own hb, fun k hk => (h.ent k hk).below hb, h.inj, h.xc, h.xv, h.xf⟩
theorem Hs.at_ (h : Hs w X c mk mp v n f nm tm) {k : Nat} (hk : k < n) : ∃ q cap, v = .slice (some ⟨q, 0, none⟩) n cap ∧ n ≤ cap ∧ cap ≤ maxLen ∧ (∀ l, l < n → w.cell? ⟨q, l, none⟩ = some (.pointer (some ⟨f l, 0, none⟩)) ∧ w.frozen? ⟨q, l, none⟩ = false) ∧ X q := by
  obtain ⟨a, cap, rfl, h1, h2⟩ := ownsRow_shape h.own
  obtain ⟨q, rfl, _, _, _, _, hcell, hfr⟩ := ownsRow_at h.own (by omega)
  exact ⟨q, cap, rfl, h1, h2, fun l hl => ⟨hcell l _ (hc_at f hl), hfr l⟩, h.xv q rfl⟩
set_option maxRecDepth 100000 in
theorem hLen_any (A : Option Addr) (m cap : Nat) (w : World) : Calls Try.prog 102 #[.slice A m cap] w fun e w' => e = .returned (.int .i64 (m : Int)) ∧ w = w' := by
  go_enter Try.func102, Try.ntmps102
  go_wp2
  go_ret
  exact ⟨rfl, rfl⟩
/-- What the two cells of a comparison hold. -/
structure L2 (w : World) (A : Option Addr) (q m cap i j a b : Nat) (na nb : ByteArray) (ta tb : Int) : Prop where
  hi : i < m
  hj : j < m
  hm : m ≤ 9223372036854775807
  ci : w.cell? ⟨q, i, none⟩ = some (.pointer (some ⟨a, 0, none⟩))
  cj : w.cell? ⟨q, j, none⟩ = some (.pointer (some ⟨b, 0, none⟩))
  a0 : w.cell? ⟨a, 0, none⟩ = some (.string na)
  a1 : w.cell? ⟨a, 1, none⟩ = some (.int .i64 ta)
  b0 : w.cell? ⟨b, 0, none⟩ = some (.string nb)
  b1 : w.cell? ⟨b, 1, none⟩ = some (.int .i64 tb)
set_option maxRecDepth 100000 in
theorem hLess_cells (A : Option Addr) (q m cap i j a b : Nat) (na nb : ByteArray) (ta tb : Int) (w : World) (h : L2 w A q m cap i j a b na nb ta tb) (R : Bool) (hR : R = (decide (ta < tb) || (ta == tb && Op.bytesLess na.toList nb.toList))) :
    Calls Try.prog 103 #[.slice (some ⟨q, 0, none⟩) m cap, .int .i64 (i : Int), .int .i64 (j : Int)] w fun e w' => e = .returned (.bool R) ∧ Below w.heap.size w w' := by
  obtain ⟨hi, hj, hm, ci, cj, a0, a1, b0, b1⟩ := h
  have hii : (i : Int) < (m : Int) := by omega
  have hjj : (j : Int) < (m : Int) := by omega
  have hi0 : (0 : Int) ≤ (i : Int) := by omega
  have hj0 : (0 : Int) ≤ (j : Int) := by omega
  by_cases h1 : ta < tb
  · have d1 : decide (ta < tb) = true := by simpa using h1
    have hR' : R = true := by rw [hR, d1]; rfl
    subst hR'
    clear hR h1
    go_enter Try.func103, Try.ntmps103
    go_wp2
    go_quiet (fail)
    go_wp2
    go_ret
    exact ⟨rfl, (Below.refl _ _).trans ⟨rfl, rfl, rfl, Nat.le_refl _, fun _ _ => rfl⟩⟩
  · have d1 : decide (ta < tb) = false := by simpa using h1
    by_cases h2 : ta = tb
    · subst h2
      have hR' : R = Op.bytesLess na.toList nb.toList := by rw [hR, d1]; simp
      generalize hbl : Op.bytesLess na.toList nb.toList = bl at *
      subst hR'
      clear hR
      have HB := Lib.hid hbl
      clear h1
      go_enter Try.func103, Try.ntmps103
      go_wp2
      go_quiet (fail)
      go_wp2
      go_ret
      exact ⟨rfl, (Below.refl _ _).trans ⟨rfl, rfl, rfl, Nat.le_refl _, fun _ _ => rfl⟩⟩
    · have d2 : (ta == tb) = false := by simpa using h2
      have hR' : R = false := by rw [hR, d1, d2]; rfl
      subst hR'
      clear hR h1 h2
      go_enter Try.func103, Try.ntmps103
      go_wp2
      go_quiet (fail)
      go_wp2
      go_ret
      exact ⟨rfl, (Below.refl _ _).trans ⟨rfl, rfl, rfl, Nat.le_refl _, fun _ _ => rfl⟩⟩
end
end Go.Proofs.Ytdndljbagjfkkaa
