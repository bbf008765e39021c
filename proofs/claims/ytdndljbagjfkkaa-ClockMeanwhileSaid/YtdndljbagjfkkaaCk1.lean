/- A clock in memory; what it is told: there, time, Mark, Marks, First, Outward. -/
import Derived.Test.YtdndljbagjfkkaaNm
import Derived.Lib.MinMax
import Derived.IntWalk
namespace Go.Proofs.Ytdndljbagjfkkaa
open Go.RowKit Go.Lib

/-- Numbers as cells. -/
def ic (l : List Int) : List Value := l.map (Value.int .i64)
theorem ic_at {l : List Int} {k : Nat} {x : Int} (h : l[k]? = some x) : (ic l)[k]? = some (.int .i64 x) := by simp [ic, h]
theorem ic_length (l : List Int) : (ic l).length = l.length := by simp [ic]
theorem ic_set (l : List Int) (k : Nat) (x : Int) : (ic l).set k (.int .i64 x) = ic (l.set k x) := by unfold ic; rw [List.map_set]
theorem ic_one (l : List Int) : ∀ u ∈ ic l, u.oneCell' = true := by
  intro u hu
  simp only [ic, List.mem_map] at hu
  obtain ⟨x, _, rfl⟩ := hu
  rfl
theorem i64Info : (Try.prog.info? 2).map (fun i => (i.zero, i.size, i.bytes)) = some (some (.int .i64 0), 1, 8) := by kernel_rfl
/-- The least of numbers. -/
def mnL : List Int → Int
  | [] => 0
  | a :: r => r.foldl min a
theorem foldl_min_le : ∀ (r : List Int) (a : Int), r.foldl min a ≤ a ∧ ∀ x ∈ r, r.foldl min a ≤ x
  | [], a => ⟨Int.le_refl _, fun x hx => by cases hx⟩
  | b :: r, a => by
    obtain ⟨h1, h2⟩ := foldl_min_le r (min a b)
    simp only [List.foldl_cons]
    refine ⟨by omega, fun x hx => ?_⟩
    rcases List.mem_cons.1 hx with rfl | hx
    · omega
    · exact h2 x hx
theorem foldl_min_mem : ∀ (r : List Int) (a : Int), r.foldl min a = a ∨ r.foldl min a ∈ r
  | [], a => .inl rfl
  | b :: r, a => by
    simp only [List.foldl_cons]
    rcases foldl_min_mem r (min a b) with h | h
    · rw [h]
      rcases Int.le_total a b with h1 | h1
      · left; omega
      · right
        have : min a b = b := by omega
        rw [this]
        exact List.mem_cons_self
    · right; exact List.mem_cons_of_mem _ h
theorem mnL_le {L : List Int} {x : Int} (h : x ∈ L) : mnL L ≤ x := by
  cases L with
  | nil => cases h
  | cons a r =>
    obtain ⟨h1, h2⟩ := foldl_min_le r a
    rcases List.mem_cons.1 h with rfl | h
    · exact h1
    · exact h2 x h
theorem mnL_mem {L : List Int} (h : L ≠ []) : mnL L ∈ L := by
  cases L with
  | nil => exact absurd rfl h
  | cons a r =>
    rcases foldl_min_mem r a with h1 | h1
    · show r.foldl min a ∈ _
      rw [h1]; exact List.mem_cons_self
    · exact List.mem_cons_of_mem _ h1
theorem mnL_take {L : List Int} {k : Nat} {x : Int} (hk : 0 < k) (hx : L[k]? = some x) : mnL (L.take (k + 1)) = min (mnL (L.take k)) x := by
  cases L with
  | nil => simp at hx
  | cons a r =>
    obtain ⟨j, rfl⟩ : ∃ j, k = j + 1 := ⟨k - 1, by omega⟩
    simp only [List.getElem?_cons_succ] at hx
    simp only [List.take_succ_cons, mnL]
    have hj : j < r.length := (List.getElem?_eq_some_iff.1 hx).1
    rw [List.take_succ_eq_append_getElem hj, List.foldl_append]
    simp only [List.foldl_cons, List.foldl_nil]
    have : r[j] = x := by rw [List.getElem?_eq_getElem hj] at hx; exact Option.some.inj hx
    rw [this]
set_option maxRecDepth 100000 in
theorem Min_any (A : Option Addr) (m cap : Nat) (L : List Int) (w : World) (hr : Rd w (.slice A m cap) m (ic L)) (hL : L.length = m) (hm : 0 < m) :
    Calls Try.prog 35 #[.slice A m cap] w fun e w' => e = .returned (.int .i64 (mnL L)) ∧ w = w' := by
  obtain ⟨_, _, hv, hc1, hc2, hx⟩ := hr
  cases hv
  obtain ⟨q, off, rfl, hq, hx⟩ := hx hm
  unfold maxLen at hc2
  have cell : ∀ k, k < m → ∃ x, L[k]? = some x ∧ w.cell? ⟨q, off + k, none⟩ = some (.int .i64 x) := fun k hk => by
    have hl : L[k]? = some L[k] := List.getElem?_eq_getElem (by omega)
    exact ⟨_, hl, hx k _ (ic_at hl)⟩
  have HC := Lib.hid cell
  have HL := Lib.hid hL
  obtain ⟨x0, hx0, z0⟩ := cell 0 hm
  have d1 : decide (m < 1) = false := by simp; omega
  have d2 : decide ((m : Int) < 1) = false := by simp; omega
  have H1 : Hid (mnL (L.take 1) = x0) := by
    show _ = _
    cases L with
    | nil => simp at hx0
    | cons a r => simp at hx0; simp [mnL, hx0]
  rw [Nat.add_zero] at z0
  clear hx cell hL hx0
  go_enter Try.func35, Try.ntmps35
  go_wp2
  go_loop [3, 4] (fun mv iv => ∃ k : Nat, 0 < k ∧ k ≤ m ∧ iv = .int .i64 k ∧ mv = .int .i64 (mnL (L.take k))) (fun _ iv => m - (intOf iv).toNat)
  case atStart => exact ⟨1, by decide, hm, rfl, by rw [H1.out]⟩
  case round =>
    obtain ⟨k, hk0, hk, rfl, rfl⟩ := hrel
    by_cases hkm : k < m
    · obtain ⟨x, hlx, zk⟩ := HC.out k hkm
      have HS := Lib.hid (mnL_take hk0 hlx)
      clear hlx z0
      generalize mnL (L.take k) = M at *
      go_wp2
      go_round
      case rel => exact ⟨k + 1, by omega, by omega, by go_num, by rw [HS.out]⟩
      case measure => simp [intOf]; omega
    · obtain rfl : k = m := by omega
      go_wp2
      go_ret
      exact ⟨ret_int (by rw [List.take_of_length_le (by rw [HL.out]; exact Nat.le_refl _)]), rfl⟩

/-- Is it a time? -/
def isTime (t : Int) : Bool := decide (-4611686018427387904 ≤ t) && decide (t ≤ 4611686018427387904)
/-- Its parts. -/
structure CkS (w : World) (X XH : Nat → Prop) (c : Nat) (L : List Int) (n : Nat) (T : ByteArray → Option Int) (mv v : Value) (nb : Nat) (f : Nat → Nat) (nm : Nat → ByteArray) (tm : Nat → Int) (N : ByteArray → Option Nat) : Prop where
  hs : Hs w XH c mv (.map (some nb)) v n f nm tm
  sub : ∀ k, XH k → X k
  mh : ∀ r, mv.ownBlock = some r → ¬ XH r
  ph : ¬ XH nb
  hp : Hp.Heap (hlt nm tm) n f
  mks : w.ownsRow 0 2 1 mv L.length (ic L)
  mx : ∀ r, mv.ownBlock = some r → X r
  mp : Nm w nb n N
  px : X nb
  nam : ∀ s b, N s = some b ↔ ∃ k, k < n ∧ f k = b ∧ nm b = s
  tms : ∀ s t, T s = some t ↔ ∃ k, k < n ∧ nm (f k) = s ∧ tm (f k) = t
  ln : 0 < L.length
  lm : L.length ≤ 64
  xl : ∀ k, X k → k < w.heap.size
/-- A clock of these marks and holds (n of them), on blocks of X. -/
def Ck (w : World) (X : Nat → Prop) (c : Nat) (L : List Int) (n : Nat) (T : ByteArray → Option Int) : Prop := ∃ XH mv v nb f nm tm N, CkS w X XH c L n T mv v nb f nm tm N
section
variable {w w' : World} {X XH Y : Nat → Prop} {c : Nat} {L : List Int} {n : Nat} {T : ByteArray → Option Int} {mv v : Value} {nb : Nat} {f : Nat → Nat} {nm : Nat → ByteArray} {tm : Nat → Int} {N : ByteArray → Option Nat}
theorem CkS.keep (h : CkS w X XH c L n T mv v nb f nm tm N) (ho : Only Y w w') (hd : ∀ k, X k → ¬ Y k) : CkS w' X XH c L n T mv v nb f nm tm N :=
  ⟨⟨h.hs.blk.only ho (hd _ (h.sub _ h.hs.xc)), own_only h.hs.own ho (fun r e => hd _ (h.sub _ (h.hs.xv r e))), fun k hk => (h.hs.ent k hk).only ho (hd _ (h.sub _ (h.hs.xf k hk))), h.hs.inj, h.hs.xc, h.hs.xv, h.hs.xf⟩, h.sub, h.mh, h.ph, h.hp, own_only h.mks ho (fun r e => hd _ (h.mx r e)), h.mx, h.mp.only ho (hd _ h.px), h.px, h.nam, h.tms, h.ln, h.lm, fun k hk => Nat.lt_of_lt_of_le (h.xl k hk) ho.size⟩
theorem Ck.keep (h : Ck w X c L n T) (ho : Only Y w w') (hd : ∀ k, X k → ¬ Y k) : Ck w' X c L n T := by
  obtain ⟨XH, mv, v, nb, f, nm, tm, N, h⟩ := h
  exact ⟨XH, mv, v, nb, f, nm, tm, N, h.keep ho hd⟩
theorem Ck.below (h : Ck w X c L n T) (hb : Below w.heap.size w w') : Ck w' X c L n T := h.keep (Y := fun _ => False) (Only.of_below hb) (fun _ _ h => h)
theorem Ck.xl (h : Ck w X c L n T) : ∀ k, X k → k < w.heap.size := by obtain ⟨XH, mv, v, nb, f, nm, tm, N, h⟩ := h; exact h.xl
theorem Ck.ln (h : Ck w X c L n T) : 0 < L.length := by obtain ⟨XH, mv, v, nb, f, nm, tm, N, h⟩ := h; exact h.ln
theorem Ck.lm (h : Ck w X c L n T) : L.length ≤ 64 := by obtain ⟨XH, mv, v, nb, f, nm, tm, N, h⟩ := h; exact h.lm
/-- The clock's own cells. -/
theorem Ck.cells (h : Ck w X c L n T) : ∃ mv v nb, w.cell? ⟨c, 0, none⟩ = some mv ∧ w.cell? ⟨c, 1, none⟩ = some v ∧ w.cell? ⟨c, 2, none⟩ = some (.map (some nb)) ∧ w.ownsRow 0 2 1 mv L.length (ic L) := by
  obtain ⟨XH, mv, v, nb, f, nm, tm, N, h⟩ := h
  exact ⟨mv, v, nb, h.hs.blk.cell 0, h.hs.blk.cell 1, h.hs.blk.cell 2, h.mks⟩
set_option maxRecDepth 100000 in
theorem there_any (h : Ck w X c L n T) : Calls Try.prog 34 #[.pointer (some ⟨c, 0, none⟩)] w fun e w' => e = .returned (.bool true) ∧ w = w' := by
  obtain ⟨mv, v, nb, h0, h1, h2, -⟩ := h.cells
  have q : ∀ (w : World) (r : Option Nat), (binOp .neq 68 (.map r) (.map none)).run Try.prog w = .ok (.bool (!r.isNone)) w := fun w r => run_neq_map_nil w _ _ _ r Try.underlying68
  clear h
  go_enter Try.func34, Try.ntmps34
  go_wp2
  go_ret
  exact ⟨rfl, rfl⟩
set_option maxRecDepth 100000 in
theorem Mark_any (h : Ck w X c L n T) : Calls Try.prog 10 #[.pointer (some ⟨c, 0, none⟩)] w fun e w' => e = .returned (.int .i64 (mnL L)) ∧ w = w' := by
  have HT := Lib.hid (there_any h)
  obtain ⟨mv, v, nb, h0, -, -, ho⟩ := h.cells
  have HLN := Lib.hid h.ln
  obtain ⟨A, cap, rfl, _, _⟩ := ownsRow_shape ho
  have HM := Lib.hid (Min_any A _ cap L w (Rd.of_owns ho) rfl h.ln)
  clear h ho
  generalize mnL L = M at *
  go_enter Try.func10, Try.ntmps10
  go_wp2_with (first
    | (go_at_call 34; (with_reducible refine HT.out.mono ?_); rintro e wn ⟨rfl, rfl⟩)
    | (go_at_call 35; (with_reducible refine HM.out.mono ?_); rintro e wn ⟨rfl, rfl⟩))
  go_ret
  exact ⟨rfl, rfl⟩
set_option maxRecDepth 100000 in
theorem time_any (t : Int) (w : World) : Calls Try.prog 37 #[.int .i64 t] w fun e w' => e = .returned (.bool (isTime t)) ∧ w = w' := by
  by_cases h1 : -4611686018427387904 ≤ t
  · obtain ⟨d2, hd2⟩ : ∃ d2, decide (t ≤ 4611686018427387904) = d2 := ⟨_, rfl⟩
    have HR : Hid (d2 = isTime t) := by show _ = _; unfold isTime; rw [hd2]; simp [h1]
    have d1 : decide (-4611686018427387904 ≤ t) = true := by simpa using h1
    generalize isTime t = R at *
    go_enter Try.func37, Try.ntmps37
    go_wp2
    go_ret
    exact ⟨ret_bool HR.out, rfl⟩
  · have HR : Hid (false = isTime t) := by show _ = _; unfold isTime; simp; omega
    have d1 : decide (-4611686018427387904 ≤ t) = false := by simpa using h1
    generalize isTime t = R at *
    go_enter Try.func37, Try.ntmps37
    go_wp2
    go_ret
    exact ⟨ret_bool HR.out, rfl⟩
end
end Go.Proofs.Ytdndljbagjfkkaa
