/- Three clocks side by side, as ClockTells has them. -/
import Derived.Test.YtdndljbagjfkkaaCk9
namespace Go.Proofs.Ytdndljbagjfkkaa
open Go.RowKit Go.Lib

/-- A step of a script, as it came in. -/
structure Sp where
  kind : Int
  who : Int
  to_ : Int
  src : Int
  leave : Int
  name : ByteArray
  tm : Int
def Sp.cells (s : Sp) : List Value := [.int .i64 s.kind, .int .i64 s.who, .int .i64 s.to_, .int .i64 s.src, .int .i64 s.leave, .string s.name, .int .i64 s.tm]
def spc (l : List Sp) : List Value := l.flatMap Sp.cells
theorem spc_length (l : List Sp) : (spc l).length = l.length * 7 := flat_length _ 7 (fun _ => rfl) l
theorem spc_at {l : List Sp} {k : Nat} {s : Sp} (h : l[k]? = some s) (j : Nat) (u : Value) (hj : s.cells[j]? = some u) : (spc l)[k * 7 + j]? = some u := flat_at Sp.cells 7 (fun _ => rfl) l k s h j u hj
/-- What a step makes of the marks. -/
def stM (L : List Int) (s : Sp) : List Int := if s.kind = 1 then setL L s.src s.tm else L
theorem stM_comm (L : List Int) (a b : Sp) : stM (stM L a) b = stM (stM L b) a := by
  unfold stM
  split <;> split <;> first | rfl | exact setL_comm _ _ _ _ _
theorem foldl_stM (a : Sp) : ∀ (l : List Sp) (L : List Int), l.foldl stM (stM L a) = stM (l.foldl stM L) a
  | [], _ => rfl
  | b :: l, L => by rw [List.foldl_cons, List.foldl_cons, stM_comm, foldl_stM a l]
theorem foldlr (L : List Int) : ∀ (l : List Sp), l.foldl stM L = l.foldr (fun s L => stM L s) L
  | [] => rfl
  | a :: l => by rw [List.foldl_cons, foldl_stM, List.foldr_cons, foldlr L l]
theorem stM_length (L : List Int) (s : Sp) : (stM L s).length = L.length := by unfold stM; split; exact setL_length _ _ _; rfl

/-- Three clocks: c and hi, whatever they hold, and d, that holds nothing; all on blocks of M. -/
structure Ks (W w : World) (M : Nat → Prop) (c d hi : Nat) (Lc Ld Lh : List Int) (Tc Th : ByteArray → Option Int) (B : Nat) : Prop where
  ex : ∃ (X Y Z : Nat → Prop) (nc nh : Nat), Ck w X c Lc nc Tc ∧ Ck w Y d Ld 0 (fun _ => none) ∧ Ck w Z hi Lh nh Th ∧ nc ≤ B ∧ nh ≤ B ∧ (∀ k, X k → ¬ Y k) ∧ (∀ k, X k → ¬ Z k) ∧ (∀ k, Y k → ¬ Z k) ∧ (∀ k, X k → M k) ∧ (∀ k, Y k → M k) ∧ (∀ k, Z k → M k)
  inM : ∀ k, M k → W.heap.size ≤ k ∧ k < w.heap.size
  bl : Below W.heap.size W w
  hB : B ≤ 1000
section
variable {W w w' : World} {M : Nat → Prop} {c d hi : Nat} {Lc Ld Lh : List Int} {Tc Th : ByteArray → Option Int} {B : Nat}
theorem Ks.next (h : Ks W w M c d hi Lc Ld Lh Tc Th B) (hb : Below w.heap.size w w') : Ks W w' M c d hi Lc Ld Lh Tc Th B := by
  obtain ⟨X, Y, Z, nc, nh, h1, h2, h3, r⟩ := h.ex
  exact ⟨⟨X, Y, Z, nc, nh, h1.below hb, h2.below hb, h3.below hb, r⟩, fun k hk => ⟨(h.inM k hk).1, Nat.lt_of_lt_of_le (h.inM k hk).2 hb.size⟩, h.bl.trans (hb.mono h.bl.size), h.hB⟩
theorem Ks.wide {M' : Nat → Prop} (h : Ks W w M c d hi Lc Ld Lh Tc Th B) (hm : ∀ k, M k → M' k) (hi' : ∀ k, M' k → W.heap.size ≤ k ∧ k < w.heap.size) : Ks W w M' c d hi Lc Ld Lh Tc Th B := by
  obtain ⟨X, Y, Z, nc, nh, h1, h2, h3, b1, b2, d1, d2, d3, m1, m2, m3⟩ := h.ex
  exact ⟨⟨X, Y, Z, nc, nh, h1, h2, h3, b1, b2, d1, d2, d3, fun k x => hm k (m1 k x), fun k x => hm k (m2 k x), fun k x => hm k (m3 k x)⟩, hi', h.bl, h.hB⟩
theorem Ks.more {B' : Nat} (h : Ks W w M c d hi Lc Ld Lh Tc Th B) (hb : B ≤ B') (hB : B' ≤ 1000) : Ks W w M c d hi Lc Ld Lh Tc Th B' := by
  obtain ⟨X, Y, Z, nc, nh, h1, h2, h3, b1, b2, r⟩ := h.ex
  exact ⟨⟨X, Y, Z, nc, nh, h1, h2, h3, Nat.le_trans b1 hb, Nat.le_trans b2 hb, r⟩, h.inM, h.bl, hB⟩
theorem Ks.len (h : Ks W w M c d hi Lc Ld Lh Tc Th B) : (0 < Lc.length ∧ Lc.length ≤ 64) ∧ (0 < Ld.length ∧ Ld.length ≤ 64) ∧ 0 < Lh.length ∧ Lh.length ≤ 64 := by
  obtain ⟨X, Y, Z, nc, nh, h1, h2, h3, r⟩ := h.ex
  exact ⟨⟨h1.ln, h1.lm⟩, ⟨h2.ln, h2.lm⟩, h3.ln, h3.lm⟩
theorem Ks.markc (h : Ks W w M c d hi Lc Ld Lh Tc Th B) : Calls Try.prog 10 #[.pointer (some ⟨c, 0, none⟩)] w fun e w' => e = .returned (.int .i64 (mnL Lc)) ∧ w = w' := by
  obtain ⟨X, Y, Z, nc, nh, h1, h2, h3, r⟩ := h.ex
  exact Mark_any h1
theorem Ks.markd (h : Ks W w M c d hi Lc Ld Lh Tc Th B) : Calls Try.prog 10 #[.pointer (some ⟨d, 0, none⟩)] w fun e w' => e = .returned (.int .i64 (mnL Ld)) ∧ w = w' := by
  obtain ⟨X, Y, Z, nc, nh, h1, h2, h3, r⟩ := h.ex
  exact Mark_any h2
theorem Ks.markh (h : Ks W w M c d hi Lc Ld Lh Tc Th B) : Calls Try.prog 10 #[.pointer (some ⟨hi, 0, none⟩)] w fun e w' => e = .returned (.int .i64 (mnL Lh)) ∧ w = w' := by
  obtain ⟨X, Y, Z, nc, nh, h1, h2, h3, r⟩ := h.ex
  exact Mark_any h3
theorem Ks.outc (h : Ks W w M c d hi Lc Ld Lh Tc Th B) : Calls Try.prog 11 #[.pointer (some ⟨c, 0, none⟩)] w fun e w' => (∃ o, e = .returned (.int .i64 o) ∧ IsOut Lc Tc o) ∧ Below w.heap.size w w' := by
  obtain ⟨X, Y, Z, nc, nh, h1, h2, h3, r⟩ := h.ex
  exact Outward_any h1
theorem Ks.outh (h : Ks W w M c d hi Lc Ld Lh Tc Th B) : Calls Try.prog 11 #[.pointer (some ⟨hi, 0, none⟩)] w fun e w' => (∃ o, e = .returned (.int .i64 o) ∧ IsOut Lh Th o) ∧ Below w.heap.size w w' := by
  obtain ⟨X, Y, Z, nc, nh, h1, h2, h3, r⟩ := h.ex
  exact Outward_any h3
theorem Ks.marksc (h : Ks W w M c d hi Lc Ld Lh Tc Th B) : Calls Try.prog 12 #[.pointer (some ⟨c, 0, none⟩)] w fun e w' => ∃ v', e = .returned v' ∧ Below w.heap.size w w' ∧ w'.ownsRow w.heap.size 2 1 v' Lc.length (ic Lc) := by
  obtain ⟨X, Y, Z, nc, nh, h1, h2, h3, r⟩ := h.ex
  exact Marks_any h1
theorem Ks.marksd (h : Ks W w M c d hi Lc Ld Lh Tc Th B) : Calls Try.prog 12 #[.pointer (some ⟨d, 0, none⟩)] w fun e w' => ∃ v', e = .returned v' ∧ Below w.heap.size w w' ∧ w'.ownsRow w.heap.size 2 1 v' Ld.length (ic Ld) := by
  obtain ⟨X, Y, Z, nc, nh, h1, h2, h3, r⟩ := h.ex
  exact Marks_any h2
/-- What stays of M behind a call that turns one clock. -/
theorem inM_only (hM : ∀ k, M k → W.heap.size ≤ k ∧ k < w.heap.size) {X : Nat → Prop} (ho : Only X w w') : ∀ k, M k → W.heap.size ≤ k ∧ k < w'.heap.size := fun k hk => ⟨(hM k hk).1, Nat.lt_of_lt_of_le (hM k hk).2 ho.size⟩
theorem Ks.setc (h : Ks W w M c d hi Lc Ld Lh Tc Th B) (s t : Int) : Calls Try.prog 13 #[.pointer (some ⟨c, 0, none⟩), .int .i64 s, .int .i64 t] w fun e w' => (∃ v, e = .returned v) ∧ Ks W w' M c d hi (setL Lc s t) Ld Lh Tc Th B ∧ Only M w w' := by
  obtain ⟨X, Y, Z, nc, nh, h1, h2, h3, b1, b2, d1, d2, d3, m1, m2, m3⟩ := h.ex
  refine (Set_c h1 s t).mono ?_
  rintro e w' ⟨rfl, hc, ho⟩
  have hoM : Only M w w' := ho.wide (fun k hk => .inl (m1 k hk))
  exact ⟨⟨_, rfl⟩, ⟨⟨X, Y, Z, nc, nh, hc, h2.keep ho (fun k hk x => d1 k x hk), h3.keep ho (fun k hk x => d2 k x hk), b1, b2, d1, d2, d3, m1, m2, m3⟩, inM_only h.inM ho, h.bl.trans (hoM.below (fun k hk => (h.inM k hk).1) h.bl.size), h.hB⟩, hoM⟩
theorem Ks.setd (h : Ks W w M c d hi Lc Ld Lh Tc Th B) (s t : Int) : Calls Try.prog 13 #[.pointer (some ⟨d, 0, none⟩), .int .i64 s, .int .i64 t] w fun e w' => (∃ v, e = .returned v) ∧ Ks W w' M c d hi Lc (setL Ld s t) Lh Tc Th B ∧ Only M w w' := by
  obtain ⟨X, Y, Z, nc, nh, h1, h2, h3, b1, b2, d1, d2, d3, m1, m2, m3⟩ := h.ex
  refine (Set_c h2 s t).mono ?_
  rintro e w' ⟨rfl, hc, ho⟩
  have hoM : Only M w w' := ho.wide (fun k hk => .inl (m2 k hk))
  exact ⟨⟨_, rfl⟩, ⟨⟨X, Y, Z, nc, nh, h1.keep ho (fun k hk x => d1 k hk x), hc, h3.keep ho (fun k hk x => d3 k x hk), b1, b2, d1, d2, d3, m1, m2, m3⟩, inM_only h.inM ho, h.bl.trans (hoM.below (fun k hk => (h.inM k hk).1) h.bl.size), h.hB⟩, hoM⟩
theorem Ks.seth (h : Ks W w M c d hi Lc Ld Lh Tc Th B) (s t : Int) : Calls Try.prog 13 #[.pointer (some ⟨hi, 0, none⟩), .int .i64 s, .int .i64 t] w fun e w' => (∃ v, e = .returned v) ∧ Ks W w' M c d hi Lc Ld (setL Lh s t) Tc Th B ∧ Only M w w' := by
  obtain ⟨X, Y, Z, nc, nh, h1, h2, h3, b1, b2, d1, d2, d3, m1, m2, m3⟩ := h.ex
  refine (Set_c h3 s t).mono ?_
  rintro e w' ⟨rfl, hc, ho⟩
  have hoM : Only M w w' := ho.wide (fun k hk => .inl (m3 k hk))
  exact ⟨⟨_, rfl⟩, ⟨⟨X, Y, Z, nc, nh, h1.keep ho (fun k hk x => d2 k hk x), h2.keep ho (fun k hk x => d3 k hk x), hc, b1, b2, d1, d2, d3, m1, m2, m3⟩, inM_only h.inM ho, h.bl.trans (hoM.below (fun k hk => (h.inM k hk).1) h.bl.size), h.hB⟩, hoM⟩
theorem Ks.freec (h : Ks W w M c d hi Lc Ld Lh Tc Th B) (s : ByteArray) (hs : s.size ≤ maxLen) : Calls Try.prog 14 #[.pointer (some ⟨c, 0, none⟩), .string s] w fun e w' => e = .returned (.bool (Tc s).isSome) ∧ Ks W w' M c d hi Lc Ld Lh (updT Tc s none) Th B ∧ Only M w w' := by
  obtain ⟨X, Y, Z, nc, nh, h1, h2, h3, b1, b2, d1, d2, d3, m1, m2, m3⟩ := h.ex
  have hB := h.hB
  refine (Free_c h1 s hs (by omega)).mono ?_
  rintro e w' ⟨rfl, ⟨n', hc, hn⟩, ho⟩
  have hoM : Only M w w' := ho.wide (fun k hk => .inl (m1 k hk))
  exact ⟨rfl, ⟨⟨X, Y, Z, n', nh, hc, h2.keep ho (fun k hk x => d1 k x hk), h3.keep ho (fun k hk x => d2 k x hk), Nat.le_trans hn b1, b2, d1, d2, d3, m1, m2, m3⟩, inM_only h.inM ho, h.bl.trans (hoM.below (fun k hk => (h.inM k hk).1) h.bl.size), h.hB⟩, hoM⟩
theorem Ks.freeh (h : Ks W w M c d hi Lc Ld Lh Tc Th B) (s : ByteArray) (hs : s.size ≤ maxLen) : Calls Try.prog 14 #[.pointer (some ⟨hi, 0, none⟩), .string s] w fun e w' => e = .returned (.bool (Th s).isSome) ∧ Ks W w' M c d hi Lc Ld Lh Tc (updT Th s none) B ∧ Only M w w' := by
  obtain ⟨X, Y, Z, nc, nh, h1, h2, h3, b1, b2, d1, d2, d3, m1, m2, m3⟩ := h.ex
  have hB := h.hB
  refine (Free_c h3 s hs (by omega)).mono ?_
  rintro e w' ⟨rfl, ⟨n', hc, hn⟩, ho⟩
  have hoM : Only M w w' := ho.wide (fun k hk => .inl (m3 k hk))
  exact ⟨rfl, ⟨⟨X, Y, Z, nc, n', h1.keep ho (fun k hk x => d2 k hk x), h2.keep ho (fun k hk x => d3 k hk x), hc, b1, Nat.le_trans hn b2, d1, d2, d3, m1, m2, m3⟩, inM_only h.inM ho, h.bl.trans (hoM.below (fun k hk => (h.inM k hk).1) h.bl.size), h.hB⟩, hoM⟩
theorem xt_not {X Y : Nat → Prop} (hd : ∀ k, X k → ¬ Y k) (hY : ∀ k, Y k → k < w.heap.size) : ∀ k, Xt X w w' k → ¬ Y k := fun k hk hy => by
  rcases hk with h1 | h1
  · exact hd k h1 hy
  · have := hY k hy; omega
theorem Ks.holdc (h : Ks W w M c d hi Lc Ld Lh Tc Th B) (s : ByteArray) (t : Int) (hs : s.size ≤ maxLen) (hB : B + 1 ≤ 1000) : Calls Try.prog 15 #[.pointer (some ⟨c, 0, none⟩), .string s, .int .i64 t] w fun e w' => (∃ v, e = .returned v) ∧ Ks W w' (Xt M w w') c d hi Lc Ld Lh (holdT Tc s t) Th (B + 1) ∧ Only M w w' := by
  obtain ⟨X, Y, Z, nc, nh, h1, h2, h3, b1, b2, d1, d2, d3, m1, m2, m3⟩ := h.ex
  refine (Hold_c h1 s t hs (by omega)).mono ?_
  rintro e w' ⟨rfl, ⟨n', hc, hn, -⟩, ho⟩
  have hoM : Only M w w' := ho.wide (fun k hk => .inl (m1 k hk))
  refine ⟨⟨_, rfl⟩, ⟨⟨Xt X w w', Y, Z, n', nh, hc, h2.keep ho (fun k hk x => d1 k x hk), h3.keep ho (fun k hk x => d2 k x hk), by omega, by omega, xt_not d1 h2.xl, xt_not d2 h3.xl, d3, fun k hk => ?_, fun k hk => .inl (m2 k hk), fun k hk => .inl (m3 k hk)⟩, fun k hk => ?_, h.bl.trans (hoM.below (fun k hk => (h.inM k hk).1) h.bl.size), hB⟩, hoM⟩
  · rcases hk with x | x
    · exact .inl (m1 k x)
    · exact .inr x
  · rcases hk with x | x
    · exact inM_only h.inM ho k x
    · exact ⟨by have := h.bl.size; omega, x.2⟩
theorem Ks.holdh (h : Ks W w M c d hi Lc Ld Lh Tc Th B) (s : ByteArray) (t : Int) (hs : s.size ≤ maxLen) (hB : B + 1 ≤ 1000) : Calls Try.prog 15 #[.pointer (some ⟨hi, 0, none⟩), .string s, .int .i64 t] w fun e w' => (∃ v, e = .returned v) ∧ Ks W w' (Xt M w w') c d hi Lc Ld Lh Tc (holdT Th s t) (B + 1) ∧ Only M w w' := by
  obtain ⟨X, Y, Z, nc, nh, h1, h2, h3, b1, b2, d1, d2, d3, m1, m2, m3⟩ := h.ex
  refine (Hold_c h3 s t hs (by omega)).mono ?_
  rintro e w' ⟨rfl, ⟨n', hc, hn, -⟩, ho⟩
  have hoM : Only M w w' := ho.wide (fun k hk => .inl (m3 k hk))
  refine ⟨⟨_, rfl⟩, ⟨⟨X, Y, Xt Z w w', nc, n', h1.keep ho (fun k hk x => d2 k hk x), h2.keep ho (fun k hk x => d3 k hk x), hc, by omega, by omega, d1, fun k hk x => xt_not (fun k a b => d2 k b a) h1.xl k x hk, fun k hk x => xt_not (fun k a b => d3 k b a) h2.xl k x hk, fun k hk => .inl (m1 k hk), fun k hk => .inl (m2 k hk), fun k hk => ?_⟩, fun k hk => ?_, h.bl.trans (hoM.below (fun k hk => (h.inM k hk).1) h.bl.size), hB⟩, hoM⟩
  · rcases hk with x | x
    · exact .inl (m3 k x)
    · exact .inr x
  · rcases hk with x | x
    · exact inM_only h.inM ho k x
    · exact ⟨by have := h.bl.size; omega, x.2⟩
end
/-- The three clocks, and a step of the script in a block of its own. -/
structure Rs (W w : World) (M : Nat → Prop) (sb : Nat) (s : Sp) (c d hi : Nat) (Lc Ld Lh : List Int) (Tc Th : ByteArray → Option Int) (B : Nat) : Prop where
  ks : Ks W w M c d hi Lc Ld Lh Tc Th B
  sk : Bk w sb 30 s.cells.toArray
  sn : ¬ M sb
section
variable {W w w' : World} {M : Nat → Prop} {sb : Nat} {s : Sp} {c d hi : Nat} {Lc Ld Lh : List Int} {Tc Th : ByteArray → Option Int} {B : Nat}
theorem Rs.next (h : Rs W w M sb s c d hi Lc Ld Lh Tc Th B) (hb : Below w.heap.size w w') : Rs W w' M sb s c d hi Lc Ld Lh Tc Th B := ⟨h.ks.next hb, h.sk.below hb, h.sn⟩
theorem Rs.on (h : Rs W w M sb s c d hi Lc Ld Lh Tc Th B) (ho : Only M w w') {Lc' Lh' : List Int} {Tc' Th' : ByteArray → Option Int} {B' : Nat} (hk : Ks W w' M c d hi Lc' Ld Lh' Tc' Th' B') : Rs W w' M sb s c d hi Lc' Ld Lh' Tc' Th' B' := ⟨hk, h.sk.only ho h.sn, h.sn⟩
theorem Rs.onX (h : Rs W w M sb s c d hi Lc Ld Lh Tc Th B) (ho : Only M w w') {Lc' Lh' : List Int} {Tc' Th' : ByteArray → Option Int} {B' : Nat} (hk : Ks W w' (Xt M w w') c d hi Lc' Ld Lh' Tc' Th' B') : Rs W w' (Xt M w w') sb s c d hi Lc' Ld Lh' Tc' Th' B' :=
  ⟨hk, h.sk.only ho h.sn, fun x => by
    rcases x with x | x
    · exact h.sn x
    · have := h.sk.lt; omega⟩
theorem Rs.c0 (h : Rs W w M sb s c d hi Lc Ld Lh Tc Th B) : w.cell? ⟨sb, 0, none⟩ = some (.int .i64 s.kind) := h.sk.cell 0
theorem Rs.c3 (h : Rs W w M sb s c d hi Lc Ld Lh Tc Th B) : w.cell? ⟨sb, 3, none⟩ = some (.int .i64 s.src) := h.sk.cell 3
theorem Rs.c5 (h : Rs W w M sb s c d hi Lc Ld Lh Tc Th B) : w.cell? ⟨sb, 5, none⟩ = some (.string s.name) := h.sk.cell 5
theorem Rs.c6 (h : Rs W w M sb s c d hi Lc Ld Lh Tc Th B) : w.cell? ⟨sb, 6, none⟩ = some (.int .i64 s.tm) := h.sk.cell 6
end
end Go.Proofs.Ytdndljbagjfkkaa
