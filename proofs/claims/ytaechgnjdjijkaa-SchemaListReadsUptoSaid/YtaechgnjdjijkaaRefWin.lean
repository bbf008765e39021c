/- The document's window. -/
import Derived.Test.YtaechgnjdjijkaaRefSkip
import Derived.Deep.RegionHeld3
import Derived.Deep.DeepCutAuto
namespace Go.Proofs.Ytaechgnjdjijkaa
open Go.RowKit Go.Lib

/-- A number that is to be a count. -/
def cnt (n : Nat) : Int := if 9007199254740992 < n then -1 else (n : Int)
set_option maxRecDepth 100000 in
theorem refCount_any (n : Nat) (w : World) (hn : n < 18446744073709551616) : Calls Try.prog 44 #[.int .u64 (n : Int)] w fun e w' => e = .returned (.int .i64 (cnt n)) ∧ w = w' := by
  unfold cnt
  by_cases h : 9007199254740992 < n
  · rw [if_pos h]
    have hd : decide ((n : Int) > 9007199254740992) = true := by rw [decide_eq_true_eq]; omega
    go_enter Try.func44, Try.ntmps44
    go_wp2
    go_ret
    exact ⟨rfl, rfl⟩
  · rw [if_neg h]
    have hd : (n : Int) ≤ 9007199254740992 := by omega
    have hnn : ¬ 9007199254740992 < n := h
    go_enter Try.func44, Try.ntmps44
    go_wp2
    go_ret
    exact ⟨rfl, rfl⟩
/-- So many numbers, read. -/
def nsAt (bs : List UInt8) (a0 : Nat) : Nat → Option (List Nat × Nat)
  | 0 => some ([], a0)
  | k + 1 => match nsAt bs a0 k with
    | none => none
    | some (l, a) => if (rdAt bs a).2.2 ≠ 0 then none else some (l ++ [(rdAt bs a).1], a + (rdAt bs a).2.1)
theorem nsAt_stop {bs : List UInt8} {a0 k : Nat} (h : nsAt bs a0 k = none) : ∀ d, nsAt bs a0 (k + d) = none
  | 0 => h
  | d + 1 => by rw [← Nat.add_assoc, nsAt, nsAt_stop h d]
theorem nsAt_facts {bs : List UInt8} {a0 : Nat} (h0 : a0 ≤ bs.length) : ∀ (k : Nat) (l : List Nat) (a : Nat), nsAt bs a0 k = some (l, a) → l.length = k ∧ a ≤ bs.length ∧ ∀ j, l.getD j 0 < 18446744073709551616
  | 0, l, a, h => by cases h; exact ⟨rfl, h0, fun j => by simp⟩
  | k + 1, l, a, h => by
    rw [nsAt] at h
    cases hk : nsAt bs a0 k with
    | none => rw [hk] at h; cases h
    | some q =>
      obtain ⟨l1, a1⟩ := q
      rw [hk] at h
      simp only at h
      split at h
      · cases h
      · cases h
        obtain ⟨i1, i2, i3⟩ := nsAt_facts h0 k l1 a1 hk
        obtain ⟨f1, f2, -, -⟩ := rdAt_facts bs a1 i2
        refine ⟨by simp [i1], f2, fun j => ?_⟩
        rcases Nat.lt_trichotomy j l1.length with h | h | h
        · rw [List.getD, List.getElem?_append_left h]; exact i3 j
        · subst h; simp; exact f1
        · simp [List.getD, List.getElem?_append_right (Nat.le_of_lt h), List.getElem?_eq_none (show ([(rdAt bs a1).1] : List Nat).length ≤ j - l1.length by simp; omega)]
/-- Nine numbers in an array. -/
def arr9 (l : List Nat) : Array Value := #[.int .u64 (l.getD 0 0 : Nat), .int .u64 (l.getD 1 0 : Nat), .int .u64 (l.getD 2 0 : Nat), .int .u64 (l.getD 3 0 : Nat), .int .u64 (l.getD 4 0 : Nat), .int .u64 (l.getD 5 0 : Nat), .int .u64 (l.getD 6 0 : Nat), .int .u64 (l.getD 7 0 : Nat), .int .u64 (l.getD 8 0 : Nat)]
theorem arr9_snoc (l : List Nat) (x : Nat) (h : l.length < 9) : (arr9 l).setIfInBounds l.length (.int .u64 (x : Int)) = arr9 (l ++ [x]) := by
  match l, h with
  | [], _ => rfl
  | [_], _ => rfl
  | [_, _], _ => rfl
  | [_, _, _], _ => rfl
  | [_, _, _, _], _ => rfl
  | [_, _, _, _, _], _ => rfl
  | [_, _, _, _, _, _], _ => rfl
  | [_, _, _, _, _, _, _], _ => rfl
  | [_, _, _, _, _, _, _, _], _ => rfl
/-- A window out of nine numbers, behind another one's Start (first: none). -/
def refW (last : Int) (first : Bool) (l : List Nat) : Option Wn :=
  if first = false ∧ 9223372036854775807 - last < (l.getD 0 0 : Int) then none
  else
    let s : Int := if first then unz (l.getD 0 0) else last + (l.getD 0 0 : Int)
    if 9223372036854775807 - s ≤ (l.getD 1 0 : Int) then none
    else some ⟨s, s + (l.getD 1 0 : Int) + 1, unz (l.getD 2 0), cnt (l.getD 3 0), unz (l.getD 4 0), unz (l.getD 5 0), unz (l.getD 6 0), cnt (l.getD 7 0), cnt (l.getD 8 0)⟩
/-- A window, read. -/
def refWin (bs : List UInt8) (last : Int) (first : Bool) (a : Nat) : Option (Wn × Nat) := match nsAt bs a 9 with
  | none => none
  | some (l, a') => match refW last first l with
    | none => none
    | some x => some (x, a')
/-- What it leaves. -/
def WinAns (W0 w : World) (d : Nat) (A : Option Addr) (m cap : Nat) (bs : List UInt8) (r : Option (Wn × Nat)) (e : Ending) (w' : World) : Prop :=
  w.grownBy w' (some d) ∧ match r with
    | none => e = .returned (.tuple #[.agg wn0.arr, .bool false])
    | some (x, a) => e = .returned (.tuple #[.agg x.arr, .bool true]) ∧ Df W0 w' d A m cap bs a
theorem results_cell_tmp {P : Program} {fn : Func} {p q : Tmp} {ty : TypeId} (h : fn.results = #[.cell p ty, .tmp q]) (tmps : Array Value) (w : World) (g : Nat) (t : TypeId) (cs : Array Value) (fr : Nat × Nat) (d : TypeDesc)
    (hp : tmps.getD p undef = .pointer (some ⟨g, 0, none⟩)) (hg : w.heap[g]? = some (.cells cs t fr))
    (hu : P.underlying ty = some d) (hd : (match d with | .struct _ | .array _ _ => true | _ => false) = true) (hi : (P.info? ty).map (·.size) = some cs.size) {v : Value} (hq : tmps.getD q undef = v) :
    (results fn tmps).run P w = .ok (.tuple #[.agg cs, v]) w := by
  have hp' : tmps[p]?.getD undef = .pointer (some ⟨g, 0, none⟩) := by simpa using hp
  have hq' : tmps[q]?.getD undef = v := by simpa using hq
  simp [results, h, hp', hq', asAddr, run_loadVar_row w g t ty cs fr d hg hu hd hi]
section
variable {W0 w w' : World} {d : Nat} {A : Option Addr} {m cap at_ : Nat} {bs : List UInt8}
theorem Df.set (h : Df W0 w d A m cap bs at_) {p : Addr} (hne : d ≠ p.block) (hp : W0.heap.size ≤ p.block) (u : Value) : Df W0 (w.setCell p u) d A m cap bs at_ := ⟨h.blk.far hne u, h.rd, h.len, h.le, h.bel.setCell hp u, h.hd⟩
theorem Df.drew (h : Df W0 w d A m cap bs at_) : Df W0 w.drew d A m cap bs at_ := h.below (below_drew w)
set_option maxRecDepth 100000 in
set_option maxHeartbeats 2000000 in
theorem refWin_any (last : Int) (hl : In64 last) (first : Bool) (h : Df W0 w d A m cap bs at_) :
    Calls Try.prog 45 #[.pointer (some ⟨d, 0, none⟩), .int .i64 last, .bool first] w (WinAns W0 w d A m cap bs (refWin bs last first at_)) := by
  obtain ⟨R, hR⟩ : ∃ R, refWin bs last first at_ = R := ⟨_, rfl⟩
  rw [hR]
  have HR := Lib.hid hR
  have HD := Lib.hid h
  have hdl := h.blk.lt
  have hle := h.le
  have hln := h.len
  have HU := Lib.hid refUnfold_any
  have HC := Lib.hid refCount_any
  clear hR h
  go_enter Try.func45, Try.ntmps45
  go_wp2
  have hw9 : wn0.arr = #[.int .i64 0, .int .i64 0, .int .i64 0, .int .i64 0, .int .i64 0, .int .i64 0, .int .i64 0, .int .i64 0, .int .i64 0] := rfl
  have HB6 : Hid (Bk ((w.alloc (.cells #[.int .i64 0, .int .i64 0, .int .i64 0, .int .i64 0, .int .i64 0, .int .i64 0, .int .i64 0, .int .i64 0, .int .i64 0] 93)).alloc (.cells (arr9 []) 125)) w.heap.size 93 #[.int .i64 0, .int .i64 0, .int .i64 0, .int .i64 0, .int .i64 0, .int .i64 0, .int .i64 0, .int .i64 0, .int .i64 0]) := Lib.hid ((Bk.new w _ _).alloc _)
  have HB8 : Hid (Bk ((w.alloc (.cells #[.int .i64 0, .int .i64 0, .int .i64 0, .int .i64 0, .int .i64 0, .int .i64 0, .int .i64 0, .int .i64 0, .int .i64 0] 93)).alloc (.cells (arr9 []) 125)) (w.heap.size + 1) 125 (arr9 [])) := Lib.hid (Bk.new' _ _ _ _ (by simp))
  have HDF : Hid (Df W0 ((w.alloc (.cells #[.int .i64 0, .int .i64 0, .int .i64 0, .int .i64 0, .int .i64 0, .int .i64 0, .int .i64 0, .int .i64 0, .int .i64 0] 93)).alloc (.cells (arr9 []) 125)) d A m cap bs at_) := Lib.hid ((HD.out.below (below_alloc w _)).below (below_alloc _ _))
  have HG0 : Hid (w.grownBy ((w.alloc (.cells #[.int .i64 0, .int .i64 0, .int .i64 0, .int .i64 0, .int .i64 0, .int .i64 0, .int .i64 0, .int .i64 0, .int .i64 0] 93)).alloc (.cells (arr9 []) 125)) (some d)) := Lib.hid (only_alloc (only_alloc (only_refl w _) _) _)
  go_loopw [9] (fun q wr => ∃ (l : List Nat) (a : Nat), q = .int .i64 (l.length : Int) ∧ l.length ≤ 9 ∧ nsAt bs at_ l.length = some (l, a) ∧ Df W0 wr d A m cap bs a ∧ Bk wr (w.heap.size + 1) 125 (arr9 l) ∧ Bk wr w.heap.size 93 #[.int .i64 0, .int .i64 0, .int .i64 0, .int .i64 0, .int .i64 0, .int .i64 0, .int .i64 0, .int .i64 0, .int .i64 0] ∧ w.grownBy wr (some d)) (fun q _ => 9 - (intOf q).toNat)
  case atStart => exact ⟨[], at_, rfl, by simp, rfl, HDF.out, HB8.out, HB6.out, HG0.out⟩
  case round =>
    obtain ⟨l, a, rfl, hl9, hns, hdf, h8, h6, hg⟩ := hrel
    have HNS := Lib.hid hns
    have HDR := Lib.hid hdf
    have H8 := Lib.hid h8
    have H6 := Lib.hid h6
    have HG := Lib.hid hg
    clear HB6 HB8 HDF HG0 hw9
    by_cases hlt : l.length < 9
    · obtain ⟨i, hi⟩ : ∃ i, l.length = i := ⟨_, rfl⟩
      have HI := Lib.hid hi
      rw [hi] at hlt hl9 ⊢
      have HN := Lib.hid (dNumber_g hdf)
      have hxe := (rdAt_facts bs a (by rw [hln]; exact hdf.le)).1
      have hdne : ∀ (b : Nat) (t : TypeId) (cs : Array Value), Bk wr b t cs → 82 ≠ t → b ≠ d := fun b t cs hb hne e => hdf.blk.ne hb hne e.symm
      have HDN := Lib.hid hdne
      obtain ⟨X, hX⟩ : ∃ X, (rdAt bs a).1 = X := ⟨_, rfl⟩
      obtain ⟨E, hE⟩ : ∃ E, (rdAt bs a).2.2 = E := ⟨_, rfl⟩
      obtain ⟨st, hst⟩ : ∃ st, (rdAt bs a).2.1 = st := ⟨_, rfl⟩
      have hstep : nsAt bs at_ (i + 1) = if E ≠ 0 then none else some (l ++ [X], a + st) := by
        rw [nsAt, ← hi, HNS.out, ← hX, ← hE, ← hst]
      have HSTEP := Lib.hid hstep
      rw [hX, hE, hst] at HN
      rw [hX] at hxe
      clear hi hns hdf h8 h6 hg hdne hX hE hst hstep
      go_wp2_with fail
      refine HN.out.mono ?_
      rintro e w2 ⟨rfl, hr2, hg2⟩
      have H82 := Lib.hid (H8.out.grown hg2 (fun e => HDN.out _ _ _ H8.out (by decide) (Option.some.inj e).symm))
      have H62 := Lib.hid (H6.out.grown hg2 (fun e => HDN.out _ _ _ H6.out (by decide) (Option.some.inj e).symm))
      have HG2 := Lib.hid (only_step HG.out hg2 (fun b e => .inl e))
      have HDR2 := Lib.hid hr2
      clear hr2 hg2 HN
      by_cases hE : E = 0
      · subst hE
        obtain ⟨u, hu⟩ : ∃ u, (arr9 l)[i]? = some u := ⟨_, Array.getElem?_eq_getElem (by show i < 9; exact hlt)⟩
        have z : w2.cell? ⟨w.heap.size + 1, i, none⟩ = some u := (H82.out.cell i).trans hu
        have f := H82.out.frozen i
        have hii : (i : Int) < 9 := by omega
        clear hu
        go_wp2_with fail
        go_roundw
        case rel => exact ⟨l ++ [X], a + st, by simp [HI.out], by simp [HI.out]; omega, by simp only [List.length_append, List.length_singleton, HI.out]; rw [HSTEP.out, if_neg (by simp)], ⟨HDR2.out.blk.far (p := ⟨w.heap.size + 1, i, none⟩) (by show d ≠ w.heap.size + 1; omega) _, HDR2.out.rd, HDR2.out.len, HDR2.out.le, HDR2.out.bel.setCell (p := ⟨w.heap.size + 1, i, none⟩) (by have := HDR2.out.hd; show W0.heap.size ≤ w.heap.size + 1; have := HD.out.bel.size; omega) _, HDR2.out.hd⟩, by have h := H82.out.set i (.int .u64 (X : Int)); have e := arr9_snoc l X (by rw [HI.out]; exact hlt); rw [HI.out] at e; rw [e] at h; exact h, H62.out.far (p := ⟨w.heap.size + 1, i, none⟩) (by show w.heap.size ≠ w.heap.size + 1; omega) _, only_set HG2.out _ _ (.inr (by show w.heap.size ≤ w.heap.size + 1; omega))⟩
        case measure => simp [intOf]; omega
      · have hno : Hid (R = none) := Lib.hid (by
          have h := HSTEP.out
          rw [if_pos hE] at h
          have h9 := nsAt_stop h (8 - i)
          rw [show i + 1 + (8 - i) = 9 by omega] at h9
          rw [← HR.out]; unfold refWin; rw [h9])
        have hnz : ((E : Int) != 0) = true := by simp; omega
        have hb6 := H62.out
        have q0 : w2.cell? ⟨w.heap.size, 0, none⟩ = some (.int .i64 0) := hb6.cell 0
        have r0 := hb6.frozen 0
        have q1 : w2.cell? ⟨w.heap.size, 1, none⟩ = some (.int .i64 0) := hb6.cell 1
        have r1 := hb6.frozen 1
        have q2 : w2.cell? ⟨w.heap.size, 2, none⟩ = some (.int .i64 0) := hb6.cell 2
        have r2 := hb6.frozen 2
        have q3 : w2.cell? ⟨w.heap.size, 3, none⟩ = some (.int .i64 0) := hb6.cell 3
        have r3 := hb6.frozen 3
        have q4 : w2.cell? ⟨w.heap.size, 4, none⟩ = some (.int .i64 0) := hb6.cell 4
        have r4 := hb6.frozen 4
        have q5 : w2.cell? ⟨w.heap.size, 5, none⟩ = some (.int .i64 0) := hb6.cell 5
        have r5 := hb6.frozen 5
        have q6 : w2.cell? ⟨w.heap.size, 6, none⟩ = some (.int .i64 0) := hb6.cell 6
        have r6 := hb6.frozen 6
        have q7 : w2.cell? ⟨w.heap.size, 7, none⟩ = some (.int .i64 0) := hb6.cell 7
        have r7 := hb6.frozen 7
        have q8 : w2.cell? ⟨w.heap.size, 8, none⟩ = some (.int .i64 0) := hb6.cell 8
        have r8 := hb6.frozen 8
        clear hb6 hE
        go_wp2
        have hq3 := (((((((((H62.out.set 0 (.int .i64 0)).set 1 (.int .i64 0)).set 2 (.int .i64 0)).set 3 (.int .i64 0)).set 4 (.int .i64 0)).set 5 (.int .i64 0)).set 6 (.int .i64 0)).set 7 (.int .i64 0)).set 8 (.int .i64 0))
        refine bodyPost_ret (results_cell_tmp Try.results45 _ _ w.heap.size 93 _ (0, 0) _ rfl hq3 Try.underlying93 rfl (by kernel_rfl) rfl) rfl ?_
        obtain rfl := hno.out
        refine ⟨?_, rfl⟩
        iterate 9 refine only_set ?_ _ _ (.inr (Nat.le_refl _))
        exact HG2.out
    · have hl0 : l.length = 9 := by omega
      have hbd := (nsAt_facts (by rw [hln]; exact hle) _ _ _ hns).2.2
      rw [hl0] at HNS hns
      clear hl9 hlt
      match l, hl0 with
      | [f0, f1, f2, f3, f4, f5, f6, f7, f8], _ =>
        have b0 : f0 < 18446744073709551616 := hbd 0
        have b1 : f1 < 18446744073709551616 := hbd 1
        have b2 : f2 < 18446744073709551616 := hbd 2
        have b3 : f3 < 18446744073709551616 := hbd 3
        have b4 : f4 < 18446744073709551616 := hbd 4
        have b5 : f5 < 18446744073709551616 := hbd 5
        have b6 : f6 < 18446744073709551616 := hbd 6
        have b7 : f7 < 18446744073709551616 := hbd 7
        have b8 : f8 < 18446744073709551616 := hbd 8
        have HA8 : Hid (Bk wr (w.heap.size + 1) 125 #[.int .u64 (f0 : Int), .int .u64 (f1 : Int), .int .u64 (f2 : Int), .int .u64 (f3 : Int), .int .u64 (f4 : Int), .int .u64 (f5 : Int), .int .u64 (f6 : Int), .int .u64 (f7 : Int), .int .u64 (f8 : Int)]) := h8
        have HRW : Hid (R = match refW last first [f0, f1, f2, f3, f4, f5, f6, f7, f8] with | none => none | some x => some (x, a)) := Lib.hid (by rw [← HR.out]; unfold refWin; rw [HNS.out])
        have hne8 : w.heap.size + 1 ≠ d := hdf.blk.ne h8 (by decide) |>.symm
        have HLI := Lib.hid hl
        unfold In64 at hl
        clear hns hbd hdf h8 hg H8 HNS
        have hd9 : ¬ ((9 : Int) < 9) := by omega
        have z0 : wr.cell? ⟨w.heap.size + 1, 0, none⟩ = some (.int .u64 (f0 : Int)) := HA8.out.cell 0
        have y0 := HA8.out.frozen 0
        have hD : IntKind.u64.wrap (9223372036854775807 - IntKind.u64.wrap last) = 9223372036854775807 - last := by
          rw [IntKind.wrap_u64, IntKind.wrap_u64]
          omega
        by_cases hrf : first = false ∧ 9223372036854775807 - last < (f0 : Int)
        · obtain ⟨rfl, hrf⟩ := hrf
          have hno : Hid (R = none) := Lib.hid (by rw [HRW.out]; unfold refW; rw [if_pos ⟨rfl, hrf⟩])
          have q0 : wr.cell? ⟨w.heap.size, 0, none⟩ = some (.int .i64 0) := h6.cell 0
          have r0 := h6.frozen 0
          have q1 : wr.cell? ⟨w.heap.size, 1, none⟩ = some (.int .i64 0) := h6.cell 1
          have r1 := h6.frozen 1
          have q2 : wr.cell? ⟨w.heap.size, 2, none⟩ = some (.int .i64 0) := h6.cell 2
          have r2 := h6.frozen 2
          have q3 : wr.cell? ⟨w.heap.size, 3, none⟩ = some (.int .i64 0) := h6.cell 3
          have r3 := h6.frozen 3
          have q4 : wr.cell? ⟨w.heap.size, 4, none⟩ = some (.int .i64 0) := h6.cell 4
          have r4 := h6.frozen 4
          have q5 : wr.cell? ⟨w.heap.size, 5, none⟩ = some (.int .i64 0) := h6.cell 5
          have r5 := h6.frozen 5
          have q6 : wr.cell? ⟨w.heap.size, 6, none⟩ = some (.int .i64 0) := h6.cell 6
          have r6 := h6.frozen 6
          have q7 : wr.cell? ⟨w.heap.size, 7, none⟩ = some (.int .i64 0) := h6.cell 7
          have r7 := h6.frozen 7
          have q8 : wr.cell? ⟨w.heap.size, 8, none⟩ = some (.int .i64 0) := h6.cell 8
          have r8 := h6.frozen 8
          clear h6
          go_wp2
          have hq3 := (((((((((H6.out.set 0 (.int .i64 0)).set 1 (.int .i64 0)).set 2 (.int .i64 0)).set 3 (.int .i64 0)).set 4 (.int .i64 0)).set 5 (.int .i64 0)).set 6 (.int .i64 0)).set 7 (.int .i64 0)).set 8 (.int .i64 0))
          refine bodyPost_ret (results_cell_tmp Try.results45 _ _ w.heap.size 93 _ (0, 0) _ rfl hq3 Try.underlying93 rfl (by kernel_rfl) rfl) rfl ?_
          obtain rfl := hno.out
          refine ⟨?_, rfl⟩
          iterate 9 refine only_set ?_ _ _ (.inr (Nat.le_refl _))
          exact HG.out
        · obtain ⟨s, hs⟩ : ∃ s : Int, (if first then unz f0 else last + (f0 : Int)) = s := ⟨_, rfl⟩
          have HS := Lib.hid hs
          have hsI : In64 s := by
            rw [← hs]
            unfold In64
            cases first with
            | true => simp only [if_true]; unfold unz; split <;> omega
            | false => simp only [Bool.false_eq_true, if_false]; have : ¬ (9223372036854775807 - last < (f0 : Int)) := fun h => hrf ⟨rfl, h⟩; omega
          have HRS : Hid (R = if 9223372036854775807 - s ≤ (f1 : Int) then none else some (⟨s, s + (f1 : Int) + 1, unz f2, cnt f3, unz f4, unz f5, unz f6, cnt f7, cnt f8⟩, a)) := Lib.hid (by
            rw [HRW.out]; unfold refW
            simp only [List.getD_cons_zero, List.getD_cons_succ]
            rw [if_neg hrf]
            simp only [HS.out]
            by_cases hb : 9223372036854775807 - s ≤ (f1 : Int)
            · rw [if_pos hb, if_pos hb]
            · rw [if_neg hb, if_neg hb])
          have HSI := Lib.hid hsI
          clear h6 hsI HRW
          go_upto_if 28 with (fail)
          go_cut [1] (fun s1 wx => ∃ (la g0 : Int), s1 = .int .i64 la ∧ 0 ≤ g0 ∧ g0 < 18446744073709551616 ∧ wrap64 (la + wrap64 g0) = s ∧ Bk wx (w.heap.size + 1) 125 #[.int .u64 g0, .int .u64 (f1 : Int), .int .u64 (f2 : Int), .int .u64 (f3 : Int), .int .u64 (f4 : Int), .int .u64 (f5 : Int), .int .u64 (f6 : Int), .int .u64 (f7 : Int), .int .u64 (f8 : Int)] ∧ Bk wx w.heap.size 93 #[.int .i64 0, .int .i64 0, .int .i64 0, .int .i64 0, .int .i64 0, .int .i64 0, .int .i64 0, .int .i64 0, .int .i64 0] ∧ Df W0 wx d A m cap bs a ∧ w.grownBy wx (some d))
          case first =>
            cases first with
            | true =>
              simp only [if_true] at hs
              have hu : In64 (unz f0) := by unfold In64 unz; split <;> omega
              have HUI := Lib.hid hu
              clear hu hrf
              go_wp2_with (first
                | (go_at_call 68; (with_reducible refine (HU.out _ _ b0).mono ?_); rintro e wq ⟨rfl, rfl⟩))
              go_meet
              have hsi := HSI.out
              unfold In64 at hsi
              exact ⟨0, IntKind.u64.wrap s, rfl, by rw [IntKind.wrap_u64]; omega, by rw [IntKind.wrap_u64]; omega, by rw [IntKind.wrap_u64]; unfold wrap64; omega, HA8.out.set 0 _, H6.out.far (p := ⟨w.heap.size + 1, 0, none⟩) (by show w.heap.size ≠ w.heap.size + 1; omega) _,
                ⟨HDR.out.blk.far (p := ⟨w.heap.size + 1, 0, none⟩) (by show d ≠ w.heap.size + 1; omega) _, HDR.out.rd, HDR.out.len, HDR.out.le, HDR.out.bel.setCell (p := ⟨w.heap.size + 1, 0, none⟩) (by show W0.heap.size ≤ w.heap.size + 1; have := HD.out.bel.size; omega) _, HDR.out.hd⟩, only_set HG.out _ _ (.inr (by show w.heap.size ≤ w.heap.size + 1; omega))⟩
            | false =>
              have hnr : ¬ (9223372036854775807 - last < (f0 : Int)) := fun h => hrf ⟨rfl, h⟩
              simp only [Bool.false_eq_true, if_false] at hs
              clear hrf
              go_wp2
              go_meet
              exact ⟨last, f0, rfl, by omega, by omega, by unfold wrap64; omega, HA8.out, H6.out, HDR.out, HG.out⟩
          case rest =>
            obtain ⟨la, g0, rfl, hg0, hg1, hsum, h8, h6, hdf, hg⟩ := hcut
            obtain ⟨wo, rfl⟩ : ∃ wo : World, wo = wc := ⟨_, rfl⟩
            have H8C := Lib.hid h8
            have H6C := Lib.hid h6
            have HDC := Lib.hid hdf
            have HGC := Lib.hid hg
            have HSUM := Lib.hid hsum
            have z2 : wo.cell? ⟨w.heap.size + 1, 2, none⟩ = some (.int .u64 (f2 : Int)) := h8.cell 2
            have z7 : wo.cell? ⟨w.heap.size + 1, 7, none⟩ = some (.int .u64 (f7 : Int)) := h8.cell 7
            have z8 : wo.cell? ⟨w.heap.size + 1, 8, none⟩ = some (.int .u64 (f8 : Int)) := h8.cell 8
            have HFA : Hid (∀ w', Below wo.heap.size wo w' → w'.cell? ⟨w.heap.size + 1, 2, none⟩ = some (.int .u64 (f2 : Int)) ∧ w'.cell? ⟨w.heap.size + 1, 7, none⟩ = some (.int .u64 (f7 : Int)) ∧ w'.cell? ⟨w.heap.size + 1, 8, none⟩ = some (.int .u64 (f8 : Int))) := Lib.hid fun w' hb => ⟨(H8C.out.below hb).cell 2, (H8C.out.below hb).cell 7, (H8C.out.below hb).cell 8⟩
            clear h8 h6 hdf hg z0 y0
            go_wp2
            go_cut [12] (fun s12 wx => s12 = .pointer (some ⟨wo.heap.size, 0, none⟩) ∧ wx = (wo.alloc (.cells #[.int .i64 0, .int .i64 0, .int .i64 (unz f2), .int .i64 0, .int .i64 0, .int .i64 0, .int .i64 0, .int .i64 (cnt f7), .int .i64 (cnt f8)] 93)).drew)
            case first =>
              go_region_held3 (fun w' => w'.cell? ⟨w.heap.size + 1, 2, none⟩ = some (.int .u64 (f2 : Int)) ∧ w'.cell? ⟨w.heap.size + 1, 7, none⟩ = some (.int .u64 (f7 : Int)) ∧ w'.cell? ⟨w.heap.size + 1, 8, none⟩ = some (.int .u64 (f8 : Int)))
                (first
                  | exact HFA.out _ (below_drew wo)
                  | exact HFA.out _ ((below_drew wo).alloc (by simp) _))
                ((first
                  | (go_at_call 68; (with_reducible refine (HU.out _ _ (by assumption)).mono ?_); rintro e wq ⟨rfl, rfl⟩)
                  | (go_at_call 44; (with_reducible refine (HC.out _ _ (by assumption)).mono ?_); rintro e wq ⟨rfl, rfl⟩)))
              all_goals go_wp2
              all_goals go_meet
              all_goals exact ⟨rfl, rfl⟩
            case rest =>
              obtain ⟨rfl, hw3⟩ := hcut
              have hb3 : Below wo.heap.size wo wc := by rw [hw3]; exact (below_alloc wo _).drew
              have HX3 : Hid (Bk wc wo.heap.size 93 #[.int .i64 0, .int .i64 0, .int .i64 (unz f2), .int .i64 0, .int .i64 0, .int .i64 0, .int .i64 0, .int .i64 (cnt f7), .int .i64 (cnt f8)]) := Lib.hid (by rw [hw3]; exact Bk.new wo _ _)
              have H83 := Lib.hid (H8C.out.below hb3)
              have H63 := Lib.hid (H6C.out.below hb3)
              have HD3 := Lib.hid (HDC.out.below hb3)
              have HG3 := Lib.hid (only_step HGC.out (below_grown hb3 (some d)) (fun b e => .inl e))
              have hz12 : w.heap.size + 1 < wo.heap.size := H8C.out.lt
              clear hw3 hb3 z2 z7 z8
              have z0 : wc.cell? ⟨w.heap.size + 1, 0, none⟩ = some (.int .u64 g0) := H83.out.cell 0
              have z1 : wc.cell? ⟨w.heap.size + 1, 1, none⟩ = some (.int .u64 (f1 : Int)) := H83.out.cell 1
              have x0 : wc.cell? ⟨wo.heap.size, 0, none⟩ = some (.int .i64 (0)) := HX3.out.cell 0
              have y0 := HX3.out.frozen 0
              have x1 : wc.cell? ⟨wo.heap.size, 1, none⟩ = some (.int .i64 (0)) := HX3.out.cell 1
              have y1 := HX3.out.frozen 1
              have x2 : wc.cell? ⟨wo.heap.size, 2, none⟩ = some (.int .i64 (unz f2)) := HX3.out.cell 2
              have y2 := HX3.out.frozen 2
              have x3 : wc.cell? ⟨wo.heap.size, 3, none⟩ = some (.int .i64 (0)) := HX3.out.cell 3
              have y3 := HX3.out.frozen 3
              have x4 : wc.cell? ⟨wo.heap.size, 4, none⟩ = some (.int .i64 (0)) := HX3.out.cell 4
              have y4 := HX3.out.frozen 4
              have x5 : wc.cell? ⟨wo.heap.size, 5, none⟩ = some (.int .i64 (0)) := HX3.out.cell 5
              have y5 := HX3.out.frozen 5
              have x6 : wc.cell? ⟨wo.heap.size, 6, none⟩ = some (.int .i64 (0)) := HX3.out.cell 6
              have y6 := HX3.out.frozen 6
              have x7 : wc.cell? ⟨wo.heap.size, 7, none⟩ = some (.int .i64 (cnt f7)) := HX3.out.cell 7
              have y7 := HX3.out.frozen 7
              have x8 : wc.cell? ⟨wo.heap.size, 8, none⟩ = some (.int .i64 (cnt f8)) := HX3.out.cell 8
              have y8 := HX3.out.frozen 8
              have hsi := HSI.out
              unfold In64 at hsi
              have hD2 : IntKind.u64.wrap (9223372036854775807 - IntKind.u64.wrap s) = 9223372036854775807 - s := by
                rw [IntKind.wrap_u64, IntKind.wrap_u64]
                omega
              by_cases hb : 9223372036854775807 - s ≤ (f1 : Int)
              · have hno : Hid (R = none) := Lib.hid (by rw [HRS.out, if_pos hb])
                have q0 : wc.cell? ⟨w.heap.size, 0, none⟩ = some (.int .i64 0) := H63.out.cell 0
                have r0 := H63.out.frozen 0
                have q1 : wc.cell? ⟨w.heap.size, 1, none⟩ = some (.int .i64 0) := H63.out.cell 1
                have r1 := H63.out.frozen 1
                have q2 : wc.cell? ⟨w.heap.size, 2, none⟩ = some (.int .i64 0) := H63.out.cell 2
                have r2 := H63.out.frozen 2
                have q3 : wc.cell? ⟨w.heap.size, 3, none⟩ = some (.int .i64 0) := H63.out.cell 3
                have r3 := H63.out.frozen 3
                have q4 : wc.cell? ⟨w.heap.size, 4, none⟩ = some (.int .i64 0) := H63.out.cell 4
                have r4 := H63.out.frozen 4
                have q5 : wc.cell? ⟨w.heap.size, 5, none⟩ = some (.int .i64 0) := H63.out.cell 5
                have r5 := H63.out.frozen 5
                have q6 : wc.cell? ⟨w.heap.size, 6, none⟩ = some (.int .i64 0) := H63.out.cell 6
                have r6 := H63.out.frozen 6
                have q7 : wc.cell? ⟨w.heap.size, 7, none⟩ = some (.int .i64 0) := H63.out.cell 7
                have r7 := H63.out.frozen 7
                have q8 : wc.cell? ⟨w.heap.size, 8, none⟩ = some (.int .i64 0) := H63.out.cell 8
                have r8 := H63.out.frozen 8
                go_wp2
                have hq2 := H63.out.far (p := ⟨wo.heap.size, 0, none⟩) (by show w.heap.size ≠ wo.heap.size; omega) (.int .i64 s)
                have hq3 := (((((((((hq2.set 0 (.int .i64 0)).set 1 (.int .i64 0)).set 2 (.int .i64 0)).set 3 (.int .i64 0)).set 4 (.int .i64 0)).set 5 (.int .i64 0)).set 6 (.int .i64 0)).set 7 (.int .i64 0)).set 8 (.int .i64 0))
                refine bodyPost_ret (results_cell_tmp Try.results45 _ _ w.heap.size 93 _ (0, 0) _ rfl hq3 Try.underlying93 rfl (by kernel_rfl) rfl) rfl ?_
                obtain rfl := hno.out
                refine ⟨?_, rfl⟩
                iterate 9 refine only_set ?_ _ _ (.inr (Nat.le_refl _))
                exact only_set HG3.out _ _ (.inr (by show w.heap.size ≤ wo.heap.size; omega))
              · have hE : wrap64 (wrap64 (s + wrap64 (f1 : Int)) + 1) = s + (f1 : Int) + 1 := by unfold wrap64; omega
                have hyes : Hid (R = some (⟨s, s + (f1 : Int) + 1, unz f2, cnt f3, unz f4, unz f5, unz f6, cnt f7, cnt f8⟩, a)) := Lib.hid (by rw [HRS.out, if_neg hb])
                have hb2 : ¬ (9223372036854775807 - s ≤ (f1 : Int)) := hb
                go_wp2
                obtain ⟨w4, hw4⟩ : ∃ w4, (wc.setCell ⟨wo.heap.size, 0, none⟩ (.int .i64 s)).setCell ⟨wo.heap.size, 1, none⟩ (.int .i64 (s + (f1 : Int) + 1)) = w4 := ⟨_, rfl⟩
                have HX4 : Hid (Bk w4 wo.heap.size 93 #[.int .i64 s, .int .i64 (s + (f1 : Int) + 1), .int .i64 (unz f2), .int .i64 0, .int .i64 0, .int .i64 0, .int .i64 0, .int .i64 (cnt f7), .int .i64 (cnt f8)]) := Lib.hid (by subst hw4; exact (HX3.out.set 0 _).set 1 _)
                have H84 : Hid (Bk w4 (w.heap.size + 1) 125 _) := Lib.hid (by subst hw4; exact (H83.out.far (p := ⟨wo.heap.size, 0, none⟩) (by show w.heap.size + 1 ≠ wo.heap.size; omega) _).far (p := ⟨wo.heap.size, 1, none⟩) (by show w.heap.size + 1 ≠ wo.heap.size; omega) _)
                have H64 : Hid (Bk w4 w.heap.size 93 _) := Lib.hid (by subst hw4; exact (H63.out.far (p := ⟨wo.heap.size, 0, none⟩) (by show w.heap.size ≠ wo.heap.size; omega) _).far (p := ⟨wo.heap.size, 1, none⟩) (by show w.heap.size ≠ wo.heap.size; omega) _)
                have HD4 : Hid (Df W0 w4 d A m cap bs a) := Lib.hid (by subst hw4; exact ⟨(HD3.out.blk.far (p := ⟨wo.heap.size, 0, none⟩) (by show d ≠ wo.heap.size; omega) _).far (p := ⟨wo.heap.size, 1, none⟩) (by show d ≠ wo.heap.size; omega) _, HD3.out.rd, HD3.out.len, HD3.out.le, (HD3.out.bel.setCell (p := ⟨wo.heap.size, 0, none⟩) (by show W0.heap.size ≤ wo.heap.size; have := HD.out.bel.size; omega) _).setCell (p := ⟨wo.heap.size, 1, none⟩) (by show W0.heap.size ≤ wo.heap.size; have := HD.out.bel.size; omega) _, HD3.out.hd⟩)
                have HG4 : Hid (w.grownBy w4 (some d)) := Lib.hid (by subst hw4; exact only_set (only_set HG3.out _ _ (.inr (by show w.heap.size ≤ wo.heap.size; omega))) _ _ (.inr (by show w.heap.size ≤ wo.heap.size; omega)))
                rw [hw4]
                clear hw4 x0 x1 x2 x3 x4 x5 x6 x7 x8 y0 y1 y2 y3 y4 y5 y6 y7 y8 z0 z1 hD2 hE hb hb2 hD hsum
                have x0' : w4.cell? ⟨wo.heap.size, 0, none⟩ = some (.int .i64 (s)) := HX4.out.cell 0
                have y0' := HX4.out.frozen 0
                have x1' : w4.cell? ⟨wo.heap.size, 1, none⟩ = some (.int .i64 (s + (f1 : Int) + 1)) := HX4.out.cell 1
                have y1' := HX4.out.frozen 1
                have x2' : w4.cell? ⟨wo.heap.size, 2, none⟩ = some (.int .i64 (unz f2)) := HX4.out.cell 2
                have y2' := HX4.out.frozen 2
                have x3' : w4.cell? ⟨wo.heap.size, 3, none⟩ = some (.int .i64 (0)) := HX4.out.cell 3
                have y3' := HX4.out.frozen 3
                have x4' : w4.cell? ⟨wo.heap.size, 4, none⟩ = some (.int .i64 (0)) := HX4.out.cell 4
                have y4' := HX4.out.frozen 4
                have x5' : w4.cell? ⟨wo.heap.size, 5, none⟩ = some (.int .i64 (0)) := HX4.out.cell 5
                have y5' := HX4.out.frozen 5
                have x6' : w4.cell? ⟨wo.heap.size, 6, none⟩ = some (.int .i64 (0)) := HX4.out.cell 6
                have y6' := HX4.out.frozen 6
                have x7' : w4.cell? ⟨wo.heap.size, 7, none⟩ = some (.int .i64 (cnt f7)) := HX4.out.cell 7
                have y7' := HX4.out.frozen 7
                have x8' : w4.cell? ⟨wo.heap.size, 8, none⟩ = some (.int .i64 (cnt f8)) := HX4.out.cell 8
                have y8' := HX4.out.frozen 8
                have q0 : w4.cell? ⟨w.heap.size, 0, none⟩ = some (.int .i64 0) := H64.out.cell 0
                have r0 := H64.out.frozen 0
                have q1 : w4.cell? ⟨w.heap.size, 1, none⟩ = some (.int .i64 0) := H64.out.cell 1
                have r1 := H64.out.frozen 1
                have q2 : w4.cell? ⟨w.heap.size, 2, none⟩ = some (.int .i64 0) := H64.out.cell 2
                have r2 := H64.out.frozen 2
                have q3 : w4.cell? ⟨w.heap.size, 3, none⟩ = some (.int .i64 0) := H64.out.cell 3
                have r3 := H64.out.frozen 3
                have q4 : w4.cell? ⟨w.heap.size, 4, none⟩ = some (.int .i64 0) := H64.out.cell 4
                have r4 := H64.out.frozen 4
                have q5 : w4.cell? ⟨w.heap.size, 5, none⟩ = some (.int .i64 0) := H64.out.cell 5
                have r5 := H64.out.frozen 5
                have q6 : w4.cell? ⟨w.heap.size, 6, none⟩ = some (.int .i64 0) := H64.out.cell 6
                have r6 := H64.out.frozen 6
                have q7 : w4.cell? ⟨w.heap.size, 7, none⟩ = some (.int .i64 0) := H64.out.cell 7
                have r7 := H64.out.frozen 7
                have q8 : w4.cell? ⟨w.heap.size, 8, none⟩ = some (.int .i64 0) := H64.out.cell 8
                have r8 := H64.out.frozen 8
                have z3 : w4.cell? ⟨w.heap.size + 1, 3, none⟩ = some (.int .u64 (f3 : Int)) := H84.out.cell 3
                have z4 : w4.cell? ⟨w.heap.size + 1, 4, none⟩ = some (.int .u64 (f4 : Int)) := H84.out.cell 4
                have z5 : w4.cell? ⟨w.heap.size + 1, 5, none⟩ = some (.int .u64 (f5 : Int)) := H84.out.cell 5
                have z6 : w4.cell? ⟨w.heap.size + 1, 6, none⟩ = some (.int .u64 (f6 : Int)) := H84.out.cell 6
                have H8S := Lib.hid ((((H84.out.far (p := ⟨wo.heap.size, 3, none⟩) (by show w.heap.size + 1 ≠ wo.heap.size; omega) (.int .i64 (cnt f3))).far (p := ⟨wo.heap.size, 4, none⟩) (by show w.heap.size + 1 ≠ wo.heap.size; omega) (.int .i64 (unz f4))).far (p := ⟨wo.heap.size, 5, none⟩) (by show w.heap.size + 1 ≠ wo.heap.size; omega) (.int .i64 (unz f5))).far (p := ⟨wo.heap.size, 6, none⟩) (by show w.heap.size + 1 ≠ wo.heap.size; omega) (.int .i64 (unz f6)))
                go_region_held3 (fun w' => w'.cell? ⟨w.heap.size + 1, 3, none⟩ = some (.int .u64 (f3 : Int)) ∧ w'.cell? ⟨w.heap.size + 1, 4, none⟩ = some (.int .u64 (f4 : Int)) ∧ w'.cell? ⟨w.heap.size + 1, 5, none⟩ = some (.int .u64 (f5 : Int)) ∧ w'.cell? ⟨w.heap.size + 1, 6, none⟩ = some (.int .u64 (f6 : Int)))
                  (first
                    | exact ⟨z3, z4, z5, z6⟩
                    | exact ⟨H8S.out.cell 3, H8S.out.cell 4, H8S.out.cell 5, H8S.out.cell 6⟩)
                  ((first
                    | (go_at_call 68; (with_reducible refine (HU.out _ _ (by assumption)).mono ?_); rintro e wq ⟨rfl, rfl⟩)
                    | (go_at_call 44; (with_reducible refine (HC.out _ _ (by assumption)).mono ?_); rintro e wq ⟨rfl, rfl⟩)))
                all_goals go_wp2
                have hq2 := ((((H64.out.far (p := ⟨wo.heap.size, 3, none⟩) (by show w.heap.size ≠ wo.heap.size; omega) (.int .i64 (cnt f3))).far (p := ⟨wo.heap.size, 4, none⟩) (by show w.heap.size ≠ wo.heap.size; omega) (.int .i64 (unz f4))).far (p := ⟨wo.heap.size, 5, none⟩) (by show w.heap.size ≠ wo.heap.size; omega) (.int .i64 (unz f5))).far (p := ⟨wo.heap.size, 6, none⟩) (by show w.heap.size ≠ wo.heap.size; omega) (.int .i64 (unz f6)))
                have hq3 := bk_drew (((((((((hq2.set 0 (.int .i64 s)).set 1 (.int .i64 (s + (f1 : Int) + 1))).set 2 (.int .i64 (unz f2))).set 3 (.int .i64 (cnt f3))).set 4 (.int .i64 (unz f4))).set 5 (.int .i64 (unz f5))).set 6 (.int .i64 (unz f6))).set 7 (.int .i64 (cnt f7))).set 8 (.int .i64 (cnt f8)))
                refine bodyPost_ret (results_cell_tmp Try.results45 _ _ w.heap.size 93 _ (0, 0) _ rfl hq3 Try.underlying93 rfl (by kernel_rfl) rfl) rfl ?_
                obtain rfl := hyes.out
                have hwW : W0.heap.size ≤ w.heap.size := HD.out.bel.size
                refine ⟨?_, by simp [Wn.arr], ?_⟩
                · refine only_drew ?_
                  iterate 9 refine only_set ?_ _ _ (.inr (Nat.le_refl _))
                  iterate 4 refine only_set ?_ _ _ (.inr (Nat.le_of_lt (by omega : w.heap.size < wo.heap.size)))
                  exact HG4.out
                · refine Df.drew ?_
                  iterate 9 refine Df.set ?_ (p := ⟨w.heap.size, _, none⟩) (Nat.ne_of_lt hdl) hwW _
                  iterate 4 refine Df.set ?_ (p := ⟨wo.heap.size, _, none⟩) (Nat.ne_of_lt (by omega : d < wo.heap.size)) (Nat.le_trans hwW (by omega : w.heap.size ≤ wo.heap.size)) _
                  exact HD4.out
end
end Go.Proofs.Ytaechgnjdjijkaa
