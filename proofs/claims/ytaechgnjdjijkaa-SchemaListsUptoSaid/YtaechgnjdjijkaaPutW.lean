/- PutW: Put, PutTop. -/
import Derived.Test.YtaechgnjdjijkaaPuts0
import Derived.Test.YtaechgnjdjijkaaKey
import Derived.Test.YtaechgnjdjijkaaWire
/- A key's state, written: schema.put. -/
namespace Go.Proofs.Ytaechgnjdjijkaa
open Go.RowKit Go.Lib

/-- A window's numbers, behind another one's Start. -/
def fnum (last : Option Int) (x : Wn) : Nat → Nat
  | 0 => match last with
    | none => zig x.s
    | some s => (x.s - s).toNat
  | 1 => (x.e - x.s - 1).toNat
  | 2 => zig x.h
  | 3 => x.c.toNat
  | 4 => zig x.u
  | 5 => zig x.lo
  | 6 => zig x.hi
  | 7 => x.si.toNat
  | _ => x.pa.toNat
def winTo (last : Option Int) (x : Wn) (k : Nat) : List UInt8 := (List.range k).flatMap fun j => num7 (fnum last x j)
theorem winTo_succ (last : Option Int) (x : Wn) (k : Nat) : winTo last x (k + 1) = winTo last x k ++ num7 (fnum last x k) := by simp [winTo, List.range_succ]
def lastOf (l : List Wn) (i : Nat) : Option Int := if i = 0 then none else (l[i - 1]?).map (·.s)
def winAt (l : List Wn) (i : Nat) : List UInt8 := match l[i]? with
  | some x => winTo (lastOf l i) x 9
  | none => []
def winsTo (l : List Wn) (k : Nat) : List UInt8 := (List.range k).flatMap (winAt l)
theorem winsTo_succ (l : List Wn) (k : Nat) : winsTo l (k + 1) = winsTo l k ++ winAt l k := by simp [winsTo, List.range_succ]
/-- A key's bytes. -/
def keyBytes (k : Kn) : List UInt8 := ((num7 k.key.size ++ k.key.data.toList) ++ num7 k.dr.toNat) ++ num7 k.ws.length ++ winsTo k.ws k.ws.length
/-- May it be written (all its numbers as they must)? -/
structure Wr9 (last : Option Int) (x : Wn) : Prop where
  fit : x.Fit
  ok : okW x = true
  le : ∀ s, last = some s → In64 s ∧ s ≤ x.s
theorem fnum_lt {last : Option Int} {x : Wn} (h : Wr9 last x) (j : Nat) : fnum last x j < 18446744073709551616 := by
  have hz : ∀ {v : Int}, In64 v → zig v < 18446744073709551616 := fun h => zig_lt h.1 h.2
  have ho := h.ok
  unfold okW at ho
  simp only [Bool.and_eq_true, wi_iff, decide_eq_true_eq] at ho
  have hs := h.fit.s
  have he := h.fit.e
  unfold In64 at hs he
  match j with
  | 0 =>
    unfold fnum
    cases last with
    | none => exact hz h.fit.s
    | some s => have := (h.le s rfl).1; unfold In64 at this; show (x.s - s).toNat < _; omega
  | 1 => show (x.e - x.s - 1).toNat < _; omega
  | 2 => exact hz h.fit.h
  | 3 => show x.c.toNat < _; omega
  | 4 => exact hz h.fit.u
  | 5 => exact hz h.fit.lo
  | 6 => exact hz h.fit.hi
  | 7 => show x.si.toNat < _; omega
  | n + 8 => show x.pa.toNat < _; omega
theorem winTo_len {last : Option Int} {x : Wn} (h : Wr9 last x) : ∀ k, (winTo last x k).length ≤ 10 * k
  | 0 => by simp [winTo]
  | k + 1 => by
    have := winTo_len h k
    have := num7_le _ (fnum_lt h k)
    rw [winTo_succ, List.length_append]
    omega
theorem rdWch {W W' : World} {g : Nat} {v v' u : Value} {n : Nat} {xs : List Value} (h : Rd W u n xs) (c : Wch W W' g v v') (hq : ∀ a q off cap, u = .slice a n cap → a = some ⟨q, off, none⟩ → 0 < n → q ≠ g ∧ v.ownBlock ≠ some q) : Rd W' u n xs := by
  obtain ⟨a, cap, hv, hc, hm, hr⟩ := h
  refine ⟨a, cap, hv, hc, hm, fun hn => ?_⟩
  obtain ⟨q, off, ha, hql, hcell⟩ := hr hn
  obtain ⟨h1, h2⟩ := hq a q off cap hv ha hn
  refine ⟨q, off, ha, Nat.lt_of_lt_of_le hql c.size, fun j u hj => ?_⟩
  have := c.block q hql h1 (fun e => h2 e.symm)
  rw [← hcell j u hj]
  simp only [World.cell?, this]
/-- What stands ahead of a window, as put hands it on. -/
def LastOk (w : World) (lp : Value) (last : Option Int) : Prop := (lp = .pointer none ∧ last = none) ∨ ∃ (q2 o2 : Nat) (ys : Int), lp = .pointer (some ⟨q2, o2, none⟩) ∧ last = some ys ∧ w.cell? ⟨q2, o2, none⟩ = some (.int .i64 ys)

section
variable {B g q o : Nat} {v lp : Value} {bs : List UInt8} {w : World} {c : Nat → Nat} {x : Wn} {last : Option Int}
/-- What a field's closure does. -/
def Puts (B g q o : Nat) (v lp : Value) (bs : List UInt8) (w : World) (x : Wn) (last : Option Int) (f : FuncId) (caps : Array Value) (j : Nat) : Prop :=
  Calls Try.prog f (#[.pointer (some ⟨g, 0, none⟩), .pointer (some ⟨q, o, none⟩), lp] ++ caps) w fun e w' => e = .returned (.tuple #[]) ∧ ∃ v', Wr w' B g v' (bs ++ num7 (fnum last x j)) ∧ Wch w w' g v v' 
theorem fput0 (hl : LastOk w lp last) (h9 : Wr9 last x) (hx : WnAt w q o x) (hF : Flds w c) (hw : Wr w B g v bs) (hB : B ≤ w.heap.size) (hn : bs.length + 20 ≤ 140737488355328) : Puts B g q o v lp bs w x last 80 #[.pointer (some ⟨c 0, 0, none⟩)] 0 := by
  rcases hl with ⟨rfl, rfl⟩ | ⟨q2, o2, ys, rfl, rfl, hc⟩
  · exact startPut0 c x.s hx.c0 hF hw hB h9.fit.s hn
  · obtain ⟨h1, h2⟩ := h9.le ys rfl
    exact startPut1 (.pointer (some ⟨c 0, 0, none⟩)) q2 o2 x.s ys hx.c0 hc hw hB h9.fit.s h1 h2 hn
theorem fput1 (_hl : LastOk w lp last) (h9 : Wr9 last x) (hx : WnAt w q o x) (_hF : Flds w c) (hw : Wr w B g v bs) (hB : B ≤ w.heap.size) (hn : bs.length + 20 ≤ 140737488355328) : Puts B g q o v lp bs w x last 83 #[] 1 := by
  have ho := h9.ok
  unfold okW at ho
  simp only [Bool.and_eq_true, wi_iff, decide_eq_true_eq] at ho
  exact endPut lp x.s x.e hx.c0 hx.c1 hw hB h9.fit.s h9.fit.e ho.1.1.2 hn
theorem fput2 (_hl : LastOk w lp last) (h9 : Wr9 last x) (hx : WnAt w q o x) (hF : Flds w c) (hw : Wr w B g v bs) (hB : B ≤ w.heap.size) (hn : bs.length + 20 ≤ 140737488355328) : Puts B g q o v lp bs w x last 98 #[.pointer (some ⟨c 2, 0, none⟩)] 2 := signedPut 85 x.h lp (gets2 q o) hx.c2 hF.f2 hw hB h9.fit.h hn
theorem fput4 (_hl : LastOk w lp last) (h9 : Wr9 last x) (hx : WnAt w q o x) (hF : Flds w c) (hw : Wr w B g v bs) (hB : B ≤ w.heap.size) (hn : bs.length + 20 ≤ 140737488355328) : Puts B g q o v lp bs w x last 98 #[.pointer (some ⟨c 4, 0, none⟩)] 4 := signedPut 88 x.u lp (gets4 q o) hx.c4 hF.f4 hw hB h9.fit.u hn
theorem fput5 (_hl : LastOk w lp last) (h9 : Wr9 last x) (hx : WnAt w q o x) (hF : Flds w c) (hw : Wr w B g v bs) (hB : B ≤ w.heap.size) (hn : bs.length + 20 ≤ 140737488355328) : Puts B g q o v lp bs w x last 98 #[.pointer (some ⟨c 5, 0, none⟩)] 5 := signedPut 89 x.lo lp (gets5 q o) hx.c5 hF.f5 hw hB h9.fit.lo hn
theorem fput6 (_hl : LastOk w lp last) (h9 : Wr9 last x) (hx : WnAt w q o x) (hF : Flds w c) (hw : Wr w B g v bs) (hB : B ≤ w.heap.size) (hn : bs.length + 20 ≤ 140737488355328) : Puts B g q o v lp bs w x last 98 #[.pointer (some ⟨c 6, 0, none⟩)] 6 := signedPut 90 x.hi lp (gets6 q o) hx.c6 hF.f6 hw hB h9.fit.hi hn
theorem fput3 (_hl : LastOk w lp last) (h9 : Wr9 last x) (hx : WnAt w q o x) (hF : Flds w c) (hw : Wr w B g v bs) (hB : B ≤ w.heap.size) (hn : bs.length + 20 ≤ 140737488355328) : Puts B g q o v lp bs w x last 102 #[.pointer (some ⟨c 3, 0, none⟩)] 3 := by
  have ho := h9.ok
  unfold okW at ho
  simp only [Bool.and_eq_true, wi_iff, decide_eq_true_eq] at ho
  have hz : ((x.c.toNat : Nat) : Int) = x.c := by omega
  exact countPut 87 x.c.toNat lp (gets3 q o) (by rw [hz]; exact hx.c3) hF.f3 hw hB (by omega) hn
theorem fput7 (_hl : LastOk w lp last) (h9 : Wr9 last x) (hx : WnAt w q o x) (hF : Flds w c) (hw : Wr w B g v bs) (hB : B ≤ w.heap.size) (hn : bs.length + 20 ≤ 140737488355328) : Puts B g q o v lp bs w x last 102 #[.pointer (some ⟨c 7, 0, none⟩)] 7 := by
  have ho := h9.ok
  unfold okW at ho
  simp only [Bool.and_eq_true, wi_iff, decide_eq_true_eq] at ho
  have hz : ((x.si.toNat : Nat) : Int) = x.si := by omega
  exact countPut 91 x.si.toNat lp (gets7 q o) (by rw [hz]; exact hx.c7) hF.f7 hw hB (by omega) hn
theorem fput8 (_hl : LastOk w lp last) (h9 : Wr9 last x) (hx : WnAt w q o x) (hF : Flds w c) (hw : Wr w B g v bs) (hB : B ≤ w.heap.size) (hn : bs.length + 20 ≤ 140737488355328) : Puts B g q o v lp bs w x last 102 #[.pointer (some ⟨c 8, 0, none⟩)] 8 := by
  have ho := h9.ok
  unfold okW at ho
  simp only [Bool.and_eq_true, wi_iff, decide_eq_true_eq] at ho
  have hz : ((x.pa.toNat : Nat) : Int) = x.pa := by omega
  exact countPut 92 x.pa.toNat lp (gets8 q o) (by rw [hz]; exact hx.c8) hF.f8 hw hB (by omega) hn
end

set_option maxRecDepth 100000 in
set_option maxHeartbeats 4000000 in
theorem put_any (B g : Nat) (v kv : Value) (bs : List UInt8) (k : Kn) (W : World) (hw : Wr W B g v bs) (hB : B ≤ W.heap.size) (hgB : B ≤ g) (hk : Rk W kv k) (hq : ∀ (s : Value) (d : Value) (q off n cap : Nat), kv = .agg #[s, d, .slice (some ⟨q, off, none⟩) n cap] → 0 < n → q < B)
    (hf : k.Fit) (ses : Bool) (hok : KeyP ses k) (hn : bs.length + k.key.size + 90 * k.ws.length + 100 ≤ 140737488355328) :
    Calls Try.prog 52 #[.pointer (some ⟨g, 0, none⟩), kv] W fun e w' => e = .returned (.tuple #[]) ∧ ∃ v', Wr w' B g v' (bs ++ keyBytes k) ∧ Wch W w' g v v' := by
  obtain ⟨A, cap, rfl, hr⟩ := hk
  obtain ⟨S, D, ws⟩ := k
  obtain ⟨hlen, hdr, hrow⟩ := hok
  have hfw := hf.ws
  simp only at hr hlen hdr hrow hn hq hfw ⊢
  rw [wi_iff] at hdr
  obtain ⟨D, rfl⟩ : ∃ d : Nat, D = (d : Int) := ⟨D.toNat, by omega⟩
  obtain ⟨n, hnl⟩ : ∃ n, ws.length = n := ⟨_, rfl⟩
  have hkb : keyBytes ⟨S, (D : Int), ws⟩ = ((num7 S.size ++ S.data.toList) ++ num7 D) ++ num7 n ++ winsTo ws n := by
    unfold keyBytes
    simp only [Int.toNat_natCast, hnl]
  rw [hkb]
  clear hkb
  rw [hnl] at hr hn hrow hq ⊢
  have HN := Lib.hid hnl
  have HROW := Lib.hid hrow
  have HFIT := Lib.hid hfw
  have hcap := hr
  obtain ⟨_, _, hv, hc1, hc2, -⟩ := hcap
  cases hv
  unfold maxLen at hc2
  have HQ : Hid (∀ q off, A = some ⟨q, off, none⟩ → 0 < n → q < B) := Lib.hid fun q off h h0 => by subst h; exact hq _ _ q off n cap rfl h0
  have HR := Lib.hid hr
  have hgl := hw.blk.lt
  have hvl : ∀ r, v.ownBlock = some r → r < W.heap.size := fun r h => (hw.own.lt r h).2
  have HVL := Lib.hid hvl
  have HVB : Hid (∀ r, v.ownBlock = some r → B ≤ r) := Lib.hid fun r h => (hw.own.lt r h).1
  have hbs : S.data.toList.length = S.size := rfl
  have HT := Lib.hid (Text_any B g S v bs (W.alloc (.cells #[.string S, .int .i64 (D : Int), .slice A n cap] 29)) (hw.below (below_alloc W _)) (by simp; omega) (by omega))
  have hD7 := num7_le D (by omega)
  have hn7 := num7_le n (by omega)
  have hS7 := num7_le S.size (by omega)
  clear hr hq hfw hrow hnl hf hw hvl
  go_enter Try.func52, Try.ntmps52
  go_wp2_with fail
  refine HT.out.mono ?_
  rintro e w1 ⟨rfl, v1, hw1, hc1'⟩
  have bk1 : Bk w1 W.heap.size 29 #[.string S, .int .i64 (D : Int), .slice A n cap] := (Bk.new W _ _).wch hc1' (by omega) (fun h => by have := HVL.out _ h; omega)
  have z1 : w1.cell? ⟨W.heap.size, 1, none⟩ = some (.int .i64 (D : Int)) := bk1.cell 1
  have HBK1 := Lib.hid bk1
  have HW1 := Lib.hid hw1
  have HC1 := Lib.hid hc1'
  have hsz1 := hc1'.size
  simp only [World.size_alloc] at hsz1
  have HN1 := Lib.hid (Number_any B g D v1 (bs ++ (num7 S.size ++ S.data.toList)) w1 hw1 (by omega) (by omega) (by simp only [List.length_append]; omega))
  clear bk1 hw1 hc1'
  go_wp2_with fail
  refine HN1.out.mono ?_
  rintro e w2 ⟨rfl, v2, hw2, hc2'⟩
  have hv1 : ∀ r, v1.ownBlock = some r → r ≠ W.heap.size := fun r h => by
    rcases HC1.out.at_ r h with h1 | h1
    · have := HVL.out _ h1; omega
    · simp only [World.size_alloc] at h1; omega
  have bk2 : Bk w2 W.heap.size 29 #[.string S, .int .i64 (D : Int), .slice A n cap] := HBK1.out.wch hc2' (by omega) (fun h => hv1 _ h rfl)
  have z2 : w2.cell? ⟨W.heap.size, 2, none⟩ = some (.slice A n cap) := bk2.cell 2
  have HC2 := Lib.hid (HC1.out.trans hc2')
  have hsz2 := hc2'.size
  have HN2 := Lib.hid (Number_any B g n v2 _ w2 hw2 (by omega) (by omega) (by simp only [List.length_append]; omega))
  have HBK2 := Lib.hid bk2
  clear bk2 hw2 hc2' hv1 z1 HN1
  go_wp2_with fail
  refine HN2.out.mono ?_
  rintro e w3 ⟨rfl, v3, hw3, hc3'⟩
  have hv2 : ∀ r, v2.ownBlock = some r → r ≠ W.heap.size := fun r h => by
    rcases HC2.out.at_ r h with h1 | h1
    · have := HVL.out _ h1; omega
    · simp only [World.size_alloc] at h1; omega
  have bk3 : Bk w3 W.heap.size 29 #[.string S, .int .i64 (D : Int), .slice A n cap] := HBK2.out.wch hc3' (by omega) (fun h => hv2 _ h rfl)
  have z3 : w3.cell? ⟨W.heap.size, 2, none⟩ = some (.slice A n cap) := bk3.cell 2
  have HC3 : Hid (Wch W w3 g v v3) := Lib.hid ((Wch.of_below (below_alloc W _) g v).trans (HC2.out.trans hc3'))
  have hsz3 := hc3'.size
  have HW3 := Lib.hid hw3
  have HBK3 := Lib.hid bk3
  have hv3 : ∀ r, v3.ownBlock = some r → r ≠ W.heap.size := fun r h => by
    rcases (HC2.out.trans hc3').at_ r h with h1 | h1
    · have := HVL.out _ h1; omega
    · simp only [World.size_alloc] at h1; omega
  have HV3 := Lib.hid hv3
  clear bk3 hw3 hc3' hv2 hv3 z2 HN2
  obtain ⟨bs0, hbs0⟩ : ∃ bs0, bs ++ (num7 S.size ++ S.data.toList) ++ num7 D ++ num7 n = bs0 := ⟨_, rfl⟩
  have hl0 : bs0.length ≤ bs.length + S.size + 30 := by rw [← hbs0]; simp only [List.length_append]; omega
  have hfin : bs ++ ((num7 S.size ++ S.data.toList) ++ num7 D ++ num7 n ++ winsTo ws n) = bs0 ++ winsTo ws n := by rw [← hbs0]; simp only [List.append_assoc]
  have HFIN := Lib.hid hfin
  rw [hbs0] at HW3
  clear hbs0 hfin
  have h9 : ∀ (i : Nat) (x : Wn), ws[i]? = some x → Wr9 (lastOf ws i) x := fun i x hx => by
    have hi : i < n := by have := (List.getElem?_eq_some_iff.1 hx).1; have := HN.out; omega
    obtain ⟨h1, h2⟩ := HROW.out i x hi hx
    refine ⟨HFIT.out x (List.mem_of_getElem? hx), h1, fun s hs => ?_⟩
    unfold lastOf at hs
    split at hs
    · cases hs
    · rename_i h0
      have hy : ws[i - 1]? = some (ws[i - 1]'(by have := HN.out; omega)) := List.getElem?_eq_getElem (by have := HN.out; omega)
      generalize ws[i - 1]'(by have := HN.out; omega) = y at hy
      rw [hy] at hs
      simp only [Option.map_some, Option.some.injEq] at hs
      subst hs
      have h3 := h2 y (by omega) hy
      unfold ordW at h3
      simp at h3
      exact ⟨(HFIT.out y (List.mem_of_getElem? hy)).s, by omega⟩
  have H9A := Lib.hid h9
  have hwl : ∀ i, i ≤ n → (winsTo ws i).length ≤ 90 * i := by
    intro i
    induction i with
    | zero => intro _; simp [winsTo]
    | succ i ih =>
      intro hi
      have := ih (by omega)
      have hx : ws[i]? = some (ws[i]'(by have := HN.out; omega)) := List.getElem?_eq_getElem (by have := HN.out; omega)
      have h2 := winTo_len (h9 i _ hx) 9
      rw [winsTo_succ, List.length_append]
      have h3 : winAt ws i = winTo (lastOf ws i) (ws[i]'(by have := HN.out; omega)) 9 := by unfold winAt; rw [hx]
      rw [h3]
      omega
  have HWL := Lib.hid hwl
  clear h9 hwl
  go_wp2_with fail
  go_loopw [26, 4] (fun iv lp wr => ∃ (k : Nat) (v4 : Value) (lo : Option Addr), k ≤ n ∧ iv = .int .i64 (k : Int) ∧ Wr wr B g v4 (bs0 ++ winsTo ws k) ∧ Wch w3 wr g v3 v4 ∧ lp = .pointer lo ∧ ((k = 0 ∧ lo = none) ∨ (0 < k ∧ ∃ q off, A = some ⟨q, off, none⟩ ∧ lo = some ⟨q, off + (k - 1) * 9, none⟩))) (fun iv _ _ => n - (intOf iv).toNat)
  case atStart => exact ⟨0, v3, none, Nat.zero_le _, rfl, by simpa [winsTo] using HW3.out, Wch.refl _ _ _, rfl, .inl ⟨rfl, rfl⟩⟩
  case round =>
    obtain ⟨k, v4, lo, hk, rfl, hw4, hc4, rfl, hlp⟩ := hrel
    have HW4 := Lib.hid hw4
    have HC4 := Lib.hid hc4
    have HLP := Lib.hid hlp
    have hsz4 := hc4.size
    have hbk4 : Bk wr W.heap.size 29 #[.string S, .int .i64 (D : Int), .slice A n cap] := HBK3.out.wch hc4 (by omega) (fun h => HV3.out _ h rfl)
    have HCW := Lib.hid (HC3.out.trans hc4)
    clear hw4 hc4 hlp
    by_cases hkn : k < n
    · obtain ⟨x, hxk⟩ : ∃ x, ws[k]? = some x := ⟨_, List.getElem?_eq_getElem (by have := HN.out; omega)⟩
      have hkeepq : ∀ q off, A = some ⟨q, off, none⟩ → q ≠ g ∧ v.ownBlock ≠ some q := fun q off h => by
        have h1 := HQ.out q off h (by omega)
        exact ⟨by omega, fun h2 => by have := HVB.out _ h2; omega⟩
      have hrr : Rd wr (.slice A n cap) n (wcells ws) := rdWch HR.out HCW.out (fun a q off cp hv ha _ => by cases hv; exact hkeepq q off ha)
      obtain ⟨q, off, rfl, hql, hxw⟩ := rd_win hrr hxk HN.out
      have hlast : LastOk wr (.pointer lo) (lastOf ws k) := by
        rcases HLP.out with ⟨rfl, rfl⟩ | ⟨h0, q2, o2, h2, rfl⟩
        · exact .inl ⟨rfl, rfl⟩
        · cases h2
          obtain ⟨y, hy⟩ : ∃ y, ws[k - 1]? = some y := ⟨_, List.getElem?_eq_getElem (by have := HN.out; omega)⟩
          obtain ⟨q3, o3, h3, _, hyw⟩ := rd_win hrr hy HN.out
          cases h3
          exact .inr ⟨q, _, y.s, rfl, by unfold lastOf; rw [if_neg (by omega), hy]; rfl, hyw.c0⟩
      obtain ⟨last, hla⟩ : ∃ last, lastOf ws k = last := ⟨_, rfl⟩
      rw [hla] at hlast
      have h9 := H9A.out k x hxk
      rw [hla] at h9
      have hwa : winsTo ws (k + 1) = winsTo ws k ++ winTo last x 9 := by rw [winsTo_succ]; congr 1; unfold winAt; rw [hxk, hla]
      have HWA := Lib.hid hwa
      have H9 := Lib.hid h9
      have hlb : (bs0 ++ winsTo ws k).length ≤ bs.length + S.size + 30 + 90 * k := by rw [List.length_append]; have := HWL.out k (by omega); omega
      obtain ⟨bs1, hb1⟩ : ∃ bs1, bs0 ++ winsTo ws k = bs1 := ⟨_, rfl⟩
      rw [hb1] at hlb HW4
      have HB1 := Lib.hid hb1
      have hlen1 : ∀ j, j ≤ 9 → bs1.length + (winTo last x j).length + 20 ≤ 140737488355328 := fun j hj => by
        have := winTo_len h9 j
        omega
      have HLEN := Lib.hid hlen1
      have hqB := HQ.out q off rfl (by omega)
      have hv4 : ∀ r, v4.ownBlock = some r → B ≤ r ∧ r < wr.heap.size := fun r h => HW4.out.own.lt r h
      have HV4 := Lib.hid hv4
      have hvn : ∀ r, v4.ownBlock = some r → r ≠ W.heap.size := fun r h => by
        rcases HC4.out.at_ r h with h1 | h1
        · exact HV3.out _ h1
        · omega
      have HVN := Lib.hid hvn
      have hlx : ∀ w2 : World, (∀ o', w2.cell? ⟨q, o', none⟩ = wr.cell? ⟨q, o', none⟩) → LastOk w2 (.pointer lo) last ∧ WnAt w2 q (off + k * 9) x := fun w2 h => by
        refine ⟨?_, ⟨(h _).trans hxw.c0, (h _).trans hxw.c1, (h _).trans hxw.c2, (h _).trans hxw.c3, (h _).trans hxw.c4, (h _).trans hxw.c5, (h _).trans hxw.c6, (h _).trans hxw.c7, (h _).trans hxw.c8⟩⟩
        rcases HLP.out with ⟨rfl, rfl⟩ | ⟨h0, q2, o2, h2, rfl⟩
        · rcases hlast with ⟨_, h1⟩ | ⟨q2, o2, ys, h1, _⟩
          · exact .inl ⟨rfl, h1⟩
          · cases h1
        · cases h2
          rcases hlast with ⟨h1, _⟩ | ⟨q3, o3, ys, h1, h2, h3⟩
          · cases h1
          · cases h1
            exact .inr ⟨q, _, ys, rfl, h2, (h _).trans h3⟩
      have HLX := Lib.hid hlx
      have HRR := Lib.hid hrr
      have HBK4 := Lib.hid hbk4
      clear hlx hkeepq hrr hxw hlast hla h9 hwa hb1 hlen1 hxk hv4 hvn hbk4
      go_wp2_with fail
      refine (fields_any wr).mono ?_
      rintro e wf ⟨c, rfl, hlo, hF, hbf⟩
      have hszf := hbf.size
      have HF := Lib.hid hF
      have HLO9 := Lib.hid hlo
      have HBF := Lib.hid hbf
      have HWF := Lib.hid (HW4.out.below hbf)
      clear hlo hF hbf
      obtain ⟨wo, rfl⟩ : ∃ wo : World, wo = wr := ⟨_, rfl⟩
      go_wp2_with fail
      go_loopw [30] (fun jv wi => ∃ (j : Nat) (jz : Int) (v5 : Value), j ≤ 9 ∧ jz = (j : Int) ∧ jv = .int .i64 jz ∧ Wr wi B g v5 (bs1 ++ winTo last x j) ∧ Wch wf wi g v4 v5) (fun jv _ => 9 - (intOf jv).toNat)
      case atStart => exact ⟨0, 0, v4, by omega, rfl, rfl, by simpa [winTo] using HWF.out, Wch.refl _ _ _⟩
      case round =>
        obtain ⟨j, jz, v5, hj, hjz, rfl, hw5, hc5⟩ := hrel
        have HW5 := Lib.hid hw5
        have HC5 := Lib.hid hc5
        have hsz5 := hc5.size
        have hkeep : ∀ r, r < wf.heap.size → r ≠ g → v4.ownBlock ≠ some r → wr.heap[r]? = wf.heap[r]? := fun r h1 h2 h3 => hc5.block r h1 h2 (fun e => h3 e.symm)
        have hbk5 : Bk wr W.heap.size 29 #[.string S, .int .i64 (D : Int), .slice (some ⟨q, off, none⟩) n cap] := (HBK4.out.below HBF.out).wch hc5 (by omega) (fun h => HVN.out _ h rfl)
        have hcq : ∀ w2, Below wr.heap.size wr w2 → LastOk w2 (.pointer lo) last ∧ WnAt w2 q (off + k * 9) x := fun w2 hb => HLX.out w2 fun o' => by
          have h1 : wr.heap[q]? = wf.heap[q]? := hkeep q (by omega) (by omega) (fun h => by have := HV4.out _ h; omega)
          have h2 : wr.cell? ⟨q, o', none⟩ = wf.cell? ⟨q, o', none⟩ := by simp only [World.cell?, h1]
          exact (hb.cell (p := ⟨q, o', none⟩) (by show q < _; omega)).trans (h2.trans (HBF.out.cell (p := ⟨q, o', none⟩) hql))
        have HCQ := Lib.hid hcq
        have hff : Flds wr c := HF.out.keep fun r hr hl => by
          obtain ⟨j', hj', rfl⟩ := hr
          have h0 := HLO9.out j' hj'
          exact hkeep _ hl (by omega) (fun h => by have := HV4.out _ h; omega)
        have HFF := Lib.hid hff
        have hBw : B ≤ wr.heap.size := by omega
        clear hcq hff hkeep
        have zbk : wr.cell? ⟨W.heap.size, 2, none⟩ = some (.slice (some ⟨q, off, none⟩) n cap) := hbk5.cell 2
        have hlbk := hbk5.lt
        clear hw5 hc5 hbk5
        by_cases hj9 : j = 9
        · obtain rfl := hj9
          obtain rfl : jz = 9 := by omega
          clear hjz hj
          go_wp2
          go_roundw
          case rel => exact ⟨k + 1, v5, _, by omega, by go_num, by have h := HW5.out; rw [← HB1.out, List.append_assoc, ← HWA.out] at h; exact h, HC4.out.trans ((Wch.of_below HBF.out g v4).trans HC5.out), rfl, .inr ⟨by omega, q, off, rfl, rfl⟩⟩
          case measure => simp [intOf]; omega
        have hj0 : j = 0 ∨ j = 1 ∨ j = 2 ∨ j = 3 ∨ j = 4 ∨ j = 5 ∨ j = 6 ∨ j = 7 ∨ j = 8 := by omega
        rcases hj0 with h | h | h | h | h | h | h | h | h
        · obtain rfl : j = 0 := by omega
          obtain rfl : jz = 0 := by omega
          clear hjz h hj9 hj
          have hix := fld_ix0 c
          have HP : Hid (∀ w2, Below wr.heap.size wr w2 → Puts B g q (off + k * 9) v5 (.pointer lo) (bs1 ++ winTo last x 0) w2 x last 80 #[.pointer (some ⟨c 0, 0, none⟩)] 0) := Lib.hid fun w2 hb =>
            fput0 (HCQ.out w2 hb).1 H9.out (HCQ.out w2 hb).2 (HFF.out.below hb) (HW5.out.below hb) (Nat.le_trans hBw hb.size) (by have := HLEN.out 0 (by omega); simp only [List.length_append]; omega)
          unfold Puts at HP
          simp only [List.append_toArray, List.cons_append, List.nil_append] at HP
          go_wp2_with fail
          obtain ⟨wt, hwt⟩ : ∃ wt, wr.alloc (.cells #[.func (.func 80) #[] #[.pointer (some ⟨c 0, 0, none⟩)], .func (.func 81) #[] #[.pointer (some ⟨c 0, 0, none⟩)]] 116) = wt := ⟨_, rfl⟩
          have hbt : Below wr.heap.size wr wt := by rw [← hwt]; exact below_alloc _ _
          have zt0 : wt.cell? ⟨wr.heap.size, 0, none⟩ = some (.func (.func 80) #[] #[.pointer (some ⟨c 0, 0, none⟩)]) := by rw [← hwt]; exact (Bk.new wr _ _).cell 0
          have ztb : wt.cell? ⟨W.heap.size, 2, none⟩ = some (.slice (some ⟨q, off, none⟩) n cap) := (hbt.cell (p := ⟨W.heap.size, 2, none⟩) hlbk).trans zbk
          rw [hwt]
          clear hwt
          go_still_tail 8, (by kernel_rfl)
          change wpList _ _ _ _ _ (World.drew wt)
          go_wp2_with (first
            | (go_at_call 80; (with_reducible refine (HP.out _ (below_trans hbt (below_drew wt))).mono ?_); rintro e w6 ⟨rfl, v6, hw6, hc6⟩; have HW6 := Lib.hid hw6; have HC6 := Lib.hid hc6; clear hw6 hc6))
          go_roundw
          case rel => exact ⟨1, 1, v6, by omega, by omega, rfl, by have h := HW6.out; rw [List.append_assoc, ← winTo_succ] at h; exact h, HC5.out.trans ((Wch.of_below (below_trans hbt (below_drew wt)) g v5).trans HC6.out)⟩
          case measure => simp [intOf]
        · obtain rfl : j = 1 := by omega
          obtain rfl : jz = 1 := by omega
          clear hjz h hj9 hj
          have hix := fld_ix1 c
          have HP : Hid (∀ w2, Below wr.heap.size wr w2 → Puts B g q (off + k * 9) v5 (.pointer lo) (bs1 ++ winTo last x 1) w2 x last 83 #[] 1) := Lib.hid fun w2 hb =>
            fput1 (HCQ.out w2 hb).1 H9.out (HCQ.out w2 hb).2 (HFF.out.below hb) (HW5.out.below hb) (Nat.le_trans hBw hb.size) (by have := HLEN.out 1 (by omega); simp only [List.length_append]; omega)
          unfold Puts at HP
          simp only [List.append_toArray, List.cons_append, List.nil_append] at HP
          go_wp2_with fail
          obtain ⟨wt, hwt⟩ : ∃ wt, wr.alloc (.cells #[.func (.func 83) #[] #[], .func (.func 84) #[] #[]] 116) = wt := ⟨_, rfl⟩
          have hbt : Below wr.heap.size wr wt := by rw [← hwt]; exact below_alloc _ _
          have zt0 : wt.cell? ⟨wr.heap.size, 0, none⟩ = some (.func (.func 83) #[] #[]) := by rw [← hwt]; exact (Bk.new wr _ _).cell 0
          have ztb : wt.cell? ⟨W.heap.size, 2, none⟩ = some (.slice (some ⟨q, off, none⟩) n cap) := (hbt.cell (p := ⟨W.heap.size, 2, none⟩) hlbk).trans zbk
          rw [hwt]
          clear hwt
          go_still_tail 8, (by kernel_rfl)
          change wpList _ _ _ _ _ (World.drew wt)
          go_wp2_with (first
            | (go_at_call 83; (with_reducible refine (HP.out _ (below_trans hbt (below_drew wt))).mono ?_); rintro e w6 ⟨rfl, v6, hw6, hc6⟩; have HW6 := Lib.hid hw6; have HC6 := Lib.hid hc6; clear hw6 hc6))
          go_roundw
          case rel => exact ⟨2, 2, v6, by omega, by omega, rfl, by have h := HW6.out; rw [List.append_assoc, ← winTo_succ] at h; exact h, HC5.out.trans ((Wch.of_below (below_trans hbt (below_drew wt)) g v5).trans HC6.out)⟩
          case measure => simp [intOf]
        · obtain rfl : j = 2 := by omega
          obtain rfl : jz = 2 := by omega
          clear hjz h hj9 hj
          have hix := fld_ix2 c
          have HP : Hid (∀ w2, Below wr.heap.size wr w2 → Puts B g q (off + k * 9) v5 (.pointer lo) (bs1 ++ winTo last x 2) w2 x last 98 #[.pointer (some ⟨c 2, 0, none⟩)] 2) := Lib.hid fun w2 hb =>
            fput2 (HCQ.out w2 hb).1 H9.out (HCQ.out w2 hb).2 (HFF.out.below hb) (HW5.out.below hb) (Nat.le_trans hBw hb.size) (by have := HLEN.out 2 (by omega); simp only [List.length_append]; omega)
          unfold Puts at HP
          simp only [List.append_toArray, List.cons_append, List.nil_append] at HP
          go_wp2_with fail
          obtain ⟨wt, hwt⟩ : ∃ wt, wr.alloc (.cells #[.func (.func 98) #[] #[.pointer (some ⟨c 2, 0, none⟩)], .func (.func 100) #[] #[.pointer (some ⟨c 2, 0, none⟩)]] 116) = wt := ⟨_, rfl⟩
          have hbt : Below wr.heap.size wr wt := by rw [← hwt]; exact below_alloc _ _
          have zt0 : wt.cell? ⟨wr.heap.size, 0, none⟩ = some (.func (.func 98) #[] #[.pointer (some ⟨c 2, 0, none⟩)]) := by rw [← hwt]; exact (Bk.new wr _ _).cell 0
          have ztb : wt.cell? ⟨W.heap.size, 2, none⟩ = some (.slice (some ⟨q, off, none⟩) n cap) := (hbt.cell (p := ⟨W.heap.size, 2, none⟩) hlbk).trans zbk
          rw [hwt]
          clear hwt
          go_still_tail 8, (by kernel_rfl)
          change wpList _ _ _ _ _ (World.drew wt)
          go_wp2_with (first
            | (go_at_call 98; (with_reducible refine (HP.out _ (below_trans hbt (below_drew wt))).mono ?_); rintro e w6 ⟨rfl, v6, hw6, hc6⟩; have HW6 := Lib.hid hw6; have HC6 := Lib.hid hc6; clear hw6 hc6))
          go_roundw
          case rel => exact ⟨3, 3, v6, by omega, by omega, rfl, by have h := HW6.out; rw [List.append_assoc, ← winTo_succ] at h; exact h, HC5.out.trans ((Wch.of_below (below_trans hbt (below_drew wt)) g v5).trans HC6.out)⟩
          case measure => simp [intOf]
        · obtain rfl : j = 3 := by omega
          obtain rfl : jz = 3 := by omega
          clear hjz h hj9 hj
          have hix := fld_ix3 c
          have HP : Hid (∀ w2, Below wr.heap.size wr w2 → Puts B g q (off + k * 9) v5 (.pointer lo) (bs1 ++ winTo last x 3) w2 x last 102 #[.pointer (some ⟨c 3, 0, none⟩)] 3) := Lib.hid fun w2 hb =>
            fput3 (HCQ.out w2 hb).1 H9.out (HCQ.out w2 hb).2 (HFF.out.below hb) (HW5.out.below hb) (Nat.le_trans hBw hb.size) (by have := HLEN.out 3 (by omega); simp only [List.length_append]; omega)
          unfold Puts at HP
          simp only [List.append_toArray, List.cons_append, List.nil_append] at HP
          go_wp2_with fail
          obtain ⟨wt, hwt⟩ : ∃ wt, wr.alloc (.cells #[.func (.func 102) #[] #[.pointer (some ⟨c 3, 0, none⟩)], .func (.func 103) #[] #[.pointer (some ⟨c 3, 0, none⟩)]] 116) = wt := ⟨_, rfl⟩
          have hbt : Below wr.heap.size wr wt := by rw [← hwt]; exact below_alloc _ _
          have zt0 : wt.cell? ⟨wr.heap.size, 0, none⟩ = some (.func (.func 102) #[] #[.pointer (some ⟨c 3, 0, none⟩)]) := by rw [← hwt]; exact (Bk.new wr _ _).cell 0
          have ztb : wt.cell? ⟨W.heap.size, 2, none⟩ = some (.slice (some ⟨q, off, none⟩) n cap) := (hbt.cell (p := ⟨W.heap.size, 2, none⟩) hlbk).trans zbk
          rw [hwt]
          clear hwt
          go_still_tail 8, (by kernel_rfl)
          change wpList _ _ _ _ _ (World.drew wt)
          go_wp2_with (first
            | (go_at_call 102; (with_reducible refine (HP.out _ (below_trans hbt (below_drew wt))).mono ?_); rintro e w6 ⟨rfl, v6, hw6, hc6⟩; have HW6 := Lib.hid hw6; have HC6 := Lib.hid hc6; clear hw6 hc6))
          go_roundw
          case rel => exact ⟨4, 4, v6, by omega, by omega, rfl, by have h := HW6.out; rw [List.append_assoc, ← winTo_succ] at h; exact h, HC5.out.trans ((Wch.of_below (below_trans hbt (below_drew wt)) g v5).trans HC6.out)⟩
          case measure => simp [intOf]
        · obtain rfl : j = 4 := by omega
          obtain rfl : jz = 4 := by omega
          clear hjz h hj9 hj
          have hix := fld_ix4 c
          have HP : Hid (∀ w2, Below wr.heap.size wr w2 → Puts B g q (off + k * 9) v5 (.pointer lo) (bs1 ++ winTo last x 4) w2 x last 98 #[.pointer (some ⟨c 4, 0, none⟩)] 4) := Lib.hid fun w2 hb =>
            fput4 (HCQ.out w2 hb).1 H9.out (HCQ.out w2 hb).2 (HFF.out.below hb) (HW5.out.below hb) (Nat.le_trans hBw hb.size) (by have := HLEN.out 4 (by omega); simp only [List.length_append]; omega)
          unfold Puts at HP
          simp only [List.append_toArray, List.cons_append, List.nil_append] at HP
          go_wp2_with fail
          obtain ⟨wt, hwt⟩ : ∃ wt, wr.alloc (.cells #[.func (.func 98) #[] #[.pointer (some ⟨c 4, 0, none⟩)], .func (.func 100) #[] #[.pointer (some ⟨c 4, 0, none⟩)]] 116) = wt := ⟨_, rfl⟩
          have hbt : Below wr.heap.size wr wt := by rw [← hwt]; exact below_alloc _ _
          have zt0 : wt.cell? ⟨wr.heap.size, 0, none⟩ = some (.func (.func 98) #[] #[.pointer (some ⟨c 4, 0, none⟩)]) := by rw [← hwt]; exact (Bk.new wr _ _).cell 0
          have ztb : wt.cell? ⟨W.heap.size, 2, none⟩ = some (.slice (some ⟨q, off, none⟩) n cap) := (hbt.cell (p := ⟨W.heap.size, 2, none⟩) hlbk).trans zbk
          rw [hwt]
          clear hwt
          go_still_tail 8, (by kernel_rfl)
          change wpList _ _ _ _ _ (World.drew wt)
          go_wp2_with (first
            | (go_at_call 98; (with_reducible refine (HP.out _ (below_trans hbt (below_drew wt))).mono ?_); rintro e w6 ⟨rfl, v6, hw6, hc6⟩; have HW6 := Lib.hid hw6; have HC6 := Lib.hid hc6; clear hw6 hc6))
          go_roundw
          case rel => exact ⟨5, 5, v6, by omega, by omega, rfl, by have h := HW6.out; rw [List.append_assoc, ← winTo_succ] at h; exact h, HC5.out.trans ((Wch.of_below (below_trans hbt (below_drew wt)) g v5).trans HC6.out)⟩
          case measure => simp [intOf]
        · obtain rfl : j = 5 := by omega
          obtain rfl : jz = 5 := by omega
          clear hjz h hj9 hj
          have hix := fld_ix5 c
          have HP : Hid (∀ w2, Below wr.heap.size wr w2 → Puts B g q (off + k * 9) v5 (.pointer lo) (bs1 ++ winTo last x 5) w2 x last 98 #[.pointer (some ⟨c 5, 0, none⟩)] 5) := Lib.hid fun w2 hb =>
            fput5 (HCQ.out w2 hb).1 H9.out (HCQ.out w2 hb).2 (HFF.out.below hb) (HW5.out.below hb) (Nat.le_trans hBw hb.size) (by have := HLEN.out 5 (by omega); simp only [List.length_append]; omega)
          unfold Puts at HP
          simp only [List.append_toArray, List.cons_append, List.nil_append] at HP
          go_wp2_with fail
          obtain ⟨wt, hwt⟩ : ∃ wt, wr.alloc (.cells #[.func (.func 98) #[] #[.pointer (some ⟨c 5, 0, none⟩)], .func (.func 100) #[] #[.pointer (some ⟨c 5, 0, none⟩)]] 116) = wt := ⟨_, rfl⟩
          have hbt : Below wr.heap.size wr wt := by rw [← hwt]; exact below_alloc _ _
          have zt0 : wt.cell? ⟨wr.heap.size, 0, none⟩ = some (.func (.func 98) #[] #[.pointer (some ⟨c 5, 0, none⟩)]) := by rw [← hwt]; exact (Bk.new wr _ _).cell 0
          have ztb : wt.cell? ⟨W.heap.size, 2, none⟩ = some (.slice (some ⟨q, off, none⟩) n cap) := (hbt.cell (p := ⟨W.heap.size, 2, none⟩) hlbk).trans zbk
          rw [hwt]
          clear hwt
          go_still_tail 8, (by kernel_rfl)
          change wpList _ _ _ _ _ (World.drew wt)
          go_wp2_with (first
            | (go_at_call 98; (with_reducible refine (HP.out _ (below_trans hbt (below_drew wt))).mono ?_); rintro e w6 ⟨rfl, v6, hw6, hc6⟩; have HW6 := Lib.hid hw6; have HC6 := Lib.hid hc6; clear hw6 hc6))
          go_roundw
          case rel => exact ⟨6, 6, v6, by omega, by omega, rfl, by have h := HW6.out; rw [List.append_assoc, ← winTo_succ] at h; exact h, HC5.out.trans ((Wch.of_below (below_trans hbt (below_drew wt)) g v5).trans HC6.out)⟩
          case measure => simp [intOf]
        · obtain rfl : j = 6 := by omega
          obtain rfl : jz = 6 := by omega
          clear hjz h hj9 hj
          have hix := fld_ix6 c
          have HP : Hid (∀ w2, Below wr.heap.size wr w2 → Puts B g q (off + k * 9) v5 (.pointer lo) (bs1 ++ winTo last x 6) w2 x last 98 #[.pointer (some ⟨c 6, 0, none⟩)] 6) := Lib.hid fun w2 hb =>
            fput6 (HCQ.out w2 hb).1 H9.out (HCQ.out w2 hb).2 (HFF.out.below hb) (HW5.out.below hb) (Nat.le_trans hBw hb.size) (by have := HLEN.out 6 (by omega); simp only [List.length_append]; omega)
          unfold Puts at HP
          simp only [List.append_toArray, List.cons_append, List.nil_append] at HP
          go_wp2_with fail
          obtain ⟨wt, hwt⟩ : ∃ wt, wr.alloc (.cells #[.func (.func 98) #[] #[.pointer (some ⟨c 6, 0, none⟩)], .func (.func 100) #[] #[.pointer (some ⟨c 6, 0, none⟩)]] 116) = wt := ⟨_, rfl⟩
          have hbt : Below wr.heap.size wr wt := by rw [← hwt]; exact below_alloc _ _
          have zt0 : wt.cell? ⟨wr.heap.size, 0, none⟩ = some (.func (.func 98) #[] #[.pointer (some ⟨c 6, 0, none⟩)]) := by rw [← hwt]; exact (Bk.new wr _ _).cell 0
          have ztb : wt.cell? ⟨W.heap.size, 2, none⟩ = some (.slice (some ⟨q, off, none⟩) n cap) := (hbt.cell (p := ⟨W.heap.size, 2, none⟩) hlbk).trans zbk
          rw [hwt]
          clear hwt
          go_still_tail 8, (by kernel_rfl)
          change wpList _ _ _ _ _ (World.drew wt)
          go_wp2_with (first
            | (go_at_call 98; (with_reducible refine (HP.out _ (below_trans hbt (below_drew wt))).mono ?_); rintro e w6 ⟨rfl, v6, hw6, hc6⟩; have HW6 := Lib.hid hw6; have HC6 := Lib.hid hc6; clear hw6 hc6))
          go_roundw
          case rel => exact ⟨7, 7, v6, by omega, by omega, rfl, by have h := HW6.out; rw [List.append_assoc, ← winTo_succ] at h; exact h, HC5.out.trans ((Wch.of_below (below_trans hbt (below_drew wt)) g v5).trans HC6.out)⟩
          case measure => simp [intOf]
        · obtain rfl : j = 7 := by omega
          obtain rfl : jz = 7 := by omega
          clear hjz h hj9 hj
          have hix := fld_ix7 c
          have HP : Hid (∀ w2, Below wr.heap.size wr w2 → Puts B g q (off + k * 9) v5 (.pointer lo) (bs1 ++ winTo last x 7) w2 x last 102 #[.pointer (some ⟨c 7, 0, none⟩)] 7) := Lib.hid fun w2 hb =>
            fput7 (HCQ.out w2 hb).1 H9.out (HCQ.out w2 hb).2 (HFF.out.below hb) (HW5.out.below hb) (Nat.le_trans hBw hb.size) (by have := HLEN.out 7 (by omega); simp only [List.length_append]; omega)
          unfold Puts at HP
          simp only [List.append_toArray, List.cons_append, List.nil_append] at HP
          go_wp2_with fail
          obtain ⟨wt, hwt⟩ : ∃ wt, wr.alloc (.cells #[.func (.func 102) #[] #[.pointer (some ⟨c 7, 0, none⟩)], .func (.func 103) #[] #[.pointer (some ⟨c 7, 0, none⟩)]] 116) = wt := ⟨_, rfl⟩
          have hbt : Below wr.heap.size wr wt := by rw [← hwt]; exact below_alloc _ _
          have zt0 : wt.cell? ⟨wr.heap.size, 0, none⟩ = some (.func (.func 102) #[] #[.pointer (some ⟨c 7, 0, none⟩)]) := by rw [← hwt]; exact (Bk.new wr _ _).cell 0
          have ztb : wt.cell? ⟨W.heap.size, 2, none⟩ = some (.slice (some ⟨q, off, none⟩) n cap) := (hbt.cell (p := ⟨W.heap.size, 2, none⟩) hlbk).trans zbk
          rw [hwt]
          clear hwt
          go_still_tail 8, (by kernel_rfl)
          change wpList _ _ _ _ _ (World.drew wt)
          go_wp2_with (first
            | (go_at_call 102; (with_reducible refine (HP.out _ (below_trans hbt (below_drew wt))).mono ?_); rintro e w6 ⟨rfl, v6, hw6, hc6⟩; have HW6 := Lib.hid hw6; have HC6 := Lib.hid hc6; clear hw6 hc6))
          go_roundw
          case rel => exact ⟨8, 8, v6, by omega, by omega, rfl, by have h := HW6.out; rw [List.append_assoc, ← winTo_succ] at h; exact h, HC5.out.trans ((Wch.of_below (below_trans hbt (below_drew wt)) g v5).trans HC6.out)⟩
          case measure => simp [intOf]
        · obtain rfl : j = 8 := by omega
          obtain rfl : jz = 8 := by omega
          clear hjz h hj9 hj
          have hix := fld_ix8 c
          have HP : Hid (∀ w2, Below wr.heap.size wr w2 → Puts B g q (off + k * 9) v5 (.pointer lo) (bs1 ++ winTo last x 8) w2 x last 102 #[.pointer (some ⟨c 8, 0, none⟩)] 8) := Lib.hid fun w2 hb =>
            fput8 (HCQ.out w2 hb).1 H9.out (HCQ.out w2 hb).2 (HFF.out.below hb) (HW5.out.below hb) (Nat.le_trans hBw hb.size) (by have := HLEN.out 8 (by omega); simp only [List.length_append]; omega)
          unfold Puts at HP
          simp only [List.append_toArray, List.cons_append, List.nil_append] at HP
          go_wp2_with fail
          obtain ⟨wt, hwt⟩ : ∃ wt, wr.alloc (.cells #[.func (.func 102) #[] #[.pointer (some ⟨c 8, 0, none⟩)], .func (.func 103) #[] #[.pointer (some ⟨c 8, 0, none⟩)]] 116) = wt := ⟨_, rfl⟩
          have hbt : Below wr.heap.size wr wt := by rw [← hwt]; exact below_alloc _ _
          have zt0 : wt.cell? ⟨wr.heap.size, 0, none⟩ = some (.func (.func 102) #[] #[.pointer (some ⟨c 8, 0, none⟩)]) := by rw [← hwt]; exact (Bk.new wr _ _).cell 0
          have ztb : wt.cell? ⟨W.heap.size, 2, none⟩ = some (.slice (some ⟨q, off, none⟩) n cap) := (hbt.cell (p := ⟨W.heap.size, 2, none⟩) hlbk).trans zbk
          rw [hwt]
          clear hwt
          go_still_tail 8, (by kernel_rfl)
          change wpList _ _ _ _ _ (World.drew wt)
          go_wp2_with (first
            | (go_at_call 102; (with_reducible refine (HP.out _ (below_trans hbt (below_drew wt))).mono ?_); rintro e w6 ⟨rfl, v6, hw6, hc6⟩; have HW6 := Lib.hid hw6; have HC6 := Lib.hid hc6; clear hw6 hc6))
          go_roundw
          case rel => exact ⟨9, 9, v6, by omega, by omega, rfl, by have h := HW6.out; rw [List.append_assoc, ← winTo_succ] at h; exact h, HC5.out.trans ((Wch.of_below (below_trans hbt (below_drew wt)) g v5).trans HC6.out)⟩
          case measure => simp [intOf]
    · obtain rfl : k = n := by omega
      go_wp2
      go_end0
      exact ⟨rfl, v4, by rw [HFIN.out]; exact HW4.out, HCW.out⟩
end Go.Proofs.Ytaechgnjdjijkaa

/- schema.Put and Size. -/
namespace Go.Proofs.Ytaechgnjdjijkaa
open Go.RowKit Go.Lib

/-- What is wrong of a job and a key's state. -/
noncomputable def putE (c : Cf) (k : Kn) : Int := if job c then (if keyB (c.k == 3) k then 0 else 6) else 4
theorem Key_any (c : Cf) (hf : c.Fit) (k : Kn) (kv : Value) (w : World) (hr : Rk w kv k) : Calls Try.prog 50 #[c.val, kv] w fun e w' => e = .returned (.int .i64 (putE c k)) ∧ Below w.heap.size w w' := by
  unfold putE
  by_cases hj : job c = true
  · rw [if_pos hj]
    exact Key_row c hf hj k kv w hr
  · rw [if_neg hj]
    obtain ⟨A, cap, rfl, -⟩ := hr
    exact Key_job c hf (by simpa using hj) _ _ _ rfl w
theorem putE_ok {c : Cf} {k : Kn} (h : putE c k = 0) : job c = true ∧ KeyP (c.k == 3) k := by
  unfold putE at h
  split at h
  · rename_i hj
    split at h
    · rename_i hk; exact ⟨hj, keyB_iff.1 hk⟩
    · cases h
  · cases h
theorem wr9_of {ses : Bool} {k : Kn} (hok : KeyP ses k) (hf : k.Fit) : ∀ (i : Nat) (x : Wn), k.ws[i]? = some x → Wr9 (lastOf k.ws i) x := fun i x hx => by
  have hi := (List.getElem?_eq_some_iff.1 hx).1
  obtain ⟨h1, h2⟩ := hok.2.2 i x hi hx
  refine ⟨hf.ws x (List.mem_of_getElem? hx), h1, fun s hs => ?_⟩
  unfold lastOf at hs
  split at hs
  · cases hs
  · rename_i h0
    have hy : k.ws[i - 1]? = some (k.ws[i - 1]'(by omega)) := List.getElem?_eq_getElem (by omega)
    generalize k.ws[i - 1]'(by omega) = y at hy
    rw [hy] at hs
    simp only [Option.map_some, Option.some.injEq] at hs
    subst hs
    have h3 := h2 y (by omega) hy
    unfold ordW at h3
    simp at h3
    exact ⟨(hf.ws y (List.mem_of_getElem? hy)).s, by omega⟩
theorem winsTo_len {l : List Wn} (h : ∀ (i : Nat) (x : Wn), l[i]? = some x → Wr9 (lastOf l i) x) : ∀ i, (winsTo l i).length ≤ 90 * i
  | 0 => by simp [winsTo]
  | i + 1 => by
    have := winsTo_len h i
    rw [winsTo_succ, List.length_append]
    unfold winAt
    split
    · rename_i x hx
      have := winTo_len (h i x hx) 9
      omega
    · simp; omega
theorem keyBytes_len {ses : Bool} {k : Kn} (hok : KeyP ses k) (hf : k.Fit) (hl : k.ws.length < 18446744073709551616) : (keyBytes k).length ≤ k.key.size + 90 * k.ws.length + 30 := by
  have h1 := winsTo_len (wr9_of hok hf) k.ws.length
  have hd := wi_iff.1 hok.2.1
  have hk := hok.1
  have h2 := num7_le k.dr.toNat (by omega)
  have h3 := num7_le k.ws.length hl
  have h4 := num7_le k.key.size (by omega)
  have h5 : k.key.data.toList.length = k.key.size := rfl
  unfold keyBytes
  simp only [List.length_append]
  omega
theorem win_room {W : World} {A : Option Addr} {n cap : Nat} {l : List Wn} (h : Rd W (.slice A n cap) n (wcells l)) : ∀ q off, A = some ⟨q, off, none⟩ → 0 < n → q < W.heap.size := fun q off hA hn => by
  obtain ⟨_, _, hv, _, _, hr⟩ := h
  cases hv
  obtain ⟨g, o, h1, h2, _⟩ := hr hn
  rw [hA] at h1
  cases h1
  exact h2

set_option maxRecDepth 100000 in
theorem Put_bad (c : Cf) (hf : c.Fit) (k : Kn) (kv : Value) (W : World) (hr : Rk W kv k) (he : putE c k ≠ 0) : Calls Try.prog 19 #[c.val, kv] W fun e w' => e = .returned (.tuple #[.slice none 0 0, .int .i64 (putE c k)]) ∧ Below W.heap.size W w' := by
  obtain ⟨A, cap, rfl, hrd⟩ := id hr
  have HK : Hid (∀ w, Below W.heap.size W w → Calls Try.prog 50 #[c.val, .agg #[.string k.key, .int .i64 k.dr, .slice A k.ws.length cap]] w fun e w' => e = .returned (.int .i64 (putE c k)) ∧ Below w.heap.size w w') := Lib.hid fun w hb => Key_any c hf k _ w (hr.below hb)
  obtain ⟨z, hz⟩ : ∃ z, putE c k = z := ⟨_, rfl⟩
  rw [hz] at he HK ⊢
  have hnz : (z != 0) = true := by simpa using he
  clear hr hf hrd hz he
  unfold Cf.val at HK ⊢
  obtain ⟨g, so, kd, sz, sl, o, ga, la, ea, di⟩ := c
  obtain ⟨S, D, ws⟩ := k
  simp only at HK ⊢
  generalize ws.length = n at *
  go_enter Try.func19, Try.ntmps19
  go_wp2_with (first
    | (go_at_call 50; (with_reducible refine (HK.out _ ((below_alloc W _).alloc (by simp) _)).mono ?_); rintro e w1 ⟨rfl, hb⟩; have HB := Lib.hid hb; clear hb))
  go_ret2
  exact ⟨rfl, ((below_alloc W _).alloc (by simp) _).trans (HB.out.mono (by simp; omega))⟩

set_option maxRecDepth 100000 in
theorem Put_ok (c : Cf) (hf : c.Fit) (k : Kn) (hkf : k.Fit) (kv : Value) (W : World) (hr : Rk W kv k) (he : putE c k = 0) (hn : k.key.size + 90 * k.ws.length + 200 ≤ 140737488355328) :
    Calls Try.prog 19 #[c.val, kv] W fun e w' => ∃ v', e = .returned (.tuple #[v', .int .i64 0]) ∧ Below W.heap.size W w' ∧ w'.ownsRow W.heap.size 5 1 v' (keyBytes k).length (bc (keyBytes k)) := by
  obtain ⟨A, cap, rfl, hrd⟩ := id hr
  have HK : Hid (∀ w, Below W.heap.size W w → Calls Try.prog 50 #[c.val, .agg #[.string k.key, .int .i64 k.dr, .slice A k.ws.length cap]] w fun e w' => e = .returned (.int .i64 0) ∧ Below w.heap.size w w') := Lib.hid fun w hb => by
    have h := Key_any c hf k _ w (hr.below hb)
    rw [he] at h
    exact h
  obtain ⟨-, hkp⟩ := putE_ok he
  have HP : Hid (∀ w g v, Below W.heap.size W w → Wr w w.heap.size g v [] → W.heap.size ≤ g → Calls Try.prog 52 #[.pointer (some ⟨g, 0, none⟩), .agg #[.string k.key, .int .i64 k.dr, .slice A k.ws.length cap]] w fun e w' => e = .returned (.tuple #[]) ∧ ∃ v', Wr w' W.heap.size g v' (keyBytes k) ∧ Wch w w' g v v') := Lib.hid fun w g v hb hw hg =>
    put_any W.heap.size g v _ [] k w (hw.mono hb.size) hb.size hg (hr.below hb) (fun s d q off n cp h h0 => by cases h; exact win_room hrd q off rfl h0) hkf _ hkp (by simp; omega)
  have hkl := keyBytes_len hkp hkf (by omega)
  have HBY : Hid (∀ w g v, Wr w W.heap.size g v (keyBytes k) → Calls Try.prog 53 #[.pointer (some ⟨g, 0, none⟩)] w fun e w' => ∃ v', e = .returned v' ∧ Below w.heap.size w w' ∧ w'.ownsRow w.heap.size 5 1 v' (keyBytes k).length (bc (keyBytes k))) := Lib.hid fun w g v h =>
    Bytes_any W.heap.size g v _ w h (by omega)
  generalize keyBytes k = KB at *
  clear hr hf hrd hkf he hkp
  unfold Cf.val at HK ⊢
  obtain ⟨g, so, kd, sz, sl, o, ga, la, ea, di⟩ := c
  obtain ⟨S, D, ws⟩ := k
  simp only at HK HP ⊢
  generalize ws.length = n at *
  go_enter Try.func19, Try.ntmps19
  go_wp2_with (first
    | (go_at_call 50; (with_reducible refine (HK.out _ ((below_alloc W _).alloc (by simp) _)).mono ?_); rintro e w1 ⟨rfl, hb⟩
       have bk1 : Bk w1 (W.heap.size + 1) 29 #[.string S, .int .i64 D, .slice A n cap] := (Bk.new' _ _ _ _ (by simp)).below hb
       have HB := Lib.hid (((below_alloc W _).alloc (by simp) _).trans (hb.mono (by simp; omega)))
       have hsz1 := hb.size
       simp only [World.size_alloc] at hsz1
       have z0 : w1.cell? ⟨W.heap.size + 1, 0, none⟩ = some (.string S) := bk1.cell 0
       have z1 : w1.cell? ⟨W.heap.size + 1, 1, none⟩ = some (.int .i64 D) := bk1.cell 1
       have z2 : w1.cell? ⟨W.heap.size + 1, 2, none⟩ = some (.slice A n cap) := bk1.cell 2
       clear hb bk1)
    | (go_at_call 51; (with_reducible refine (NewWriter_any _).mono ?_); rintro e w2 ⟨rfl, hw2⟩
       have HW2 := Lib.hid hw2
       have hsz2 : w2.heap.size = w1.heap.size + 1 := by rw [← hw2]; simp
       have HB2 : Hid (Below W.heap.size W w2) := Lib.hid (by rw [← hw2]; exact HB.out.alloc (by omega) _)
       have HWR : Hid (Wr w2 w2.heap.size w1.heap.size (.slice none 0 0) []) := Lib.hid (by rw [← hw2]; exact wr_new _ _)
       have y0 : w2.cell? ⟨W.heap.size + 1, 0, none⟩ = some (.string S) := by rw [← hw2]; exact ((below_alloc w1 _).cell (p := ⟨W.heap.size + 1, 0, none⟩) (by show W.heap.size + 1 < _; omega)).trans z0
       have y1 : w2.cell? ⟨W.heap.size + 1, 1, none⟩ = some (.int .i64 D) := by rw [← hw2]; exact ((below_alloc w1 _).cell (p := ⟨W.heap.size + 1, 1, none⟩) (by show W.heap.size + 1 < _; omega)).trans z1
       have y2 : w2.cell? ⟨W.heap.size + 1, 2, none⟩ = some (.slice A n cap) := by rw [← hw2]; exact ((below_alloc w1 _).cell (p := ⟨W.heap.size + 1, 2, none⟩) (by show W.heap.size + 1 < _; omega)).trans z2
       clear hw2 HW2)
    | (go_at_call 52; (with_reducible refine (HP.out _ _ _ HB2.out HWR.out (by omega)).mono ?_); rintro e w3 ⟨rfl, v3, hw3, hc3⟩
       have HW3 := Lib.hid hw3
       have HB3 : Hid (Below W.heap.size W w3) := Lib.hid (HB2.out.trans (hc3.below (by omega) (by omega) (fun r h => by simp [Value.ownBlock] at h)))
       clear hw3 hc3)
    | (go_at_call 53; (with_reducible refine (HBY.out _ _ _ HW3.out).mono ?_); rintro e w4 ⟨v4, rfl, hb4, ho4⟩
       have HB4 := Lib.hid hb4
       have HO4 := Lib.hid ho4
       clear hb4 ho4))
  go_ret2
  exact ⟨v4, rfl, HB3.out.trans (HB4.out.mono HB3.out.size), own_mono HO4.out HB3.out.size⟩
set_option maxRecDepth 100000 in
theorem Size_any (c : Cf) (hf : c.Fit) (k : Kn) (hkf : k.Fit) (kv : Value) (W : World) (hr : Rk W kv k) (hn : k.key.size + 90 * k.ws.length + 200 ≤ 140737488355328) :
    Calls Try.prog 22 #[c.val, kv] W fun e w' => e = .returned (.tuple #[.int .i64 (if putE c k = 0 then ((keyBytes k).length : Int) else 0), .int .i64 (putE c k)]) ∧ Below W.heap.size W w' := by
  have HP : Hid (∀ w, Below W.heap.size W w → Calls Try.prog 19 #[c.val, kv] w fun e w' => ∃ A cap, e = .returned (.tuple #[.slice A (if putE c k = 0 then (keyBytes k).length else 0) cap, .int .i64 (putE c k)]) ∧ Below w.heap.size w w') := Lib.hid fun w hb => by
    by_cases he : putE c k = 0
    · rw [if_pos he, he]
      refine (Put_ok c hf k hkf kv w (hr.below hb) he hn).mono fun e w' => ?_
      rintro ⟨v', rfl, h1, h2⟩
      obtain ⟨A, cap, rfl, _, _⟩ := ownsRow_shape h2
      exact ⟨A, cap, rfl, h1⟩
    · rw [if_neg he]
      refine (Put_bad c hf k kv w (hr.below hb) he).mono fun e w' => ?_
      rintro ⟨rfl, h1⟩
      exact ⟨none, 0, rfl, h1⟩
  obtain ⟨n, hnn⟩ : ∃ n : Nat, (if putE c k = 0 then (keyBytes k).length else 0) = n := ⟨_, rfl⟩
  have hz : (if putE c k = 0 then ((keyBytes k).length : Int) else 0) = (n : Int) := by rw [← hnn]; split <;> rfl
  rw [hnn] at HP
  rw [hz]
  generalize putE c k = z at *
  obtain ⟨A, cap, rfl, -⟩ := hr
  clear hnn hz hf hkf
  unfold Cf.val at HP ⊢
  obtain ⟨g, so, kd, sz, sl, o, ga, la, ea, di⟩ := c
  obtain ⟨S, D, ws⟩ := k
  simp only at HP ⊢
  generalize ws.length = m at *
  go_enter Try.func22, Try.ntmps22
  go_wp2_with (first
    | (go_at_call 19; (with_reducible refine (HP.out _ ((below_alloc W _).alloc (by simp) _)).mono ?_); rintro e w1 ⟨A1, cap1, rfl, hb⟩; have HB := Lib.hid hb; clear hb))
  go_ret2
  exact ⟨rfl, ((below_alloc W _).alloc (by simp) _).trans (HB.out.mono (by simp; omega))⟩
end Go.Proofs.Ytaechgnjdjijkaa
