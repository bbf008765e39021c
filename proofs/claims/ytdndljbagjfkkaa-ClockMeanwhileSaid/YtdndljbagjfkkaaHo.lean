/- Holds: the iterator over a clock's holds. -/
import Derived.RangeFuncNested
import Derived.RangeFuncBound
import Derived.RangeFuncCalls
import Derived.RangeFuncLeaves
import Derived.Shelf.Abstract
import Derived.Shelf.RegionOpen
import Derived.OwnWalkIn
import Derived.TacticsInMore
import Derived.LoopNIn
import Derived.LoopIn
import Derived.Clock
import Derived.Test.YtdndljbagjfkkaaItr
namespace Go.Proofs.Ytdndljbagjfkkaa
open Go.RowKit Go.Shelf Go.Lib
attribute [local go_sem] Oper.semAt_some
theorem wide_fn (f : Nat) : Fence.wide.fn f = True := rfl
theorem wide_depth : Fence.wide.depth.isSome = false := rfl
theorem wide_fn_in (l f : Nat) : (Fence.wide.inRound l).fn f = True := rfl
theorem wide_depth_in (l : Nat) : (Fence.wide.inRound l).depth.isSome = false := rfl
attribute [local go_sem] wide_fn wide_depth wide_fn_in wide_depth_in

/-- The names of a clock's holds, sorted. -/
theorem asc_names {H : List Hd} (h : Asc H) : (H.map fun x => x.name.data.toList).Pairwise (fun a b => leB a b = true) := by
  rw [List.pairwise_map]
  refine h.imp fun {a b} hab => ?_
  have := nlt_iff.1 hab
  rw [ByteArray.toList_eq, ByteArray.toList_eq] at this
  simp only [leB, decide_eq_true_eq]
  exact List.le_of_lt this
theorem asc_nodup {H : List Hd} (h : Asc H) : (H.map fun x => x.name.data.toList).Nodup := by
  unfold List.Nodup
  rw [List.pairwise_map]
  refine h.imp fun {a b} hab e => ?_
  rw [← ByteArray.toList_eq, ← ByteArray.toList_eq] at e
  rw [toList_inj e, nlt_irrefl] at hab
  cases hab
section
variable {w w' : World} {X : Nat → Prop} {c : Nat} {L : List Int} {n : Nat} {T : ByteArray → Option Int} {H : List Hd}
/-- What Holds reads of a clock. -/
theorem Ck.table (h : Ck w X c L n T) (ht : HT H T) : ∃ nb D, w.cell? ⟨c, 2, none⟩ = some (.map (some nb)) ∧ w.ownsMap Try.prog 9 Rh nb n D ∧ Maps.size D = n ∧ (H.map fun x => x.name.data.toList).Perm (strKeys D) ∧ H.length = n ∧
    ∀ W, Below w.heap.size w W → ∀ x ∈ H, x.name.size ≤ maxLen → ∃ (b : Nat) (at_ : Int), (Instr.lookup 68 (.map (some nb)) (.string x.name) false).run Try.prog W = .ok (.pointer (some ⟨b, 0, none⟩)) W ∧ Bk W b 82 #[.string x.name, .int .i64 x.tm, .int .i64 at_] := by
  obtain ⟨XH, mv, v, nb, f, nm, tm, N, hh⟩ := h
  obtain ⟨D, h1, h2, h3⟩ := hh.mp
  have hT : ∀ s, T s = none ↔ N s = none := fun s => hh.none_iff s
  have hcol : Collected D (fun _ => false) (H.map fun x => x.name.data.toList) := by
    refine ⟨asc_nodup ht.asc, fun x => ?_⟩
    have hk : Lit.string x = kn ⟨x.toArray⟩ := by unfold kn; rfl
    rw [hk]
    simp only [and_true]
    constructor
    · intro hm
      obtain ⟨y, hy, rfl⟩ := List.mem_map.1 hm
      have hTy := (ht.mem y.name y.tm).2 hy
      rcases hN : N y.name with _ | b
      · rw [(hT _).2 hN] at hTy; cases hTy
      · have := ((h3 y.name).2 b hN).1
        simpa using this
    · intro hm
      rcases hTx : T ⟨x.toArray⟩ with _ | t
      · rw [((h3 _).1 ((hT _).1 hTx))] at hm; cases hm
      · exact List.mem_map.2 ⟨⟨⟨x.toArray⟩, t⟩, (ht.mem _ _).1 hTx, by simp⟩
  have hperm := hcol.perm h1 kKeyed Try.underlying9 (fun _ => rfl)
  have hlen : (strKeys D).length = n := by
    obtain ⟨es, hD, -⟩ := h1.keysOf
    rw [← h2, hD]
    simp [strKeys, Maps.size]
  refine ⟨nb, D, hh.hs.blk.cell 2, h1, h2, hperm, by rw [← hlen, ← hperm.length_eq, List.length_map], fun W hW x hx hs => ?_⟩
  obtain ⟨k, hk, hnm, htm, hN⟩ := hh.some_at ((ht.mem x.name x.tm).2 hx)
  have hmW : Nm W nb n N := hh.mp.below hW
  obtain ⟨D', g1, g2, g3⟩ := hmW
  obtain ⟨hh', hat⟩ := (g3 x.name).2 _ hN
  obtain ⟨v', ps, hrun, hv⟩ := g1.lookup kKeyed Try.underlying68 (zHold W) (zd := .nil) (zp := []) rfl (kn_key hs)
  rw [hat] at hv
  rw [Rh_ptr hv] at hrun
  refine ⟨f k, k, hrun, ?_⟩
  have := (hh.hs.ent k hk).below hW
  rw [hnm, htm] at this
  exact this
end
theorem sorted_names {H : List Hd} (ha : Asc H) {ss K : List (List UInt8)} (hS : ss.Perm K) (hP : (H.map fun x => x.name.data.toList).Perm K) :
    (ss.mergeSort (fun x y => decide (x ≤ y))).map encStr = H.map (fun x => Value.string x.name) ∧ ss.length = H.length := by
  have h1 : ss.mergeSort leB = H.map fun x => x.name.data.toList := by
    rw [mergeSort_of_perm (hS.trans hP.symm)]
    exact List.mergeSort_of_pairwise (asc_names ha)
  refine ⟨?_, by rw [hS.length_eq, ← hP.length_eq, List.length_map]⟩
  show (ss.mergeSort leB).map encStr = _
  rw [h1, List.map_map]
  exact List.map_congr_left fun x _ => by simp [encStr]
/-- A round leaves the rows of holds that were made since alone. -/
def KpH (n0 : Nat) (W W' : World) : Prop := W.heap.size ≤ W'.heap.size ∧ ∀ k cs, n0 ≤ k → W.heap[k]? = some (.cells cs 82 (0, 0)) → cs.size ≠ 3 → W'.heap[k]? = W.heap[k]?
theorem KpH.refl (n0 : Nat) (W : World) : KpH n0 W W := ⟨Nat.le_refl _, fun _ _ _ _ _ => rfl⟩
theorem kpH_t {n0 : Nat} {A B C : World} (h : KpH n0 A B) (k : KpH n0 B C) : KpH n0 A C := ⟨Nat.le_trans h.1 k.1, fun j cs hj hc hs => by
  have h1 := h.2 j cs hj hc hs
  rw [k.2 j cs hj (h1.trans hc) hs, h1]⟩
theorem kpH_b {n0 : Nat} {w : World} (W : World) (l : Nat) (o o' : Obj) (_ : w.heap.size ≤ l) (hl : W.heap[l]? = some o) (hc : o.isCells = false) (_ : o.isWalk = false) : KpH n0 W (W.putObj l o') :=
  ⟨by simp, fun k cs _ hk _ => World.putObj_heap_other (fun e => by subst e; rw [hk] at hl; cases hl; cases hc)⟩
theorem kpH_below {n0 : Nat} {A B : World} (h : Below A.heap.size A B) : KpH n0 A B := ⟨h.size, fun k cs _ hc _ => h.block k (by
  rcases Nat.lt_or_ge k A.heap.size with h1 | h1
  · exact h1
  · rw [Array.getElem?_eq_none (by simpa using h1)] at hc; cases hc)⟩
theorem kpH_below0 {n0 : Nat} {A B : World} (h : A.heap.size ≤ B.heap.size) (hb : ∀ k, n0 ≤ k → k < A.heap.size → B.heap[k]? = A.heap[k]?) : KpH n0 A B := ⟨h, fun k cs hk hc _ => hb k hk (by
  rcases Nat.lt_or_ge k A.heap.size with h1 | h1
  · exact h1
  · rw [Array.getElem?_eq_none (by simpa using h1)] at hc; cases hc)⟩

/-- A row of holds, as it was copied. -/
def h3c (l : List (Hd × Int)) : List Value := l.flatMap fun p => [.string p.1.name, .int .i64 p.1.tm, .int .i64 p.2]
theorem h3c_length (l : List (Hd × Int)) : (h3c l).length = l.length * 3 := flat_length _ 3 (fun _ => rfl) l
theorem h3c_snoc (l : List (Hd × Int)) (x : Hd) (a : Int) : h3c (l ++ [(x, a)]) = h3c l ++ [.string x.name, .int .i64 x.tm, .int .i64 a] := by simp [h3c]
theorem h3c_at {l : List (Hd × Int)} {k : Nat} {p : Hd × Int} (hk : l[k]? = some p) : (h3c l)[k * 3]? = some (.string p.1.name) ∧ (h3c l)[k * 3 + 1]? = some (.int .i64 p.1.tm) ∧ (h3c l)[k * 3 + 2]? = some (.int .i64 p.2) :=
  ⟨flat_at _ 3 (fun _ => rfl) l k p hk 0 _ rfl, flat_at _ 3 (fun _ => rfl) l k p hk 1 _ rfl, flat_at _ 3 (fun _ => rfl) l k p hk 2 _ rfl⟩
/-- A row that was collected, to be read. -/
theorem h3_open {w : World} {B : Nat} {A : Option Addr} {m cap : Nat} {l : List (Hd × Int)} (h : w.ownsRow B 82 3 (.slice A m cap) m (h3c l)) (hm : 0 < m) :
    ∃ g cur, A = some ⟨g, 0, none⟩ ∧ B ≤ g ∧ g < w.heap.size ∧ w.heap[g]? = some (.cells cur 82 (0, 0)) ∧ cur.size = cap * 3 ∧ m ≤ cap := by
  rcases h.2 with ⟨_, h0⟩ | ⟨g, cap', cur, hv, hb, hg, hc, _, hs, _⟩
  · omega
  · cases hv
    refine ⟨g, cur, rfl, hb, ?_, hg, hs, hc⟩
    rcases Nat.lt_or_ge g w.heap.size with h1 | h1
    · exact h1
    · rw [Array.getElem?_eq_none (by simpa using h1)] at hg; cases hg
theorem holdInfo : (Try.prog.info? 82).map (fun i => (i.zero, i.size, i.bytes)) = some (some (.agg #[.string ⟨#[]⟩, .int .i64 0, .int .i64 0]), 3, 32) := by kernel_rfl
/-- What is handed over. -/
def hEnc (H : List Hd) (x : {h : Hd // h ∈ H}) : Array Value := #[.string x.1.name, .int .i64 x.1.tm]
set_option maxRecDepth 100000 in
theorem Holds_any (p : Option Addr) (w : World) : Calls Try.prog 20 #[.pointer p] w fun e w' => e = .returned (.func (.func 44) #[] #[.pointer (some ⟨w.heap.size, 0, none⟩)]) ∧ w.alloc (.cells #[.pointer p] 24) = w' := by
  go_enter Try.func20, Try.ntmps20
  go_wp2
  go_ret
  exact ⟨rfl, rfl⟩
set_option maxRecDepth 100000 in
set_option maxHeartbeats 2000000 in
theorem holds_in (n : Nat) (l B c : Nat) (X : Nat → Prop) (L : List Int) (nn : Nat) (T : ByteArray → Option Int) (H : List Hd) (n0 : Nat) (J Jx : List {h : Hd // h ∈ H} → World → Prop) (W : World)
    (hC : Ck W X c L nn T) (ht : HT H T) (hn : nn ≤ 4398046511104) (hsz : ∀ x ∈ H, x.name.size ≤ maxLen) (h0 : n0 ≤ W.heap.size) (hJ : AbidesFrom W.heap.size J)
    (hY : ∀ pre x W1, J pre W1 → pre.length < H.length → YieldAt Fence.wide (n - 1) Try.prog l (hEnc H x) W1 fun e W' =>
      (e = .returned (.bool true) ∧ J (pre ++ [x]) W' ∧ KpH n0 W1 W') ∨ (e = .returned (.bool false) ∧ Jx (pre ++ [x]) W'))
    (c1 : W.cell? ⟨B, 0, none⟩ = some (.pointer (some ⟨c, 0, none⟩))) (hJ0 : J [] W) :
    CallsIn Fence.wide n Try.prog 44 #[.func (.yield l) #[] #[], .pointer (some ⟨B, 0, none⟩)] W fun e W' => (∃ v, e = .returned v) ∧
      ((∃ xs, xs.map Subtype.val = H ∧ J xs W') ∨ (∃ pre, pre.map Subtype.val <+: H ∧ Jx pre W')) := by
  have HT0 := Lib.hid (there_any hC)
  obtain ⟨nb, D, c2, hown, hD, hperm, hHn, hlook⟩ := hC.table ht
  obtain ⟨i0, hi0, hz0, hz1, hz2⟩ := info_parts holdInfo
  have hBl : B < W.heap.size := Clock.block_lt c1
  have hcl : c < W.heap.size := Clock.block_lt c2
  have hown0 : (W.alloc (.cells #[] 82)).ownsMap Try.prog 9 Rh nb nn D := by
    have hbl := hown.lt
    obtain ⟨es, clock, hb, Ft, hs, hD'⟩ := hown
    exact ⟨es, clock, (Below.heap_alloc _ _ nb hbl).trans hb, Ft, hs, hD'⟩
  have hsk := Sorted_keys nb nn D Rh _ hown0 (by rw [hD]; unfold maxLen; omega) (by rw [hD]; omega)
  rw [World.size_alloc, World.size_alloc, World.size_alloc] at hsk
  have HSK := Lib.hid (callsIn_wide.1 hsk)
  have H00 : Hid (∀ w2, Below (W.heap.size + 1 + 1) ((W.alloc (.cells #[] 82)).alloc (.cells #[.map (some nb)] 68)) w2 → Below W.heap.size W w2 ∧ w2.ownsRow W.heap.size 82 3 (.slice (some ⟨W.heap.size, 0, none⟩) 0 0) 0 (h3c [])) := fun w2 hb2 => by
    have hsz2 : ((W.alloc (.cells #[] 82)).alloc (.cells #[.map (some nb)] 68)).heap.size = W.heap.size + 1 + 1 := by simp
    have h1 := below_alloc W (.cells #[] 82)
    have h2 := below_alloc (W.alloc (.cells #[] 82)) (.cells #[.map (some nb)] 68)
    refine ⟨(h1.trans (h2.mono (by simp))).trans (hb2.mono (by omega)), own_below (own_below (own_lit W #[] 0 W.heap.size rfl (Nat.le_refl _) (by decide) rfl) h2) (by rw [hsz2]; exact hb2)⟩
  have HLK := Lib.hid (fun (W' : World) (hW : Below W.heap.size W W') (x : Hd) (hx : x ∈ H) => hlook W' hW x hx (hsz x hx))
  have HP := Lib.hid hperm
  have HA := Lib.hid ht.asc
  have HJ := Lib.hid hJ
  have HHN := Lib.hid hHn
  have HYY := Lib.hid hY
  clear hC ht hown hD hperm hlook hsz hJ hHn hY hown0 hsk
  refine callsIn_of_wp Try.func44 rfl trivial ?_ rfl
  simp only [Try.ntmps44, List.size_toArray, List.length_cons, List.length_nil, Nat.reduceAdd, Nat.reduceSub, Array.replicate_succ, Array.replicate_zero, List.push_toArray, List.append_toArray, List.nil_append, List.cons_append]
  gi_wp2_with (first
    | (gi_at_call 34; refine (callsIn_wide.2 HT0.out).mono ?_; rintro e wn ⟨rfl, rfl⟩))
  gi_wp2_with (first
    | (gi_at_call 46; refine (callsIn_wide.2 (callsIn_wide.1 (maps_Keys _ _))).mono ?_; rintro e w1 ⟨rfl, rfl⟩)
    | (gi_at_call 45; refine (callsIn_wide.2 HSK.out).mono ?_; rintro e w2 ⟨v2, ss, rfl, hS, hrow, -, hb2⟩
       obtain ⟨hnm, hssl⟩ := sorted_names HA.out hS HP.out
       rw [hnm, hssl] at hrow
       obtain ⟨a2, cap2, rfl, hcl2, hcm2⟩ := ownsRow_shape hrow
       have HROW := Lib.hid (own_mono hrow (Nat.zero_le _))
       have HB2 := Lib.hid (H00.out w2 hb2)
       clear hS hrow hb2 hnm hssl))
  obtain ⟨m, hm⟩ : ∃ m, H.length = m := ⟨_, rfl⟩
  have HM := Lib.hid hm
  rw [hm] at HROW hcl2 HYY HHN ⊢
  have hm42 : m ≤ 4398046511104 := by have := HHN.out; omega
  unfold maxLen at hcm2
  clear hm
  gi_loopw [3, 19] (fun v i wr => ∃ (k : Nat) (l3 : List (Hd × Int)), i = .int .i64 (k : Int) ∧ k ≤ m ∧ l3.map Prod.fst = H.take k ∧ wr.ownsRow W.heap.size 82 3 v k (h3c l3) ∧ wr.ownsRow 0 9 1 (.slice a2 m cap2) m (H.map (fun x => Value.string x.name)) ∧ Below W.heap.size W wr) (fun _ i _ => m - (intOf i).toNat)
  case atStart => exact ⟨0, [], rfl, Nat.zero_le _, rfl, HB2.out.2, HROW.out, HB2.out.1⟩
  case round =>
    obtain ⟨k, l3, rfl, hk, hl3, ho, hn2, hb⟩ := hrel
    have HL3 := Lib.hid hl3
    have HO := Lib.hid ho
    have HN2 := Lib.hid hn2
    have HB := Lib.hid hb
    clear hl3 ho hn2 hb
    by_cases hkm : k < m
    · obtain ⟨x, hx⟩ : ∃ x, H[k]? = some x := ⟨_, List.getElem?_eq_getElem (by have := HM.out; omega)⟩
      obtain ⟨q, rfl, _, _, _, _, hq, _⟩ := ownsRow_at HN2.out (by omega)
      have z0 := hq k (.string x.name) (by rw [List.getElem?_map, hx]; rfl)
      have e1 := (HB.out.cell (p := ⟨B, 0, none⟩) hBl).trans c1
      have e2 := (HB.out.cell (p := ⟨c, 2, none⟩) hcl).trans c2
      obtain ⟨b, at_, hlk, hbk⟩ := HLK.out wr HB.out x (List.mem_of_getElem? hx)
      have y0 := hbk.cell 0
      have y1 := hbk.cell 1
      have y2 := hbk.cell 2
      have HX := Lib.hid hx
      have HNW := Lib.hid (news_lit wr #[.string x.name, .int .i64 x.tm, .int .i64 at_] 82 wr.heap.size rfl)
      have hsz := HB.out.size
      have hkm1 : (k : Int) < (m : Int) := by omega
      clear hx hq hbk
      gi_wp2_with (first
        | (gi_at_builtin; refine wpListIn_append_own _ rfl (.tmp 23) (.tmp 32) 88 rfl W.heap.size 82 i0 _ 3 32 Try.underlying88 hi0 hz0 hz1 hz2 rfl (by decide) _ k _ rfl (HO.out.alloc _) ⟨wr.heap.size, 0, none⟩ 1 1 [.string x.name, .int .i64 x.tm, .int .i64 at_] rfl rfl HNW.out (by simp [Value.oneCell']) (by simp only [maxLen]; omega) (by omega) (by simp; omega) ?_; intro v' w1 ho1 hg1 _
           have HOA := Lib.hid (HO.out.alloc (.cells #[.string x.name, .int .i64 x.tm, .int .i64 at_] 82))
           have HB1 := Lib.hid ((HB.out.alloc hsz (.cells #[.string x.name, .int .i64 x.tm, .int .i64 at_] 82)).grown hg1 (by simp; omega) (fun r e => (HOA.out.lt r e).1))
           have HN1 := Lib.hid ((HN2.out.alloc (.cells #[.string x.name, .int .i64 x.tm, .int .i64 at_] 82)).kept hg1 (own_own_ne (HN2.out.alloc _) HOA.out (by decide)))
           have HO1 := Lib.hid ho1
           clear ho1 hg1))
      go_roundw
      case rel =>
        refine ⟨k + 1, l3 ++ [(x, at_)], by go_num, by omega, ?_, ?_, HN1.out, HB1.out⟩
        · rw [List.map_append, HL3.out, List.take_add_one, HX.out]; rfl
        · rw [h3c_snoc]; exact HO1.out
      case measure => simp [intOf]; omega
    · obtain rfl : k = m := by omega
      obtain ⟨wl, rfl⟩ : ∃ wl : World, wl = wr := ⟨_, rfl⟩
      obtain ⟨A, cap, rfl, _, _⟩ := ownsRow_shape HO.out
      have HG : Hid (0 < k → ∃ g cur, A = some ⟨g, 0, none⟩ ∧ W.heap.size ≤ g ∧ g < wl.heap.size ∧ wl.heap[g]? = some (.cells cur 82 (0, 0)) ∧ cur.size = cap * 3 ∧ k ≤ cap) := fun h => h3_open HO.out h
      have HC : Hid (0 < k → ∀ g, A = some ⟨g, 0, none⟩ → ∀ j p, l3[j]? = some p → wl.cell? ⟨g, j * 3, none⟩ = some (.string p.1.name) ∧ wl.cell? ⟨g, j * 3 + 1, none⟩ = some (.int .i64 p.1.tm) ∧ wl.cell? ⟨g, j * 3 + 2, none⟩ = some (.int .i64 p.2)) := fun h g e j p hp => by
        obtain ⟨g', e', _, _, _, _, hc, _⟩ := ownsRow_at HO.out h
        rw [e] at e'; cases e'
        obtain ⟨q0, q1, q2⟩ := h3c_at hp
        exact ⟨hc _ _ q0, hc _ _ q1, hc _ _ q2⟩
      have HLH : Hid (∀ j, j < k → ∃ p, l3[j]? = some p ∧ H[j]? = some p.1) := fun j hj => by
        have e := HL3.out
        rw [List.take_of_length_le (by rw [HM.out]; exact Nat.le_refl _)] at e
        have hl : l3.length = k := by rw [← HM.out, ← e, List.length_map]
        refine ⟨_, List.getElem?_eq_getElem (by omega), ?_⟩
        rw [← e, List.getElem?_map, List.getElem?_eq_getElem (by omega)]; rfl
      have hJ1 := HJ.out [] W wl none hJ0 (below_grown HB.out none) (fun r e => by cases e)
      have hsl := HB.out.size
      clear hJ0
      gi_wp2
      gi_loopw [37] (fun i wr => ∃ (j : Nat) (pre : List {h : Hd // h ∈ H}), i = .int .i64 (j : Int) ∧ j ≤ k ∧ pre.map Subtype.val = H.take j ∧ J pre wr ∧ (j < k → ∀ g, A = some ⟨g, 0, none⟩ → wr.heap[g]? = wl.heap[g]?) ∧ wl.heap.size ≤ wr.heap.size) (fun i _ => k - (intOf i).toNat)
      case atStart => exact ⟨0, [], rfl, Nat.zero_le _, rfl, hJ1, fun _ _ _ => rfl, Nat.le_refl _⟩
      case round =>
        obtain ⟨j, pre, rfl, hj, hpre, hJs, hkeep, hwz⟩ := hrel
        have HPRE := Lib.hid hpre
        have HKE := Lib.hid hkeep
        clear hpre hkeep
        by_cases hjk : j < k
        · obtain ⟨p, hp, hHp⟩ := HLH.out j hjk
          obtain ⟨g, cur, rfl, hg1, hg2, hgc, hcs, hkc⟩ := HG.out (by omega)
          obtain ⟨q0, q1, q2⟩ := HC.out (by omega) g rfl j p hp
          have hsame := HKE.out hjk g rfl
          have z0 := (World.cell?_of_block (a := ⟨g, j * 3, none⟩) hsame).trans q0
          have z1 := (World.cell?_of_block (a := ⟨g, j * 3 + 1, none⟩) hsame).trans q1
          have z2 := (World.cell?_of_block (a := ⟨g, j * 3 + 2, none⟩) hsame).trans q2
          have HGC : Hid (wr.heap[g]? = some (.cells cur 82 (0, 0))) := hsame.trans hgc
          have HSAME := Lib.hid hsame
          have HHP := Lib.hid hHp
          have hJ2 := HJ.out pre wr (wr.alloc (.cells #[.string p.1.name, .int .i64 p.1.tm, .int .i64 p.2] 82)) none hJs (World.grownBy_alloc wr _ none) (fun r e => by cases e)
          have hplen : pre.length < k := by
            have := congrArg List.length HPRE.out
            rw [List.length_map, List.length_take] at this
            omega
          obtain ⟨x, hxp⟩ : ∃ x : {h : Hd // h ∈ H}, x.1 = p.1 := ⟨⟨p.1, List.mem_of_getElem? hHp⟩, rfl⟩
          have HXP := Lib.hid hxp
          obtain ⟨fn, tmps, assign, body, hy, hR⟩ := HYY.out pre x _ hJ2 hplen
          simp only [hEnc, hxp] at hy
          have hjk1 : (j : Int) < (k : Int) := by omega
          have HCS := Lib.hid hcs
          clear hp hHp hgc hsame q0 q1 q2 hcs hxp
          gi_wp2
          refine hR.mono ?_
          have HPX : Hid ((pre ++ [x]).map Subtype.val = H.take (j + 1)) := by
            show _ = _
            rw [List.map_append, HPRE.out, List.take_add_one, HHP.out]; simp [HXP.out]
          rintro e W3 (⟨rfl, hJ3, hk3⟩ | ⟨rfl, hJx3⟩)
          · have HK3 := Lib.hid hk3
            have hs3 := hk3.1
            clear hk3
            gi_wp2
            go_roundw
            case rel =>
              refine ⟨j + 1, pre ++ [x], by go_num, by omega, HPX.out, hJ3, fun hlt g' hg' => ?_, by simp at hs3; omega⟩
              cases hg'
              have hgr : g < wr.heap.size := by omega
              have e1 : (wr.alloc (.cells #[.string p.1.name, .int .i64 p.1.tm, .int .i64 p.2] 82)).heap[g]? = wr.heap[g]? := (below_alloc wr _).block g hgr
              have e2 := HK3.out.2 g cur (by omega) (e1.trans HGC.out) (by have := HCS.out; omega)
              rw [e2, e1]
              exact HSAME.out
            case measure => simp [intOf]; omega
          · gi_wp2
            refine bodyPost_ret (results_none rfl _ _ _) rfl ?_
            exact ⟨⟨_, rfl⟩, .inr ⟨pre ++ [x], by rw [HPX.out]; exact List.take_prefix _ _, hJx3⟩⟩
        · obtain rfl : j = k := by omega
          gi_wp2
          go_end0
          refine ⟨⟨_, rfl⟩, .inl ⟨pre, ?_, hJs⟩⟩
          rw [HPRE.out, List.take_of_length_le (by rw [HM.out]; exact Nat.le_refl _)]
end Go.Proofs.Ytdndljbagjfkkaa
