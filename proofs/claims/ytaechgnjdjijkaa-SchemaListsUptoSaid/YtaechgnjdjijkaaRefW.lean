/- RefW: RefBytes, RefPut. -/
import Derived.Test.YtaechgnjdjijkaaRefKey
import Derived.Test.YtaechgnjdjijkaaPutW
import Derived.Test.YtaechgnjdjijkaaWire2
import Derived.Test.YtaechgnjdjijkaaBacks
import Derived.Test.YtaechgnjdjijkaaJobs
import Derived.Deep.DeepCutAuto
import Derived.Deep.RegionHeld3
/- The document's bytes of a key's state. -/
namespace Go.Proofs.Ytaechgnjdjijkaa
open Go.RowKit Go.Lib

/-- Bytes of the call's own, with room for so many numbers. -/
structure Buf (w : World) (B : Nat) (v : Value) (cur : List UInt8) (r : Nat) : Prop where
  own : w.ownsRow B 5 1 v cur.length (bc cur)
  room : cur.length + 10 * r ≤ 140737488355328
  base : B ≤ w.heap.size
theorem Buf.below {w w' : World} {B : Nat} {v : Value} {cur : List UInt8} {r : Nat} (h : Buf w B v cur r) (hb : Below w.heap.size w w') : Buf w' B v cur r := ⟨own_below h.own hb, h.room, Nat.le_trans h.base hb.size⟩
theorem Buf.next {w w' : World} {B : Nat} {v v' : Value} {cur nz : List UInt8} {r : Nat} (h : Buf w B v cur (r + 1)) (ho : w'.ownsRow B 5 1 v' (cur.length + nz.length) (bc cur ++ bc nz)) (hs : w.heap.size ≤ w'.heap.size) (hz : nz.length ≤ 10) : Buf w' B v' (cur ++ nz) r := by
  refine ⟨?_, ?_, Nat.le_trans h.base hs⟩
  · rw [List.length_append, bc_append]; exact ho
  · have := h.room; rw [List.length_append]; omega
theorem wpList_buf {ops : Array Oper} {rest : List Oper} {o : Oper} {a : Act} {w : World} {Q : Exit → Act → World → Prop} (hgd : o.guard = none) (s x : Operand) (ho : o.op = .call { callee := .builtin .append, args := #[s, x], argTypes := #[25, 25] })
    {B : Nat} {v : Value} {cur nz : List UInt8} {r : Nat} (h : Buf w B v cur (r + 1)) (hs : a.eval s = v) {A : Option Addr} {n c : Nat} (hx : a.eval x = .slice A n c) (hr : Rd w (.slice A n c) n (bc nz)) (hn : nz.length = n) (hz : nz.length ≤ 10)
    (K : ∀ v' w', Buf w' B v' (cur ++ nz) r → Grew w w' v v' → wpList Try.prog ops Q rest (a.put o.dst v') w') : wpList Try.prog ops Q (o :: rest) a w := by
  obtain ⟨i0, hi0, hz0, hz1, hz2⟩ := info_parts u8Info
  have hroom := h.room
  subst hn
  refine wpList_append_rd w hgd s x 25 ho B 5 i0 _ 1 1 Try.underlying25 hi0 hz0 hz1 hz2 rfl (by decide) v cur.length _ hs h.own A nz.length c (bc nz) hx (by rw [bc_length, Nat.mul_one]) hr (bc_one _) (by simp only [maxLen]; omega) (by omega) h.base ?_
  intro v' w' ho' hg' hat'
  exact K v' w' (h.next ho' hg'.size hz) (Grew.of_append hg' hat')
theorem step_buf {ops : Array Oper} {o : Oper} {a : Act} {w : World} {K : Act → World → Prop} {Q : Exit → Act → World → Prop} {E : Prop} (hgd : o.guard = none) (s x : Operand) (ho : o.op = .call { callee := .builtin .append, args := #[s, x], argTypes := #[25, 25] })
    {B : Nat} {v : Value} {cur nz : List UInt8} {r : Nat} (h : Buf w B v cur (r + 1)) (hs : a.eval s = v) {A : Option Addr} {n c : Nat} (hx : a.eval x = .slice A n c) (hr : Rd w (.slice A n c) n (bc nz)) (hn : nz.length = n) (hz : nz.length ≤ 10)
    (hK : ∀ v' w', Buf w' B v' (cur ++ nz) r → Grew w w' v v' → K (a.put o.dst v') w') : if Region.wanted o (yielded ops a.tmps) = true then Oper.wp Try.prog o a w K Q else E := by
  obtain ⟨i0, hi0, hz0, hz1, hz2⟩ := info_parts u8Info
  have hroom := h.room
  subst hn
  exact step_append_rd hgd s x 25 ho B 5 i0 _ 1 1 Try.underlying25 hi0 hz0 hz1 hz2 rfl (by decide) v cur.length _ hs h.own A nz.length c (bc nz) hx (by rw [bc_length, Nat.mul_one]) hr (bc_one _) (by simp only [maxLen]; omega) (by omega) h.base fun v' w' ho' hg' => hK v' w' (h.next ho' hg'.only.size hz) hg'
theorem num_w (y : Int) (w : World) (h0 : 0 ≤ y) (h1 : y < 18446744073709551616) :
    Calls Try.prog 73 #[.int .u64 y] w fun e w' => ∃ A c, e = .returned (.slice A (num7 y.toNat).length c) ∧ Below w.heap.size w w' ∧ Rd w' (.slice A (num7 y.toNat).length c) (num7 y.toNat).length (bc (num7 y.toNat)) := by
  have h := refNumber_any y.toNat w (by omega)
  rw [Int.toNat_of_nonneg h0] at h
  refine h.mono fun e w' => ?_
  rintro ⟨v', rfl, hb, ho⟩
  obtain ⟨A, c, rfl, -, -⟩ := ownsRow_shape ho
  exact ⟨A, c, rfl, hb, Rd.of_owns ho⟩
set_option maxRecDepth 100000 in
theorem refSigned_any (x : Int) (w : World) (hx : In64 x) :
    Calls Try.prog 74 #[.int .i64 x] w fun e w' => ∃ A c, e = .returned (.slice A (num7 (zig x)).length c) ∧ Below w.heap.size w w' ∧ Rd w' (.slice A (num7 (zig x)).length c) (num7 (zig x)).length (bc (num7 (zig x))) := by
  have HF := Lib.hid (refFold_any x w hx.1 hx.2)
  have HN := Lib.hid (refNumber_any (zig x) w (zig_lt hx.1 hx.2))
  clear hx
  generalize num7 (zig x) = nz at *
  go_enter Try.func74, Try.ntmps74
  go_wp2_with (first
    | (go_at_call 93; (with_reducible refine HF.out.mono ?_); rintro e wq ⟨rfl, rfl⟩)
    | (go_at_call 73; (with_reducible refine HN.out.mono ?_); rintro e w2 ⟨v2, rfl, hb2, ho2⟩
       have HB2 := Lib.hid hb2
       have HO2 := Lib.hid ho2
       clear hb2 ho2))
  go_ret
  obtain ⟨A, c, rfl, -, -⟩ := ownsRow_shape HO2.out
  exact ⟨A, c, rfl, HB2.out, Rd.of_owns HO2.out⟩
/-- Where the bytes stand: what has been written, the window, the key's state. -/
structure Bst (W w : World) (v : Value) (cur : List UInt8) (r : Nat) (gx : Nat) (x : Wn) (gk : Nat) (ka : Array Value) : Prop where
  buf : Buf w W.heap.size v cur r
  bel : Below W.heap.size W w
  bx : Bk w gx 93 x.arr
  bk : Bk w gk 29 ka
section
variable {W w w' : World} {v v' : Value} {cur nz : List UInt8} {r gx gk : Nat} {x : Wn} {ka : Array Value}
theorem Bst.call (h : Bst W w v cur r gx x gk ka) (hb : Below w.heap.size w w') : Bst W w' v cur r gx x gk ka := ⟨h.buf.below hb, below_trans h.bel hb, h.bx.below hb, h.bk.below hb⟩
theorem Bst.app (h : Bst W w v cur (r + 1) gx x gk ka) (hb : Buf w' W.heap.size v' (cur ++ nz) r) (hg : Grew w w' v v') : Bst W w' v' (cur ++ nz) r gx x gk ka :=
  ⟨hb, h.bel.grown hg.only h.buf.base (fun _ e => (own_lt h.buf.own e).1), h.bx.grew hg (own_bk_ne h.buf.own h.bx (by decide)), h.bk.grew hg (own_bk_ne h.buf.own h.bk (by decide))⟩
end
theorem num_n (d : Nat) (w : World) (hd : d < 18446744073709551616) :
    Calls Try.prog 73 #[.int .u64 (d : Int)] w fun e w' => ∃ A c, e = .returned (.slice A (num7 d).length c) ∧ Below w.heap.size w w' ∧ Rd w' (.slice A (num7 d).length c) (num7 d).length (bc (num7 d)) := by
  have h := num_w (d : Int) w (by omega) (by omega)
  rwa [Int.toNat_natCast] at h
theorem win9 (last : Option Int) (x : Wn) (cur : List UInt8) : cur ++ num7 (fnum last x 0) ++ num7 (fnum last x 1) ++ num7 (fnum last x 2) ++ num7 (fnum last x 3) ++ num7 (fnum last x 4) ++ num7 (fnum last x 5) ++ num7 (fnum last x 6) ++ num7 (fnum last x 7) ++ num7 (fnum last x 8) = cur ++ winTo last x 9 := by
  rw [winTo_succ, winTo_succ, winTo_succ, winTo_succ, winTo_succ, winTo_succ, winTo_succ, winTo_succ, winTo_succ]
  simp [winTo]
theorem Buf.to {w : World} {B : Nat} {v : Value} {cur cur' : List UInt8} {r r' : Nat} (h : Buf w B v cur r) (e : cur = cur') (e2 : r = r') : Buf w B v cur' r' := by subst e; subst e2; exact h
set_option maxRecDepth 100000 in
set_option maxHeartbeats 2000000 in
theorem refBytes_any (k : Kn) (kv : Value) (W : World) (hr : Rk W kv k) (hf : k.Fit) (ses : Bool) (hok : KeyP ses k) (hn : k.key.size + 90 * k.ws.length + 200 ≤ 140737488355328) :
    Calls Try.prog 48 #[kv] W fun e w' => ∃ v', e = .returned v' ∧ Below W.heap.size W w' ∧ w'.ownsRow W.heap.size 5 1 v' (keyBytes k).length (bc (keyBytes k)) := by
  obtain ⟨A, cap, rfl, hrd⟩ := hr
  have HR := Lib.hid hrd
  have H9 := Lib.hid (wr9_of hok hf)
  have hd := wi_iff.1 hok.2.1
  obtain ⟨S, D, ws⟩ := k
  simp only at hn hrd hd HR H9 ⊢
  obtain ⟨n, hnn⟩ : ∃ n, ws.length = n := ⟨_, rfl⟩
  obtain ⟨PRE, hPRE⟩ : ∃ PRE, ((num7 S.size ++ S.data.toList) ++ num7 D.toNat) ++ num7 n = PRE := ⟨_, rfl⟩
  have HKB : Hid (keyBytes ⟨S, D, ws⟩ = PRE ++ winsTo ws n) := Lib.hid (by rw [← hPRE, ← hnn]; rfl)
  rw [hnn] at hn hrd HR ⊢
  have HNN := Lib.hid hnn
  have HPRE := Lib.hid hPRE
  have hcap : n ≤ cap ∧ cap ≤ maxLen := by obtain ⟨_, _, hv, h1, h2, _⟩ := hrd; cases hv; exact ⟨h1, h2⟩
  unfold maxLen at hcap
  obtain ⟨hcap1, hcap2⟩ := hcap
  have HT := Lib.hid fun w => refText_any S w (by omega)
  have HNW := Lib.hid num_w
  have htl : (num7 S.size ++ S.data.toList).length ≤ S.size + 10 := by
    have := num7_le S.size (by omega)
    have h2 : S.data.toList.length = S.size := rfl
    rw [List.length_append]; omega
  obtain ⟨TX, hTX⟩ : ∃ TX, num7 S.size ++ S.data.toList = TX := ⟨_, rfl⟩
  rw [hTX] at HT htl
  have HTX := Lib.hid hTX
  obtain ⟨hd1, hd2⟩ := hd
  have l1 := num7_le D.toNat (by omega)
  have l2 := num7_le n (by omega)
  clear hrd hf hok hnn hPRE hTX
  go_enter Try.func48, Try.ntmps48
  go_wp2_with fail
  refine (HT.out _).mono ?_
  rintro e w1 ⟨v1, rfl, hb1, ho1⟩
  have HK1 : Hid (Bk w1 W.heap.size 29 #[.string S, .int .i64 D, .slice A n cap]) := Lib.hid ((Bk.new W _ _).below hb1)
  have HB1 : Hid (Below W.heap.size W w1) := Lib.hid (below_trans (below_alloc W _) hb1)
  have HBUF1 : Hid (Buf w1 W.heap.size v1 TX (9 * n + 1 + 1)) := Lib.hid ⟨own_mono ho1 (by simp), by omega, HB1.out.size⟩
  have k1 : w1.cell? ⟨W.heap.size, 1, none⟩ = some (.int .i64 D) := HK1.out.cell 1
  clear hb1 ho1
  go_wp2_with fail
  refine (HNW.out D _ hd1 (by omega)).mono ?_
  rintro e w2 ⟨A2, c2, rfl, hb2, hr2⟩
  have HK2 := Lib.hid (HK1.out.below hb2)
  have HB2 := Lib.hid (below_trans HB1.out hb2)
  have HBUF2 := Lib.hid (HBUF1.out.below hb2)
  have HV2 := Lib.hid hr2
  clear hb2 hr2 k1
  go_wp2_with (first
    | (at_builtin; refine wpList_buf rfl (.tmp 9) (.tmp 13) rfl HBUF2.out rfl rfl HV2.out rfl l1 ?_; intro v3 w3 hb3 hg3; have HBUF3 := Lib.hid hb3; have HK3 := Lib.hid (HK2.out.grew hg3 (own_bk_ne HBUF2.out.own HK2.out (by decide))); have HB3 := Lib.hid (HB2.out.grown hg3.only HB2.out.size (fun _ e => (own_lt HBUF2.out.own e).1)); have k2 : w3.cell? ⟨W.heap.size, 2, none⟩ = some (.slice A n cap) := HK3.out.cell 2; clear hb3 hg3)
    | fail)
  refine (HNW.out (n : Int) _ (by omega) (by omega)).mono ?_
  rintro e w4 ⟨A4, c4, rfl, hb4, hr4⟩
  simp only [Int.toNat_natCast] at hr4 ⊢
  have HK4 := Lib.hid (HK3.out.below hb4)
  have HB4 := Lib.hid (below_trans HB3.out hb4)
  have HBUF4 := Lib.hid (HBUF3.out.below hb4)
  have HV4 := Lib.hid hr4
  clear hb4 hr4 k2
  go_wp2_with (first
    | (at_builtin; refine wpList_buf rfl (.tmp 15) (.tmp 20) rfl HBUF4.out rfl rfl HV4.out rfl l2 ?_; intro v5 w5 hb5 hg5; have HBUF5 := Lib.hid hb5; have HK5 := Lib.hid (HK4.out.grew hg5 (own_bk_ne HBUF4.out.own HK4.out (by decide))); have HB5 := Lib.hid (HB4.out.grown hg5.only HB4.out.size (fun _ e => (own_lt HBUF4.out.own e).1)); clear hb5 hg5))
  have HX5 : Hid (Buf w5 W.heap.size v5 (PRE ++ winsTo ws 0) (9 * (n - 0))) := Lib.hid (HBUF5.out.to (by rw [← HTX.out, HPRE.out]; simp [winsTo]) rfl)
  go_loopw [3, 4] (fun v q wr => ∃ i : Nat, q = .int .i64 i ∧ i ≤ n ∧ Buf wr W.heap.size v (PRE ++ winsTo ws i) (9 * (n - i)) ∧ Bk wr W.heap.size 29 #[.string S, .int .i64 D, .slice A n cap] ∧ Below W.heap.size W wr) (fun _ q _ => n - (intOf q).toNat)
  case atStart => exact ⟨0, rfl, Nat.zero_le _, HX5.out, HK5.out, HB5.out⟩
  case round =>
    obtain ⟨i, rfl, hi, hbuf, hbk, hbel⟩ := hrel
    have k2 : wr.cell? ⟨W.heap.size, 2, none⟩ = some (.slice A n cap) := hbk.cell 2
    by_cases hin : i < n
    · obtain ⟨x, hx⟩ : ∃ x, ws[i]? = some x := ⟨_, List.getElem?_eq_getElem (by have := HNN.out; omega)⟩
      obtain ⟨g, off, rfl, hgl, hwn⟩ := rd_win (HR.out.below hbel) hx HNN.out
      obtain ⟨c0, c1, c2', c3, c4', c5, c6, c7, c8⟩ := hwn
      have h9 := H9.out i x hx
      obtain ⟨p1, p2, p3, p4, p5, p6⟩ := okW_parts h9.ok
      obtain ⟨last, hlast⟩ : ∃ last, lastOf ws i = last := ⟨_, rfl⟩
      have hwa : winAt ws i = winTo last x 9 := by unfold winAt; rw [hx, hlast]
      obtain ⟨m, hm⟩ : ∃ m, n - i = m + 1 := ⟨n - i - 1, by omega⟩
      obtain ⟨cur, hcur⟩ : ∃ cur, PRE ++ winsTo ws i = cur := ⟨_, rfl⟩
      have HCUR : Hid (PRE ++ winsTo ws (i + 1) = cur ++ winTo last x 9) := Lib.hid (by rw [winsTo_succ, hwa, ← List.append_assoc, hcur])
      have HS : Hid (Bst W (wr.alloc (.cells x.arr 93)) u3 cur (9 * m + 1 + 1 + 1 + 1 + 1 + 1 + 1 + 1 + 1) wr.heap.size x W.heap.size #[.string S, .int .i64 D, .slice (some ⟨g, off, none⟩) n cap]) :=
        Lib.hid ⟨(hbuf.to hcur (by omega)).below (below_alloc wr _), below_trans hbel (below_alloc wr _), Bk.new wr _ _, hbk.alloc _⟩
      have HXF := Lib.hid h9.fit
      rw [hlast] at h9
      have H9X := Lib.hid h9
      have HL := Lib.hid hlast
      have HX := Lib.hid hx
      have HM := Lib.hid hm
      have HBE := Lib.hid hbel
      have HGL := Lib.hid hgl
      have hszr := hbel.size
      clear hbuf hbk hbel hx hlast hwa hcur hm h9 hgl
      unfold Wn.arr at HS
      go_upto_if 35 with (fail)
      obtain ⟨w1', hw1'⟩ : ∃ w1', (wr.alloc (.cells #[.int .i64 x.s, .int .i64 x.e, .int .i64 x.h, .int .i64 x.c, .int .i64 x.u, .int .i64 x.lo, .int .i64 x.hi, .int .i64 x.si, .int .i64 x.pa] 93)) = w1' := ⟨_, rfl⟩
      rw [hw1'] at HS ⊢
      have HWB : Hid (Below wr.heap.size wr w1') := Lib.hid (by subst hw1'; exact below_alloc wr _)
      clear hw1'
      obtain ⟨gx, hgx⟩ : ∃ gx, wr.heap.size = gx := ⟨_, rfl⟩
      have HGX := Lib.hid hgx
      rw [hgx] at HS hszr ⊢
      clear hgx c0 c1 c2' c3 c4' c5 c6 c7 c8 k2
      go_cut [3] (fun s3 wx => Bst W wx s3 (cur ++ num7 (fnum last x 0)) (9 * m + 1 + 1 + 1 + 1 + 1 + 1 + 1 + 1) gx x W.heap.size #[.string S, .int .i64 D, .slice (some ⟨g, off, none⟩) n cap])
      case first =>
        cases i with
        | zero =>
          have hl0 : last = none := by rw [← HL.out]; rfl
          subst hl0
          have z0 : w1'.cell? ⟨gx, 0, none⟩ = some (.int .i64 x.s) := HS.out.bx.cell 0
          go_wp2_with fail
          refine (refSigned_any x.s _ HXF.out.s).mono ?_
          rintro e wa ⟨A0, n0, rfl, hb0, hr0⟩
          have HSA := Lib.hid (HS.out.call hb0)
          have HV0 := Lib.hid hr0
          clear hb0 hr0 z0
          go_wp2_with (first | (at_builtin; refine wpList_buf rfl _ _ rfl HSA.out.buf rfl rfl HV0.out rfl (num7_le _ (fnum_lt H9X.out 0)) ?_; intro v0 wb0 hb0 hg0; have HSB := Lib.hid (HSA.out.app hb0 hg0); clear hb0 hg0))
          go_meet
          exact HSB.out
        | succ k =>
          obtain ⟨y, hy⟩ : ∃ y, ws[k]? = some y := ⟨_, List.getElem?_eq_getElem (by have := HNN.out; omega)⟩
          obtain ⟨g', off', hA, hgW, hyn⟩ := rd_win HR.out hy HNN.out
          cases hA
          have hl0 : last = some y.s := by rw [← HL.out]; unfold lastOf; rw [if_neg (by omega), Nat.add_sub_cancel, hy]; rfl
          have hle := (H9X.out.le y.s hl0).2
          have hyI := (H9X.out.le y.s hl0).1
          have HZ : Hid (∀ w v c r, Bst W w v c r gx x W.heap.size #[.string S, .int .i64 D, .slice (some ⟨g, off, none⟩) n cap] → w.cell? ⟨gx, 0, none⟩ = some (.int .i64 x.s) ∧ w.cell? ⟨g, off + k * 9, none⟩ = some (.int .i64 y.s) ∧ w.cell? ⟨W.heap.size, 2, none⟩ = some (.slice (some ⟨g, off, none⟩) n cap)) := Lib.hid fun w v c r h =>
            ⟨h.bx.cell 0, (h.bel.cell (p := ⟨g, off + k * 9, none⟩) hgW).trans hyn.c0, h.bk.cell 2⟩
          have hdd : IntKind.u64.wrap (IntKind.u64.wrap x.s - IntKind.u64.wrap y.s) = ((fnum last x 0 : Nat) : Int) := by
            rw [hl0]
            show _ = (((x.s - y.s).toNat : Nat) : Int)
            have := HXF.out.s
            unfold In64 at *
            rw [IntKind.wrap_u64, IntKind.wrap_u64, IntKind.wrap_u64]
            omega
          have HNk := Lib.hid (num_n (fnum last x 0) w1'.drew (fnum_lt H9X.out 0))
          rw [← hdd] at HNk
          obtain ⟨z0, zy, k2⟩ := HZ.out _ _ _ _ HS.out
          clear hy hyn hl0 hle hyI hdd hgW
          have hw1 : IntKind.i64.wrap ((k : Int) + 1 - 1) = (k : Int) := by rw [Int.add_sub_cancel]; exact IntWalk.i64_in _ (by omega)
          have hw2 : IntKind.i64.wrap ((k : Int) + 1) = (k : Int) + 1 := IntWalk.i64_in _ (by omega)
          have hw3 : IntKind.i64.wrap (k : Int) = (k : Int) := IntWalk.i64_in _ (by omega)
          have hj0 : (0 : Int) ≤ (k : Int) := by omega
          have hj2 : (k : Int) < (n : Int) := by omega
          have hk1 : k < n := by omega
          go_wp2
          go_region_held3 (fun w => w.cell? ⟨gx, 0, none⟩ = some (.int .i64 x.s) ∧ w.cell? ⟨g, off + k * 9, none⟩ = some (.int .i64 y.s) ∧ w.cell? ⟨W.heap.size, 2, none⟩ = some (.slice (some ⟨g, off, none⟩) n cap))
            (first
              | exact ⟨z0, zy, k2⟩
              | exact HZ.out _ _ _ _ HSA.out
              | exact HZ.out _ _ _ _ HSB.out)
            ((first
              | (go_at_call 73; (with_reducible refine HNk.out.mono ?_); rintro e wa ⟨A0, n0, rfl, hb0, hr0⟩; have HSA := Lib.hid (HS.out.call (below_trans (below_drew w1') hb0)); have HV0 := Lib.hid hr0; clear hb0 hr0)
              | (refine step_buf (by rfl) (.tmp 42) (.tmp 57) (by rfl) HSA.out.buf (by rfl) (by rfl) HV0.out rfl (num7_le _ (fnum_lt H9X.out 0)) ?_; intro v0 wb0 hb0 hg0; have HSB := Lib.hid (HSA.out.app hb0 hg0); clear hb0 hg0)))
          go_wp2
          go_meet
          exact HSB.out
      case rest =>
        have HS3 := Lib.hid hcut
        have hE : IntKind.u64.wrap (IntKind.u64.wrap (IntKind.u64.wrap x.e - IntKind.u64.wrap x.s) - 1) = ((fnum last x 1 : Nat) : Int) := by
          show _ = (((x.e - x.s - 1).toNat : Nat) : Int)
          rw [IntKind.wrap_u64, IntKind.wrap_u64, IntKind.wrap_u64, IntKind.wrap_u64]
          omega
        have HN1 := Lib.hid (num_n (fnum last x 1) wc (fnum_lt H9X.out 1))
        rw [← hE] at HN1
        clear hE
        have z0 : wc.cell? ⟨gx, 0, none⟩ = some (.int .i64 x.s) := hcut.bx.cell 0
        have z1 : wc.cell? ⟨gx, 1, none⟩ = some (.int .i64 x.e) := hcut.bx.cell 1
        clear hcut
        go_wp2_with fail
        refine HN1.out.mono ?_
        rintro e wa1 ⟨A1, n1, rfl, hb1, hr1⟩
        have HSA1 := Lib.hid (HS3.out.call hb1)
        have HV1 := Lib.hid hr1
        clear hb1 hr1 z0 z1
        go_wp2_with (first | (at_builtin; refine wpList_buf rfl _ _ rfl HSA1.out.buf rfl rfl HV1.out rfl (num7_le _ (fnum_lt H9X.out 1)) ?_; intro v1 wb1 hb1 hg1; have HSB1 := Lib.hid (HSA1.out.app hb1 hg1) ; have z2 : wb1.cell? ⟨gx, 2, none⟩ = some (.int .i64 x.h) := HSB1.out.bx.cell 2; clear hb1 hg1) | fail)
        go_wp2_with fail
        refine (refSigned_any x.h _ HXF.out.h).mono ?_
        rintro e wa2 ⟨A2, n2, rfl, hb2, hr2⟩
        have HSA2 := Lib.hid (HSB1.out.call hb2)
        have HV2 := Lib.hid hr2
        clear hb2 hr2 z2
        go_wp2_with (first | (at_builtin; refine wpList_buf rfl _ _ rfl HSA2.out.buf rfl rfl HV2.out rfl (num7_le _ (fnum_lt H9X.out 2)) ?_; intro v2 wb2 hb2 hg2; have HSB2 := Lib.hid (HSA2.out.app hb2 hg2) ; have z3 : wb2.cell? ⟨gx, 3, none⟩ = some (.int .i64 x.c) := HSB2.out.bx.cell 3; clear hb2 hg2) | fail)
        go_wp2_with fail
        refine (HNW.out x.c _ (by omega) (by omega)).mono ?_
        rintro e wa3 ⟨A3, n3, rfl, hb3, hr3⟩
        have HSA3 := Lib.hid (HSB2.out.call hb3)
        have HV3 := Lib.hid hr3
        clear hb3 hr3 z3
        go_wp2_with (first | (at_builtin; refine wpList_buf rfl _ _ rfl HSA3.out.buf rfl rfl HV3.out rfl (num7_le _ (fnum_lt H9X.out 3)) ?_; intro v3 wb3 hb3 hg3; have HSB3 := Lib.hid (HSA3.out.app hb3 hg3) ; have z4 : wb3.cell? ⟨gx, 4, none⟩ = some (.int .i64 x.u) := HSB3.out.bx.cell 4; clear hb3 hg3) | fail)
        go_wp2_with fail
        refine (refSigned_any x.u _ HXF.out.u).mono ?_
        rintro e wa4 ⟨A4, n4, rfl, hb4, hr4⟩
        have HSA4 := Lib.hid (HSB3.out.call hb4)
        have HV4 := Lib.hid hr4
        clear hb4 hr4 z4
        go_wp2_with (first | (at_builtin; refine wpList_buf rfl _ _ rfl HSA4.out.buf rfl rfl HV4.out rfl (num7_le _ (fnum_lt H9X.out 4)) ?_; intro v4 wb4 hb4 hg4; have HSB4 := Lib.hid (HSA4.out.app hb4 hg4) ; have z5 : wb4.cell? ⟨gx, 5, none⟩ = some (.int .i64 x.lo) := HSB4.out.bx.cell 5; clear hb4 hg4) | fail)
        go_wp2_with fail
        refine (refSigned_any x.lo _ HXF.out.lo).mono ?_
        rintro e wa5 ⟨A5, n5, rfl, hb5, hr5⟩
        have HSA5 := Lib.hid (HSB4.out.call hb5)
        have HV5 := Lib.hid hr5
        clear hb5 hr5 z5
        go_wp2_with (first | (at_builtin; refine wpList_buf rfl _ _ rfl HSA5.out.buf rfl rfl HV5.out rfl (num7_le _ (fnum_lt H9X.out 5)) ?_; intro v5 wb5 hb5 hg5; have HSB5 := Lib.hid (HSA5.out.app hb5 hg5) ; have z6 : wb5.cell? ⟨gx, 6, none⟩ = some (.int .i64 x.hi) := HSB5.out.bx.cell 6; clear hb5 hg5) | fail)
        go_wp2_with fail
        refine (refSigned_any x.hi _ HXF.out.hi).mono ?_
        rintro e wa6 ⟨A6, n6, rfl, hb6, hr6⟩
        have HSA6 := Lib.hid (HSB5.out.call hb6)
        have HV6 := Lib.hid hr6
        clear hb6 hr6 z6
        go_wp2_with (first | (at_builtin; refine wpList_buf rfl _ _ rfl HSA6.out.buf rfl rfl HV6.out rfl (num7_le _ (fnum_lt H9X.out 6)) ?_; intro v6 wb6 hb6 hg6; have HSB6 := Lib.hid (HSA6.out.app hb6 hg6) ; have z7 : wb6.cell? ⟨gx, 7, none⟩ = some (.int .i64 x.si) := HSB6.out.bx.cell 7; clear hb6 hg6) | fail)
        go_wp2_with fail
        refine (HNW.out x.si _ (by omega) (by omega)).mono ?_
        rintro e wa7 ⟨A7, n7, rfl, hb7, hr7⟩
        have HSA7 := Lib.hid (HSB6.out.call hb7)
        have HV7 := Lib.hid hr7
        clear hb7 hr7 z7
        go_wp2_with (first | (at_builtin; refine wpList_buf rfl _ _ rfl HSA7.out.buf rfl rfl HV7.out rfl (num7_le _ (fnum_lt H9X.out 7)) ?_; intro v7 wb7 hb7 hg7; have HSB7 := Lib.hid (HSA7.out.app hb7 hg7) ; have z8 : wb7.cell? ⟨gx, 8, none⟩ = some (.int .i64 x.pa) := HSB7.out.bx.cell 8; clear hb7 hg7) | fail)
        go_wp2_with fail
        refine (HNW.out x.pa _ (by omega) (by omega)).mono ?_
        rintro e wa8 ⟨A8, n8, rfl, hb8, hr8⟩
        have HSA8 := Lib.hid (HSB7.out.call hb8)
        have HV8 := Lib.hid hr8
        clear hb8 hr8 z8
        go_wp2_with (first | (at_builtin; refine wpList_buf rfl _ _ rfl HSA8.out.buf rfl rfl HV8.out rfl (num7_le _ (fnum_lt H9X.out 8)) ?_; intro v8 wb8 hb8 hg8; have HSB8 := Lib.hid (HSA8.out.app hb8 hg8); clear hb8 hg8))
        go_roundw
        case rel => exact ⟨i + 1, by go_num, by omega, (HSB8.out.buf.to (by rw [HCUR.out, ← win9]; rfl) (by have := HM.out; omega)), HSB8.out.bk, HSB8.out.bel⟩
        case measure => simp [intOf]; omega
    · obtain rfl : i = n := by omega
      have HBU := Lib.hid hbuf
      have HBE := Lib.hid hbel
      clear hbuf hbk hbel
      go_wp2
      go_ret
      exact ⟨u3, rfl, HBE.out, by rw [HKB.out]; exact HBU.out.own⟩
end Go.Proofs.Ytaechgnjdjijkaa

/- The document's Wrong and Put. -/
namespace Go.Proofs.Ytaechgnjdjijkaa
open Go.RowKit Go.Lib

set_option maxRecDepth 100000 in
theorem refWrong_any (c : Cf) (hf : c.Fit) (k : Kn) (kv : Value) (w : World) (hr : Rk w kv k) : Calls Try.prog 56 #[c.val, kv] w fun e w' => e = .returned (.int .i64 (putE c k)) ∧ Below w.heap.size w w' := by
  have HJ := Lib.hid (Job_any c hf)
  have HK : Hid (∀ w', Below w.heap.size w w' → Calls Try.prog 46 #[c.val, kv] w' fun e w'' => e = .returned (.bool (keyB (c.k == 3) k)) ∧ Below w'.heap.size w' w'') := Lib.hid fun w' hb => refKey_any c k kv w' (hr.below hb)
  obtain ⟨A, cap, rfl, -⟩ := hr
  unfold putE
  cases hj : job c with
  | false =>
    rw [hj] at HJ
    simp only [Bool.false_eq_true, if_false]
    clear hj HK hf
    obtain ⟨S, D, ws⟩ := k
    unfold Cf.val at *
    simp only
    generalize ws.length = n at *
    go_enter Try.func56, Try.ntmps56
    go_wp2_with (first
      | (go_at_call 41; (with_reducible refine (HJ.out _).mono ?_); rintro e w1 ⟨rfl, hb⟩; have HB := Lib.hid hb; clear hb))
    go_ret
    exact ⟨rfl, ((below_alloc w _).alloc (by simp) _).trans (HB.out.mono (by simp; omega))⟩
  | true =>
    rw [hj] at HJ
    simp only [if_true]
    clear hf
    cases hk : keyB (c.k == 3) k with
    | false =>
      rw [hk] at HK
      simp only [Bool.false_eq_true, if_false]
      clear hj hk
      obtain ⟨S, D, ws⟩ := k
      unfold Cf.val at *
      simp only at HK ⊢
      generalize ws.length = n at *
      go_enter Try.func56, Try.ntmps56
      go_wp2_with fail
      refine (HJ.out _).mono ?_
      rintro e w1 ⟨rfl, hb⟩
      have HB : Hid (Below w.heap.size w w1) := Lib.hid (((below_alloc w _).alloc (by simp) _).trans (hb.mono (by simp; omega)))
      have hbc : Bk w1 w.heap.size 24 #[.int .i64 c.g, .int .i64 c.so, .int .i64 c.k, .int .i64 c.sz, .int .i64 c.sl, .int .i64 c.o, .int .i64 c.ga, .int .i64 c.la, .int .i64 c.ea, .bool c.di] := ((Bk.new w _ _).alloc _).below hb
      have hbk : Bk w1 (w.heap.size + 1) 29 #[.string S, .int .i64 D, .slice A n cap] := (Bk.new' _ _ _ _ (by simp)).below hb
      have c0 : w1.cell? ⟨w.heap.size, 0, none⟩ = some (.int .i64 c.g) := hbc.cell 0
      have c1 : w1.cell? ⟨w.heap.size, 1, none⟩ = some (.int .i64 c.so) := hbc.cell 1
      have c2 : w1.cell? ⟨w.heap.size, 2, none⟩ = some (.int .i64 c.k) := hbc.cell 2
      have c3 : w1.cell? ⟨w.heap.size, 3, none⟩ = some (.int .i64 c.sz) := hbc.cell 3
      have c4 : w1.cell? ⟨w.heap.size, 4, none⟩ = some (.int .i64 c.sl) := hbc.cell 4
      have c5 : w1.cell? ⟨w.heap.size, 5, none⟩ = some (.int .i64 c.o) := hbc.cell 5
      have c6 : w1.cell? ⟨w.heap.size, 6, none⟩ = some (.int .i64 c.ga) := hbc.cell 6
      have c7 : w1.cell? ⟨w.heap.size, 7, none⟩ = some (.int .i64 c.la) := hbc.cell 7
      have c8 : w1.cell? ⟨w.heap.size, 8, none⟩ = some (.int .i64 c.ea) := hbc.cell 8
      have c9 : w1.cell? ⟨w.heap.size, 9, none⟩ = some (.bool c.di) := hbc.cell 9
      have k0 : w1.cell? ⟨w.heap.size + 1, 0, none⟩ = some (.string S) := hbk.cell 0
      have k1 : w1.cell? ⟨w.heap.size + 1, 1, none⟩ = some (.int .i64 D) := hbk.cell 1
      have k2 : w1.cell? ⟨w.heap.size + 1, 2, none⟩ = some (.slice A n cap) := hbk.cell 2
      clear hb hbc hbk
      go_wp2_with (first
        | (go_at_call 46; (with_reducible refine (HK.out _ HB.out).mono ?_); rintro e w2 ⟨rfl, hb2⟩; have HB2 := Lib.hid hb2; clear hb2))
      go_ret
      exact ⟨rfl, below_trans HB.out HB2.out⟩
    | true =>
      rw [hk] at HK
      simp only [if_true]
      clear hj hk
      obtain ⟨S, D, ws⟩ := k
      unfold Cf.val at *
      simp only at HK ⊢
      generalize ws.length = n at *
      go_enter Try.func56, Try.ntmps56
      go_wp2_with fail
      refine (HJ.out _).mono ?_
      rintro e w1 ⟨rfl, hb⟩
      have HB : Hid (Below w.heap.size w w1) := Lib.hid (((below_alloc w _).alloc (by simp) _).trans (hb.mono (by simp; omega)))
      have hbc : Bk w1 w.heap.size 24 #[.int .i64 c.g, .int .i64 c.so, .int .i64 c.k, .int .i64 c.sz, .int .i64 c.sl, .int .i64 c.o, .int .i64 c.ga, .int .i64 c.la, .int .i64 c.ea, .bool c.di] := ((Bk.new w _ _).alloc _).below hb
      have hbk : Bk w1 (w.heap.size + 1) 29 #[.string S, .int .i64 D, .slice A n cap] := (Bk.new' _ _ _ _ (by simp)).below hb
      have c0 : w1.cell? ⟨w.heap.size, 0, none⟩ = some (.int .i64 c.g) := hbc.cell 0
      have c1 : w1.cell? ⟨w.heap.size, 1, none⟩ = some (.int .i64 c.so) := hbc.cell 1
      have c2 : w1.cell? ⟨w.heap.size, 2, none⟩ = some (.int .i64 c.k) := hbc.cell 2
      have c3 : w1.cell? ⟨w.heap.size, 3, none⟩ = some (.int .i64 c.sz) := hbc.cell 3
      have c4 : w1.cell? ⟨w.heap.size, 4, none⟩ = some (.int .i64 c.sl) := hbc.cell 4
      have c5 : w1.cell? ⟨w.heap.size, 5, none⟩ = some (.int .i64 c.o) := hbc.cell 5
      have c6 : w1.cell? ⟨w.heap.size, 6, none⟩ = some (.int .i64 c.ga) := hbc.cell 6
      have c7 : w1.cell? ⟨w.heap.size, 7, none⟩ = some (.int .i64 c.la) := hbc.cell 7
      have c8 : w1.cell? ⟨w.heap.size, 8, none⟩ = some (.int .i64 c.ea) := hbc.cell 8
      have c9 : w1.cell? ⟨w.heap.size, 9, none⟩ = some (.bool c.di) := hbc.cell 9
      have k0 : w1.cell? ⟨w.heap.size + 1, 0, none⟩ = some (.string S) := hbk.cell 0
      have k1 : w1.cell? ⟨w.heap.size + 1, 1, none⟩ = some (.int .i64 D) := hbk.cell 1
      have k2 : w1.cell? ⟨w.heap.size + 1, 2, none⟩ = some (.slice A n cap) := hbk.cell 2
      clear hb hbc hbk
      go_wp2_with (first
        | (go_at_call 46; (with_reducible refine (HK.out _ HB.out).mono ?_); rintro e w2 ⟨rfl, hb2⟩; have HB2 := Lib.hid hb2; clear hb2))
      go_ret
      exact ⟨rfl, below_trans HB.out HB2.out⟩
/-- What Put answers, of both: bytes of the call's own. -/
def PutAns (W : World) (z : Int) (bs : List UInt8) (e : Ending) (w' : World) : Prop :=
  ∃ (A : Option Addr) (n cap : Nat), e = .returned (.tuple #[.slice A n cap, .int .i64 z]) ∧ Below W.heap.size W w' ∧ w'.ownsRow W.heap.size 5 1 (.slice A n cap) n (bc (if z = 0 then bs else [])) ∧ (if z = 0 then bs else []).length = n
theorem Put_ans (c : Cf) (hf : c.Fit) (k : Kn) (hkf : k.Fit) (kv : Value) (W : World) (hr : Rk W kv k) (hn : k.key.size + 90 * k.ws.length + 200 ≤ 140737488355328) :
    Calls Try.prog 19 #[c.val, kv] W (PutAns W (putE c k) (keyBytes k)) := by
  by_cases he : putE c k = 0
  · rw [he]
    refine (Put_ok c hf k hkf kv W hr he hn).mono fun e w' => ?_
    rintro ⟨v', rfl, h1, h2⟩
    obtain ⟨A, cap, hv, -⟩ := ownsRow_shape h2
    subst hv
    exact ⟨A, _, cap, rfl, h1, h2, rfl⟩
  · refine (Put_bad c hf k kv W hr he).mono fun e w' => ?_
    rintro ⟨rfl, h1⟩
    refine ⟨none, 0, 0, rfl, h1, ?_, ?_⟩
    · rw [if_neg he]; exact World.ownsRow_nil _ _ _ _
    · rw [if_neg he]; rfl
set_option maxRecDepth 100000 in
theorem refPut_any (c : Cf) (hf : c.Fit) (k : Kn) (hkf : k.Fit) (kv : Value) (W : World) (hr : Rk W kv k) (hn : k.key.size + 90 * k.ws.length + 200 ≤ 140737488355328) :
    Calls Try.prog 23 #[c.val, kv] W (PutAns W (putE c k) (keyBytes k)) := by
  have HW : Hid (∀ w, Below W.heap.size W w → Calls Try.prog 56 #[c.val, kv] w fun e w' => e = .returned (.int .i64 (putE c k)) ∧ Below w.heap.size w w') := Lib.hid fun w hb => refWrong_any c hf k kv w (hr.below hb)
  have HBY : Hid (putE c k = 0 → ∀ w, Below W.heap.size W w → Calls Try.prog 48 #[kv] w fun e w' => ∃ v', e = .returned v' ∧ Below w.heap.size w w' ∧ w'.ownsRow w.heap.size 5 1 v' (keyBytes k).length (bc (keyBytes k))) := Lib.hid fun he w hb => refBytes_any k kv w (hr.below hb) hkf _ (putE_ok he).2 hn
  obtain ⟨A, cap, rfl, -⟩ := hr
  obtain ⟨z, hz⟩ : ∃ z, putE c k = z := ⟨_, rfl⟩
  rw [hz] at HW HBY ⊢
  obtain ⟨KB, hKB⟩ : ∃ KB, keyBytes k = KB := ⟨_, rfl⟩
  rw [hKB] at HBY ⊢
  clear hz hKB hf hkf hn
  obtain ⟨S, D, ws⟩ := k
  unfold Cf.val at *
  simp only at HW HBY ⊢
  generalize ws.length = n at *
  by_cases hz0 : z = 0
  · subst hz0
    have HBY2 := Lib.hid (HBY.out rfl)
    clear HBY
    go_enter Try.func23, Try.ntmps23
    go_wp2_with fail
    refine (HW.out _ ((below_alloc W _).alloc (by simp) _)).mono ?_
    rintro e w1 ⟨rfl, hb⟩
    have HB : Hid (Below W.heap.size W w1) := Lib.hid (((below_alloc W _).alloc (by simp) _).trans (hb.mono (by simp; omega)))
    have hbk : Bk w1 (W.heap.size + 1) 29 #[.string S, .int .i64 D, .slice A n cap] := (Bk.new' _ _ _ _ (by simp)).below hb
    have k0 : w1.cell? ⟨W.heap.size + 1, 0, none⟩ = some (.string S) := hbk.cell 0
    have k1 : w1.cell? ⟨W.heap.size + 1, 1, none⟩ = some (.int .i64 D) := hbk.cell 1
    have k2 : w1.cell? ⟨W.heap.size + 1, 2, none⟩ = some (.slice A n cap) := hbk.cell 2
    clear hb hbk
    go_wp2_with (first
      | (go_at_call 48; (with_reducible refine (HBY2.out _ HB.out).mono ?_); rintro e w2 ⟨v2, rfl, hb2, ho2⟩; have HB2 := Lib.hid hb2; have HO2 := Lib.hid ho2; clear hb2 ho2))
    go_ret2
    obtain ⟨A2, cap2, rfl, -, -⟩ := ownsRow_shape HO2.out
    exact ⟨A2, _, cap2, rfl, below_trans HB.out HB2.out, own_mono HO2.out HB.out.size, rfl⟩
  · have hnz : (z != 0) = true := by simpa using hz0
    have HZ := Lib.hid hz0
    clear HBY hz0
    go_enter Try.func23, Try.ntmps23
    go_wp2_with fail
    refine (HW.out _ ((below_alloc W _).alloc (by simp) _)).mono ?_
    rintro e w1 ⟨rfl, hb⟩
    have HB : Hid (Below W.heap.size W w1) := Lib.hid (((below_alloc W _).alloc (by simp) _).trans (hb.mono (by simp; omega)))
    clear hb
    go_wp2
    go_ret2
    refine ⟨none, 0, 0, rfl, HB.out, ?_, ?_⟩
    · rw [if_neg HZ.out]; exact World.ownsRow_nil _ _ _ _
    · rw [if_neg HZ.out]; rfl
end Go.Proofs.Ytaechgnjdjijkaa
