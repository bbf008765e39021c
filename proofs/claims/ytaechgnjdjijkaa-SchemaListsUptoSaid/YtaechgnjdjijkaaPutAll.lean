/- schema.PutAll. -/
import Derived.Test.YtaechgnjdjijkaaReadAll
import Derived.Deep.RegionWith
import Derived.Deep.RegionHeld3
namespace Go.Proofs.Ytaechgnjdjijkaa
open Go.RowKit Go.Lib

/-! Plainly. -/
/-- Is each right, and does each key rise above the one ahead of it? -/
noncomputable def upB (ses : Bool) : Option Kn → List Kn → Bool
  | _, [] => true
  | o, k :: r => keyB ses k && !(match o with | none => false | some y => geS y.key k.key) && upB ses (some k) r
def allB (l : List Kn) : List UInt8 := l.flatMap keyBytes
theorem allB_snoc (l : List Kn) (k : Kn) : allB (l ++ [k]) = allB l ++ keyBytes k := by simp [allB]
def kroom : List Kn → Nat
  | [] => 0
  | k :: r => k.key.size + 90 * k.ws.length + 40 + kroom r
theorem kroom_append : ∀ (a b : List Kn), kroom (a ++ b) = kroom a + kroom b
  | [], b => by simp [kroom]
  | x :: a, b => by have := kroom_append a b; simp only [List.cons_append, kroom, this]; omega
noncomputable def allE (c : Cf) (l : List Kn) : Int := if job c then (if upB (c.k == 3) none l then 0 else 6) else 4
set_option maxRecDepth 100000 in
theorem PutAll_job (c : Cf) (hf : c.Fit) (hj : job c = false) (A : Option Addr) (n cap : Nat) (W : World) : Calls Try.prog 27 #[c.val, .slice A n cap] W fun e w' => e = .returned (.tuple #[.slice none 0 0, .int .i64 4]) ∧ Below W.heap.size W w' := by
  have hc := Check_any c hf
  rw [hj] at hc
  have HC := Lib.hid hc
  clear hc hj hf
  unfold Cf.val at *
  go_enter Try.func27, Try.ntmps27
  go_wp2_with (first
    | (go_at_call 34; (with_reducible refine (HC.out _).mono ?_); rintro e w1 ⟨rfl, hb⟩; have HB := Lib.hid hb; clear hb))
  go_ret2
  exact ⟨rfl, below_trans (below_alloc W _) HB.out⟩
def PutAllAns (W : World) (U : Bool) (bs : List UInt8) (e : Ending) (w' : World) : Prop :=
  Below W.heap.size W w' ∧ match U with
    | false => e = .returned (.tuple #[.slice none 0 0, .int .i64 6])
    | true => ∃ (A : Option Addr) (cap : Nat), e = .returned (.tuple #[.slice A bs.length cap, .int .i64 0]) ∧ w'.ownsRow W.heap.size 5 1 (.slice A bs.length cap) bs.length (bc bs)
set_option maxRecDepth 100000 in
set_option maxHeartbeats 2000000 in
theorem PutAll_row (c : Cf) (hf : c.Fit) (hj : job c = true) (A : Option Addr) (n cap : Nat) (L : List Km) (W : World) (hr : Rks W (.slice A n cap) n L) (hfit : ∀ x ∈ L, x.k.Fit) (hroom : kroom (L.map Km.k) + 200 ≤ 140737488355328) :
    Calls Try.prog 27 #[c.val, .slice A n cap] W (PutAllAns W (upB (c.k == 3) none (L.map Km.k)) (allB (L.map Km.k))) := by
  have hc := Check_any c hf
  rw [hj] at hc
  have HC := Lib.hid hc
  have HK : Hid (∀ (k : Kn) (kv : Value) (w : World), Rk w kv k → Calls Try.prog 50 #[c.val, kv] w fun e w' => e = .returned (.int .i64 (if keyB (c.k == 3) k then 0 else 6)) ∧ Below w.heap.size w w') := Lib.hid fun k kv w h => by
    have := Key_any c hf k kv w h
    unfold putE at this
    rw [if_pos hj] at this
    exact this
  have HR := Lib.hid hr
  have HFIT := Lib.hid hfit
  have hcap : n ≤ cap ∧ cap ≤ maxLen := by obtain ⟨_, _, hv, h1, h2, _⟩ := hr.rd; cases hv; exact ⟨h1, h2⟩
  unfold maxLen at hcap
  obtain ⟨hcap1, hcap2⟩ := hcap
  obtain ⟨U, hU⟩ : ∃ U, upB (c.k == 3) none (L.map Km.k) = U := ⟨_, rfl⟩
  rw [hU]
  have HU := Lib.hid hU
  have HPUT : Hid (∀ (g : Nat) (v : Value) (bs : List UInt8) (x : Km) (w : World), x.Ok W → x.k.Fit → Wr w W.heap.size g v bs → W.heap.size ≤ g → Below W.heap.size W w → KeyP (c.k == 3) x.k → bs.length + x.k.key.size + 90 * x.k.ws.length + 100 ≤ 140737488355328 →
      Calls Try.prog 52 #[.pointer (some ⟨g, 0, none⟩), .agg #[.string x.k.key, .int .i64 x.k.dr, .slice x.A x.k.ws.length x.cap]] w fun e w' => e = .returned (.tuple #[]) ∧ ∃ v', Wr w' W.heap.size g v' (bs ++ keyBytes x.k) ∧ Wch w w' g v v') := Lib.hid fun g v bs x w hx hxf hw hg hb hkp hn => by
    obtain ⟨k, A0, cp0⟩ := x
    exact put_any W.heap.size g v _ bs k w hw hb.size hg ((hx.below hb).rk) (fun s d q off n cp h h0 => by cases h; exact win_room hx q off rfl h0) hxf _ hkp hn
  have HBY : Hid (∀ (bs : List UInt8) w g v, Wr w W.heap.size g v bs → bs.length ≤ 140737488355328 → Calls Try.prog 53 #[.pointer (some ⟨g, 0, none⟩)] w fun e w' => ∃ v', e = .returned v' ∧ Below w.heap.size w w' ∧ w'.ownsRow w.heap.size 5 1 v' bs.length (bc bs)) := Lib.hid fun bs w g v h hn =>
    Bytes_any W.heap.size g v bs w h hn
  have HROOM := Lib.hid hroom
  clear hU hr hc hj hf hfit hroom
  obtain ⟨ses, hses⟩ : ∃ ses, (c.k == 3) = ses := ⟨_, rfl⟩
  rw [hses] at HK HU HPUT
  clear hses
  unfold Cf.val at *
  go_enter Try.func27, Try.ntmps27
  go_wp2_with fail
  refine (HC.out _).mono ?_
  rintro e w1 ⟨rfl, hb1⟩
  have HB1 : Hid (Below W.heap.size W w1) := Lib.hid (below_trans (below_alloc W _) hb1)
  have hk1 : Bk w1 W.heap.size 24 #[.int .i64 c.g, .int .i64 c.so, .int .i64 c.k, .int .i64 c.sz, .int .i64 c.sl, .int .i64 c.o, .int .i64 c.ga, .int .i64 c.la, .int .i64 c.ea, .bool c.di] := ((Bk.new W _ _).below hb1)
  have HK1 := Lib.hid hk1
  have hs1 : W.heap.size < w1.heap.size := hk1.lt
  clear hb1 hk1
  go_wp2_with fail
  refine (NewWriter_any _).mono ?_
  rintro e w2 ⟨rfl, hw2⟩
  have HB2 : Hid (Below W.heap.size W w2) := Lib.hid (by rw [← hw2]; exact HB1.out.alloc (by omega) _)
  have HK2 : Hid (Bk w2 W.heap.size 24 #[.int .i64 c.g, .int .i64 c.so, .int .i64 c.k, .int .i64 c.sz, .int .i64 c.sl, .int .i64 c.o, .int .i64 c.ga, .int .i64 c.la, .int .i64 c.ea, .bool c.di]) := Lib.hid (by rw [← hw2]; exact HK1.out.alloc _)
  have HW2 : Hid (Wr w2 W.heap.size w1.heap.size (.slice none 0 0) []) := Lib.hid (by rw [← hw2]; exact wr_new _ _)
  have hs2 : w1.heap.size < w2.heap.size := HW2.out.blk.lt
  clear hw2
  obtain ⟨g, hg⟩ : ∃ g, w1.heap.size = g := ⟨_, rfl⟩
  rw [hg] at HW2 hs1 hs2 ⊢
  clear hg HB1 HK1
  go_wp2
  go_loopw [18] (fun q wr => ∃ (pre rest : List Km) (v : Value), q = .int .i64 (pre.length : Int) ∧ L = pre ++ rest ∧ U = upB ses (pre.getLast?.map Km.k) (rest.map Km.k) ∧ Wr wr W.heap.size g v (allB (pre.map Km.k)) ∧ (allB (pre.map Km.k)).length ≤ kroom (pre.map Km.k) ∧
      Bk wr W.heap.size 24 #[.int .i64 c.g, .int .i64 c.so, .int .i64 c.k, .int .i64 c.sz, .int .i64 c.sl, .int .i64 c.o, .int .i64 c.ga, .int .i64 c.la, .int .i64 c.ea, .bool c.di] ∧ Below W.heap.size W wr) (fun q _ => n - (intOf q).toNat)
  case atStart => exact ⟨[], L, _, rfl, rfl, HU.out.symm, HW2.out, by simp [allB, kroom], HK2.out, HB2.out⟩
  case round =>
    obtain ⟨pre, rest, v, rfl, hL, hU, hw, hlen, hbk, hbel⟩ := hrel
    have HL := Lib.hid hL
    have HUU := Lib.hid hU
    have HW := Lib.hid hw
    have HLEN := Lib.hid hlen
    have HBK := Lib.hid hbk
    have HBEL := Lib.hid hbel
    have hszr : W.heap.size < wr.heap.size := hbk.lt
    have hgl := hw.blk.lt
    have hln : pre.length + rest.length = n := by have := HR.out.len; rw [hL, List.length_append] at this; exact this
    obtain ⟨j, hj⟩ : ∃ j, pre.length = j := ⟨_, rfl⟩
    have HJ := Lib.hid hj
    rw [hj] at hln ⊢
    clear hj
    cases rest with
    | nil =>
      simp only [List.length_nil, Nat.add_zero] at hln
      subst hln
      clear hL hU hw hlen hbk hbel
      have hn2 : decide (j < j) = false := by simp
      go_wp2_with (first
        | (go_at_call 53; (with_reducible refine (HBY.out _ _ _ _ HW.out (by have := HLEN.out; have := HROOM.out; rw [HL.out, List.append_nil] at this; omega)).mono ?_); rintro e w4 ⟨v4, rfl, hb4, ho4⟩; have HB4 := Lib.hid hb4; have HO4 := Lib.hid ho4; clear hb4 ho4))
      go_ret2
      have hu : U = true := by rw [HUU.out]; simp [upB]
      subst hu
      obtain ⟨A4, cap4, rfl, -, -⟩ := ownsRow_shape HO4.out
      have e0 : L = pre := by rw [HL.out, List.append_nil]
      rw [e0]
      exact ⟨below_trans HBEL.out HB4.out, A4, cap4, rfl, own_mono HO4.out HBEL.out.size⟩
    | cons x r =>
      have hxL : L[j]? = some x := by rw [hL, ← HJ.out]; simp
      have hxm : x ∈ L := List.mem_of_getElem? hxL
      obtain ⟨q, off, rfl, hql, z0, z1, z2⟩ := rks_at (HR.out.below hbel) hxL
      have hqW : q < W.heap.size := by
        obtain ⟨_, _, hh, hq2, -⟩ := rks_at HR.out hxL
        cases hh; exact hq2
      have HXO := Lib.hid (HR.out.ok x hxm)
      have HXF := Lib.hid (HFIT.out x hxm)
      have hjn : j < n := by simp only [List.length_cons] at hln; omega
      have hROOM2 : kroom (pre.map Km.k) + (x.k.key.size + 90 * x.k.ws.length + 40) + 200 ≤ 140737488355328 := by
        have := HROOM.out
        rw [hL, List.map_append, kroom_append, List.map_cons, kroom] at this
        omega
      have HRM := Lib.hid hROOM2
      have hdec : decide (j < n) = true := by simpa using hjn
      obtain ⟨⟨S, D, ws⟩, A2, cap2⟩ := x
      have HKX : Hid (∀ w, Below W.heap.size W w → Calls Try.prog 50 #[.agg #[.int .i64 c.g, .int .i64 c.so, .int .i64 c.k, .int .i64 c.sz, .int .i64 c.sl, .int .i64 c.o, .int .i64 c.ga, .int .i64 c.la, .int .i64 c.ea, .bool c.di], .agg #[.string S, .int .i64 D, .slice A2 ws.length cap2]] w fun e w' => e = .returned (.int .i64 (if keyB ses ⟨S, D, ws⟩ then 0 else 6)) ∧ Below w.heap.size w w') := Lib.hid fun w hb => HK.out ⟨S, D, ws⟩ _ w ((HXO.out.below hb).rk)
      have HPX : Hid (∀ v w, Wr w W.heap.size g v (allB (pre.map Km.k)) → Below W.heap.size W w → KeyP ses ⟨S, D, ws⟩ → Calls Try.prog 52 #[.pointer (some ⟨g, 0, none⟩), .agg #[.string S, .int .i64 D, .slice A2 ws.length cap2]] w fun e w' => e = .returned (.tuple #[]) ∧ ∃ v', Wr w' W.heap.size g v' (allB (pre.map Km.k) ++ keyBytes ⟨S, D, ws⟩) ∧ Wch w w' g v v') := Lib.hid fun v w hw hb hkp =>
        HPUT.out g v _ ⟨⟨S, D, ws⟩, A2, cap2⟩ w HXO.out HXF.out hw (by omega) hb hkp (by have := HLEN.out; have := HRM.out; simp only at this ⊢; omega)
      have HUC : Hid (U = (keyB ses ⟨S, D, ws⟩ && !(match pre.getLast?.map Km.k with | none => false | some y => geS y.key S) && upB ses (some ⟨S, D, ws⟩) (r.map Km.k))) := Lib.hid (by rw [HUU.out]; rfl)
      have hb3 : Below wr.heap.size wr (wr.alloc (.cells #[.string S, .int .i64 D, .slice A2 ws.length cap2] 29)) := below_alloc wr _
      have HB3 : Hid (Below W.heap.size W (wr.alloc (.cells #[.string S, .int .i64 D, .slice A2 ws.length cap2] 29))) := Lib.hid (below_trans hbel hb3)
      have HK3 : Hid (Bk (wr.alloc (.cells #[.string S, .int .i64 D, .slice A2 ws.length cap2] 29)) wr.heap.size 29 #[.string S, .int .i64 D, .slice A2 ws.length cap2]) := Lib.hid (Bk.new _ _ _)
      have HC3 : Hid (Bk (wr.alloc (.cells #[.string S, .int .i64 D, .slice A2 ws.length cap2] 29)) W.heap.size 24 #[.int .i64 c.g, .int .i64 c.so, .int .i64 c.k, .int .i64 c.sz, .int .i64 c.sl, .int .i64 c.o, .int .i64 c.ga, .int .i64 c.la, .int .i64 c.ea, .bool c.di]) := Lib.hid (hbk.alloc _)
      have HW3 : Hid (Wr (wr.alloc (.cells #[.string S, .int .i64 D, .slice A2 ws.length cap2] 29)) W.heap.size g v (allB (pre.map Km.k))) := Lib.hid (hw.below hb3)
      have c0 : wr.cell? ⟨W.heap.size, 0, none⟩ = some (.int .i64 c.g) := hbk.cell 0
      have c1 : wr.cell? ⟨W.heap.size, 1, none⟩ = some (.int .i64 c.so) := hbk.cell 1
      have c2 : wr.cell? ⟨W.heap.size, 2, none⟩ = some (.int .i64 c.k) := hbk.cell 2
      have c3 : wr.cell? ⟨W.heap.size, 3, none⟩ = some (.int .i64 c.sz) := hbk.cell 3
      have c4 : wr.cell? ⟨W.heap.size, 4, none⟩ = some (.int .i64 c.sl) := hbk.cell 4
      have c5 : wr.cell? ⟨W.heap.size, 5, none⟩ = some (.int .i64 c.o) := hbk.cell 5
      have c6 : wr.cell? ⟨W.heap.size, 6, none⟩ = some (.int .i64 c.ga) := hbk.cell 6
      have c7 : wr.cell? ⟨W.heap.size, 7, none⟩ = some (.int .i64 c.la) := hbk.cell 7
      have c8 : wr.cell? ⟨W.heap.size, 8, none⟩ = some (.int .i64 c.ea) := hbk.cell 8
      have c9 : wr.cell? ⟨W.heap.size, 9, none⟩ = some (.bool c.di) := hbk.cell 9
      have hlast : ∃ YK : Option ByteArray, (∀ y, (pre.getLast?.map Km.k) = some y → YK = some y.key) ∧ ((pre.getLast?.map Km.k) = none → YK = none) ∧ (YK = none → j = 0) ∧ ∀ K, YK = some K → ∃ p, j = p + 1 ∧ wr.cell? ⟨q, off + p * 3, none⟩ = some (.string K) := by
        cases hgl2 : pre.getLast? with
        | none =>
          rw [List.getLast?_eq_none_iff] at hgl2
          exact ⟨none, by simp, by simp, fun _ => by rw [← HJ.out, hgl2]; rfl, by simp⟩
        | some y =>
          have hne : pre ≠ [] := fun e => by rw [e] at hgl2; simp at hgl2
          have hpl : 0 < pre.length := List.length_pos_iff.2 hne
          have hj := HJ.out
          have hyL : L[j - 1]? = some y := by
            rw [hL, ← hj, List.getElem?_append_left (by omega)]
            rw [List.getLast?_eq_getElem?] at hgl2
            exact hgl2
          obtain ⟨q2, off2, hA, -, hz, -, -⟩ := rks_at (HR.out.below (w' := wr) HBEL.out) hyL
          cases hA
          refine ⟨some y.k.key, by simp, by simp, by simp, fun K hK => ⟨j - 1, by omega, ?_⟩⟩
          cases hK
          exact hz
      obtain ⟨YK, hY1, hY2, hY3, hY4⟩ := hlast
      have HY1 := Lib.hid hY1
      have HY2 := Lib.hid hY2
      clear hL hU hw hlen hbk hbel hxL hxm hROOM2 hb3 hY1 hY2
      cases hkb : keyB ses ⟨S, D, ws⟩ with
      | false =>
        rw [hkb] at HKX
        simp only [Bool.false_eq_true, if_false] at HKX
        have hu : Hid (U = false) := Lib.hid (by rw [HUC.out, hkb]; rfl)
        clear hkb hY3 hY4
        go_wp2_with fail
        obtain ⟨w3, hw3⟩ : ∃ w3, (wr.alloc (.cells #[.string S, .int .i64 D, .slice A2 ws.length cap2] 29)) = w3 := ⟨_, rfl⟩
        rw [hw3] at HB3 HK3 HC3 HW3 ⊢
        have hz3 : wr.heap.size < w3.heap.size := HK3.out.lt
        clear hw3
        have HST : Hid (∀ w, Below w3.heap.size w3 w → (w.cell? ⟨W.heap.size, 0, none⟩ = some (.int .i64 c.g) ∧ w.cell? ⟨W.heap.size, 1, none⟩ = some (.int .i64 c.so) ∧ w.cell? ⟨W.heap.size, 2, none⟩ = some (.int .i64 c.k) ∧ w.cell? ⟨W.heap.size, 3, none⟩ = some (.int .i64 c.sz) ∧ w.cell? ⟨W.heap.size, 4, none⟩ = some (.int .i64 c.sl) ∧ w.cell? ⟨W.heap.size, 5, none⟩ = some (.int .i64 c.o) ∧ w.cell? ⟨W.heap.size, 6, none⟩ = some (.int .i64 c.ga) ∧ w.cell? ⟨W.heap.size, 7, none⟩ = some (.int .i64 c.la) ∧ w.cell? ⟨W.heap.size, 8, none⟩ = some (.int .i64 c.ea) ∧ w.cell? ⟨W.heap.size, 9, none⟩ = some (.bool c.di)) ∧ w.cell? ⟨wr.heap.size, 0, none⟩ = some (.string S) ∧ w.cell? ⟨wr.heap.size, 1, none⟩ = some (.int .i64 D) ∧ w.cell? ⟨wr.heap.size, 2, none⟩ = some (.slice A2 ws.length cap2)) := Lib.hid fun w hb => by
          have h1 := HC3.out.below hb
          have h2 := HK3.out.below hb
          exact ⟨⟨h1.cell 0, h1.cell 1, h1.cell 2, h1.cell 3, h1.cell 4, h1.cell 5, h1.cell 6, h1.cell 7, h1.cell 8, h1.cell 9⟩, h2.cell 0, h2.cell 1, h2.cell 2⟩
        refine wp_region_held_drew (S := (fun w => Below w3.heap.size w3 w ∧ (w.cell? ⟨W.heap.size, 0, none⟩ = some (.int .i64 c.g) ∧ w.cell? ⟨W.heap.size, 1, none⟩ = some (.int .i64 c.so) ∧ w.cell? ⟨W.heap.size, 2, none⟩ = some (.int .i64 c.k) ∧ w.cell? ⟨W.heap.size, 3, none⟩ = some (.int .i64 c.sz) ∧ w.cell? ⟨W.heap.size, 4, none⟩ = some (.int .i64 c.sl) ∧ w.cell? ⟨W.heap.size, 5, none⟩ = some (.int .i64 c.o) ∧ w.cell? ⟨W.heap.size, 6, none⟩ = some (.int .i64 c.ga) ∧ w.cell? ⟨W.heap.size, 7, none⟩ = some (.int .i64 c.la) ∧ w.cell? ⟨W.heap.size, 8, none⟩ = some (.int .i64 c.ea) ∧ w.cell? ⟨W.heap.size, 9, none⟩ = some (.bool c.di)) ∧ w.cell? ⟨wr.heap.size, 0, none⟩ = some (.string S) ∧ w.cell? ⟨wr.heap.size, 1, none⟩ = some (.int .i64 D) ∧ w.cell? ⟨wr.heap.size, 2, none⟩ = some (.slice A2 ws.length cap2))) (by kernel_rfl) ⟨below_drew w3, HST.out _ (below_drew w3)⟩ (fun hHeld => ?_)
        refine wpAnyH_take (i := 0) (oi := ⟨some 23, _, _, _, _, _⟩) (v := .agg #[.int .i64 c.g, .int .i64 c.so, .int .i64 c.k, .int .i64 c.sz, .int .i64 c.sl, .int .i64 c.o, .int .i64 c.ga, .int .i64 c.la, .int .i64 c.ea, .bool c.di]) rfl (by kernel_rfl) (by kernel_rfl) (by kernel_rfl) (fun _ _ _ h => h) (Or.inl ⟨by rfl, ?_⟩) (by assumption) ?_
        · (intro w hSw; obtain ⟨-, ⟨c0, c1, c2, c3, c4, c5, c6, c7, c8, c9⟩, k0, k1, k2⟩ := hSw; go_simp)
        try simp only [Act.put, List.setIfInBounds_toArray, List.set_cons_zero, List.set_cons_succ]
        refine wpAnyH_take (i := 1) (oi := ⟨some 24, _, _, _, _, _⟩) (v := .agg #[.string S, .int .i64 D, .slice A2 ws.length cap2]) rfl (by kernel_rfl) (by kernel_rfl) (by kernel_rfl) (fun _ _ _ h => h) (Or.inl ⟨by rfl, ?_⟩) (by assumption) ?_
        · (intro w hSw; obtain ⟨-, ⟨c0, c1, c2, c3, c4, c5, c6, c7, c8, c9⟩, k0, k1, k2⟩ := hSw; go_simp)
        try simp only [Act.put, List.setIfInBounds_toArray, List.set_cons_zero, List.set_cons_succ]
        refine wpAnyH_ready (rs := [2]) (by kernel_rfl) (by simp) ?_
        refine AllReadyH.cons rfl (fun K hK => ?_) AllReadyH.nil
        go_simp
        (go_at_call 50; (with_reducible refine (HKX.out _ (below_trans HB3.out (below_drew _))).mono ?_); rintro e w4 ⟨rfl, hb4'⟩; have hb4 : Below w3.heap.size w3 w4 := below_trans (below_drew w3) hb4')
        clear hHeld
        refine hK.out _ _ ⟨hb4, HST.out _ hb4⟩ (fun hHeld => ?_)
        clear hK
        try simp only [Act.put, List.setIfInBounds_toArray, List.set_cons_zero, List.set_cons_succ]
        refine wpAnyH_take (i := 3) (oi := ⟨some 26, _, _, _, _, _⟩) (v := .bool true) rfl (by kernel_rfl) (by kernel_rfl) (by kernel_rfl) (fun _ _ _ h => h) (Or.inl ⟨by rfl, ?_⟩) (by assumption) ?_
        · (intro w hSw; obtain ⟨-, ⟨c0, c1, c2, c3, c4, c5, c6, c7, c8, c9⟩, k0, k1, k2⟩ := hSw; go_simp)
        try simp only [Act.put, List.setIfInBounds_toArray, List.set_cons_zero, List.set_cons_succ]
        refine wpAnyH_take (i := 4) (oi := ⟨some 27, _, _, _, _, _⟩) (v := .bool true) rfl (by kernel_rfl) (by kernel_rfl) (by kernel_rfl) (fun _ _ _ h => h) (Or.inl ⟨by rfl, ?_⟩) (by assumption) ?_
        · (intro w hSw; obtain ⟨-, ⟨c0, c1, c2, c3, c4, c5, c6, c7, c8, c9⟩, k0, k1, k2⟩ := hSw; go_simp)
        try simp only [Act.put, List.setIfInBounds_toArray, List.set_cons_zero, List.set_cons_succ]
        refine wpAnyH_take (i := 5) (oi := ⟨some 28, _, _, _, _, _⟩) (v := undef) rfl (by kernel_rfl) (by kernel_rfl) (by kernel_rfl) (fun _ _ _ h => h) (Or.inr ⟨by rfl, rfl⟩) (by assumption) ?_
        try simp only [Act.put, List.setIfInBounds_toArray, List.set_cons_zero, List.set_cons_succ]
        refine wpAnyH_take (i := 6) (oi := ⟨some 29, _, _, _, _, _⟩) (v := undef) rfl (by kernel_rfl) (by kernel_rfl) (by kernel_rfl) (fun _ _ _ h => h) (Or.inr ⟨by rfl, rfl⟩) (by assumption) ?_
        try simp only [Act.put, List.setIfInBounds_toArray, List.set_cons_zero, List.set_cons_succ]
        refine wpAnyH_take (i := 7) (oi := ⟨some 30, _, _, _, _, _⟩) (v := undef) rfl (by kernel_rfl) (by kernel_rfl) (by kernel_rfl) (fun _ _ _ h => h) (Or.inr ⟨by rfl, rfl⟩) (by assumption) ?_
        try simp only [Act.put, List.setIfInBounds_toArray, List.set_cons_zero, List.set_cons_succ]
        refine wpAnyH_take (i := 8) (oi := ⟨some 31, _, _, _, _, _⟩) (v := undef) rfl (by kernel_rfl) (by kernel_rfl) (by kernel_rfl) (fun _ _ _ h => h) (Or.inr ⟨by rfl, rfl⟩) (by assumption) ?_
        try simp only [Act.put, List.setIfInBounds_toArray, List.set_cons_zero, List.set_cons_succ]
        refine wpAnyH_take (i := 9) (oi := ⟨some 32, _, _, _, _, _⟩) (v := undef) rfl (by kernel_rfl) (by kernel_rfl) (by kernel_rfl) (fun _ _ _ h => h) (Or.inr ⟨by rfl, rfl⟩) (by assumption) ?_
        try simp only [Act.put, List.setIfInBounds_toArray, List.set_cons_zero, List.set_cons_succ]
        refine wpAnyH_take (i := 10) (oi := ⟨some 33, _, _, _, _, _⟩) (v := undef) rfl (by kernel_rfl) (by kernel_rfl) (by kernel_rfl) (fun _ _ _ h => h) (Or.inr ⟨by rfl, rfl⟩) (by assumption) ?_
        try simp only [Act.put, List.setIfInBounds_toArray, List.set_cons_zero, List.set_cons_succ]
        refine wpAnyH_take (i := 11) (oi := ⟨some 34, _, _, _, _, _⟩) (v := undef) rfl (by kernel_rfl) (by kernel_rfl) (by kernel_rfl) (fun _ _ _ h => h) (Or.inr ⟨by rfl, rfl⟩) (by assumption) ?_
        try simp only [Act.put, List.setIfInBounds_toArray, List.set_cons_zero, List.set_cons_succ]
        refine wpAnyH_take (i := 12) (oi := ⟨some 35, _, _, _, _, _⟩) (v := undef) rfl (by kernel_rfl) (by kernel_rfl) (by kernel_rfl) (fun _ _ _ h => h) (Or.inr ⟨by rfl, rfl⟩) (by assumption) ?_
        try simp only [Act.put, List.setIfInBounds_toArray, List.set_cons_zero, List.set_cons_succ]
        refine wpAnyH_take (i := 13) (oi := ⟨some 36, _, _, _, _, _⟩) (v := undef) rfl (by kernel_rfl) (by kernel_rfl) (by kernel_rfl) (fun _ _ _ h => h) (Or.inr ⟨by rfl, rfl⟩) (by assumption) ?_
        try simp only [Act.put, List.setIfInBounds_toArray, List.set_cons_zero, List.set_cons_succ]
        refine wpAnyH_take (i := 14) (oi := ⟨some 37, _, _, _, _, _⟩) (v := undef) rfl (by kernel_rfl) (by kernel_rfl) (by kernel_rfl) (fun _ _ _ h => h) (Or.inr ⟨by rfl, rfl⟩) (by assumption) ?_
        try simp only [Act.put, List.setIfInBounds_toArray, List.set_cons_zero, List.set_cons_succ]
        refine wpAnyH_take (i := 15) (oi := ⟨some 38, _, _, _, _, _⟩) (v := undef) rfl (by kernel_rfl) (by kernel_rfl) (by kernel_rfl) (fun _ _ _ h => h) (Or.inr ⟨by rfl, rfl⟩) (by assumption) ?_
        try simp only [Act.put, List.setIfInBounds_toArray, List.set_cons_zero, List.set_cons_succ]
        refine wpAnyH_take (i := 16) (oi := ⟨some 39, _, _, _, _, _⟩) (v := undef) rfl (by kernel_rfl) (by kernel_rfl) (by kernel_rfl) (fun _ _ _ h => h) (Or.inr ⟨by rfl, rfl⟩) (by assumption) ?_
        try simp only [Act.put, List.setIfInBounds_toArray, List.set_cons_zero, List.set_cons_succ]
        refine wpAnyH_take (i := 17) (oi := ⟨some 40, _, _, _, _, _⟩) (v := undef) rfl (by kernel_rfl) (by kernel_rfl) (by kernel_rfl) (fun _ _ _ h => h) (Or.inr ⟨by rfl, rfl⟩) (by assumption) ?_
        try simp only [Act.put, List.setIfInBounds_toArray, List.set_cons_zero, List.set_cons_succ]
        refine wpAnyH_take (i := 18) (oi := ⟨some 41, _, _, _, _, _⟩) (v := .bool true) rfl (by kernel_rfl) (by kernel_rfl) (by kernel_rfl) (fun _ _ _ h => h) (Or.inl ⟨by rfl, ?_⟩) (by assumption) ?_
        · (intro w hSw; obtain ⟨-, ⟨c0, c1, c2, c3, c4, c5, c6, c7, c8, c9⟩, k0, k1, k2⟩ := hSw; go_simp)
        try simp only [Act.put, List.setIfInBounds_toArray, List.set_cons_zero, List.set_cons_succ]
        refine wpAnyH_done (by kernel_rfl) ?_ _
        go_wp2
        go_ret2
        obtain rfl := hu.out
        exact ⟨below_trans HB3.out hb4, rfl⟩
      | true =>
        rw [hkb] at HKX
        simp only [if_true] at HKX
        have HKP := Lib.hid (keyB_iff.1 hkb)
        have HUC2 : Hid (U = (!(match pre.getLast?.map Km.k with | none => false | some y => geS y.key S) && upB ses (some ⟨S, D, ws⟩) (r.map Km.k))) := Lib.hid (by rw [HUC.out, hkb, Bool.true_and])
        clear hkb
        go_wp2_with fail
        obtain ⟨w3, hw3⟩ : ∃ w3, (wr.alloc (.cells #[.string S, .int .i64 D, .slice A2 ws.length cap2] 29)) = w3 := ⟨_, rfl⟩
        rw [hw3] at HB3 HK3 HC3 HW3 ⊢
        have hz3 : wr.heap.size < w3.heap.size := HK3.out.lt
        clear hw3
        have HST : Hid (∀ w, Below w3.heap.size w3 w → (w.cell? ⟨W.heap.size, 0, none⟩ = some (.int .i64 c.g) ∧ w.cell? ⟨W.heap.size, 1, none⟩ = some (.int .i64 c.so) ∧ w.cell? ⟨W.heap.size, 2, none⟩ = some (.int .i64 c.k) ∧ w.cell? ⟨W.heap.size, 3, none⟩ = some (.int .i64 c.sz) ∧ w.cell? ⟨W.heap.size, 4, none⟩ = some (.int .i64 c.sl) ∧ w.cell? ⟨W.heap.size, 5, none⟩ = some (.int .i64 c.o) ∧ w.cell? ⟨W.heap.size, 6, none⟩ = some (.int .i64 c.ga) ∧ w.cell? ⟨W.heap.size, 7, none⟩ = some (.int .i64 c.la) ∧ w.cell? ⟨W.heap.size, 8, none⟩ = some (.int .i64 c.ea) ∧ w.cell? ⟨W.heap.size, 9, none⟩ = some (.bool c.di)) ∧ w.cell? ⟨wr.heap.size, 0, none⟩ = some (.string S) ∧ w.cell? ⟨wr.heap.size, 1, none⟩ = some (.int .i64 D) ∧ w.cell? ⟨wr.heap.size, 2, none⟩ = some (.slice A2 ws.length cap2)) := Lib.hid fun w hb => by
          have h1 := HC3.out.below hb
          have h2 := HK3.out.below hb
          exact ⟨⟨h1.cell 0, h1.cell 1, h1.cell 2, h1.cell 3, h1.cell 4, h1.cell 5, h1.cell 6, h1.cell 7, h1.cell 8, h1.cell 9⟩, h2.cell 0, h2.cell 1, h2.cell 2⟩
        cases YK with
        | none =>
          have hj0 := hY3 rfl
          have HU3 : Hid (U = upB ses (some ⟨S, D, ws⟩) (r.map Km.k)) := Lib.hid (by
            have : pre.getLast?.map Km.k = none := by
              cases h : pre.getLast?.map Km.k with
              | none => rfl
              | some y => have := HY1.out y h; cases this
            rw [HUC2.out, this]; rfl)
          clear hY3 hY4
          subst hj0
          refine wp_region_held_drew (S := (fun w => Below w3.heap.size w3 w ∧ (w.cell? ⟨W.heap.size, 0, none⟩ = some (.int .i64 c.g) ∧ w.cell? ⟨W.heap.size, 1, none⟩ = some (.int .i64 c.so) ∧ w.cell? ⟨W.heap.size, 2, none⟩ = some (.int .i64 c.k) ∧ w.cell? ⟨W.heap.size, 3, none⟩ = some (.int .i64 c.sz) ∧ w.cell? ⟨W.heap.size, 4, none⟩ = some (.int .i64 c.sl) ∧ w.cell? ⟨W.heap.size, 5, none⟩ = some (.int .i64 c.o) ∧ w.cell? ⟨W.heap.size, 6, none⟩ = some (.int .i64 c.ga) ∧ w.cell? ⟨W.heap.size, 7, none⟩ = some (.int .i64 c.la) ∧ w.cell? ⟨W.heap.size, 8, none⟩ = some (.int .i64 c.ea) ∧ w.cell? ⟨W.heap.size, 9, none⟩ = some (.bool c.di)) ∧ w.cell? ⟨wr.heap.size, 0, none⟩ = some (.string S) ∧ w.cell? ⟨wr.heap.size, 1, none⟩ = some (.int .i64 D) ∧ w.cell? ⟨wr.heap.size, 2, none⟩ = some (.slice A2 ws.length cap2))) (by kernel_rfl) ⟨below_drew w3, HST.out _ (below_drew w3)⟩ (fun hHeld => ?_)
          refine wpAnyH_take (i := 0) (oi := ⟨some 23, _, _, _, _, _⟩) (v := .agg #[.int .i64 c.g, .int .i64 c.so, .int .i64 c.k, .int .i64 c.sz, .int .i64 c.sl, .int .i64 c.o, .int .i64 c.ga, .int .i64 c.la, .int .i64 c.ea, .bool c.di]) rfl (by kernel_rfl) (by kernel_rfl) (by kernel_rfl) (fun _ _ _ h => h) (Or.inl ⟨by rfl, ?_⟩) (by assumption) ?_
          · (intro w hSw; obtain ⟨-, ⟨c0, c1, c2, c3, c4, c5, c6, c7, c8, c9⟩, k0, k1, k2⟩ := hSw; go_simp)
          try simp only [Act.put, List.setIfInBounds_toArray, List.set_cons_zero, List.set_cons_succ]
          refine wpAnyH_take (i := 1) (oi := ⟨some 24, _, _, _, _, _⟩) (v := .agg #[.string S, .int .i64 D, .slice A2 ws.length cap2]) rfl (by kernel_rfl) (by kernel_rfl) (by kernel_rfl) (fun _ _ _ h => h) (Or.inl ⟨by rfl, ?_⟩) (by assumption) ?_
          · (intro w hSw; obtain ⟨-, ⟨c0, c1, c2, c3, c4, c5, c6, c7, c8, c9⟩, k0, k1, k2⟩ := hSw; go_simp)
          try simp only [Act.put, List.setIfInBounds_toArray, List.set_cons_zero, List.set_cons_succ]
          refine wpAnyH_ready (rs := [2]) (by kernel_rfl) (by simp) ?_
          refine AllReadyH.cons rfl (fun K hK => ?_) AllReadyH.nil
          go_simp
          (go_at_call 50; (with_reducible refine (HKX.out _ (below_trans HB3.out (below_drew _))).mono ?_); rintro e w4 ⟨rfl, hb4'⟩; have hb4 : Below w3.heap.size w3 w4 := below_trans (below_drew w3) hb4')
          clear hHeld
          refine hK.out _ _ ⟨hb4, HST.out _ hb4⟩ (fun hHeld => ?_)
          clear hK
          try simp only [Act.put, List.setIfInBounds_toArray, List.set_cons_zero, List.set_cons_succ]
          refine wpAnyH_take (i := 3) (oi := ⟨some 26, _, _, _, _, _⟩) (v := .bool false) rfl (by kernel_rfl) (by kernel_rfl) (by kernel_rfl) (fun _ _ _ h => h) (Or.inl ⟨by rfl, ?_⟩) (by assumption) ?_
          · (intro w hSw; obtain ⟨-, ⟨c0, c1, c2, c3, c4, c5, c6, c7, c8, c9⟩, k0, k1, k2⟩ := hSw; go_simp)
          try simp only [Act.put, List.setIfInBounds_toArray, List.set_cons_zero, List.set_cons_succ]
          refine wpAnyH_take (i := 4) (oi := ⟨some 27, _, _, _, _, _⟩) (v := .bool false) rfl (by kernel_rfl) (by kernel_rfl) (by kernel_rfl) (fun _ _ _ h => h) (Or.inl ⟨by rfl, ?_⟩) (by assumption) ?_
          · (intro w hSw; obtain ⟨-, ⟨c0, c1, c2, c3, c4, c5, c6, c7, c8, c9⟩, k0, k1, k2⟩ := hSw; go_simp)
          try simp only [Act.put, List.setIfInBounds_toArray, List.set_cons_zero, List.set_cons_succ]
          refine wpAnyH_take (i := 5) (oi := ⟨some 28, _, _, _, _, _⟩) (v := .int .i64 0) rfl (by kernel_rfl) (by kernel_rfl) (by kernel_rfl) (fun _ _ _ h => h) (Or.inl ⟨by rfl, ?_⟩) (by assumption) ?_
          · (intro w hSw; obtain ⟨-, ⟨c0, c1, c2, c3, c4, c5, c6, c7, c8, c9⟩, k0, k1, k2⟩ := hSw; go_simp)
          try simp only [Act.put, List.setIfInBounds_toArray, List.set_cons_zero, List.set_cons_succ]
          refine wpAnyH_take (i := 6) (oi := ⟨some 29, _, _, _, _, _⟩) (v := .bool false) rfl (by kernel_rfl) (by kernel_rfl) (by kernel_rfl) (fun _ _ _ h => h) (Or.inl ⟨by rfl, ?_⟩) (by assumption) ?_
          · (intro w hSw; obtain ⟨-, ⟨c0, c1, c2, c3, c4, c5, c6, c7, c8, c9⟩, k0, k1, k2⟩ := hSw; go_simp)
          try simp only [Act.put, List.setIfInBounds_toArray, List.set_cons_zero, List.set_cons_succ]
          refine wpAnyH_take (i := 7) (oi := ⟨some 30, _, _, _, _, _⟩) (v := .bool false) rfl (by kernel_rfl) (by kernel_rfl) (by kernel_rfl) (fun _ _ _ h => h) (Or.inl ⟨by rfl, ?_⟩) (by assumption) ?_
          · (intro w hSw; obtain ⟨-, ⟨c0, c1, c2, c3, c4, c5, c6, c7, c8, c9⟩, k0, k1, k2⟩ := hSw; go_simp)
          try simp only [Act.put, List.setIfInBounds_toArray, List.set_cons_zero, List.set_cons_succ]
          refine wpAnyH_take (i := 8) (oi := ⟨some 31, _, _, _, _, _⟩) (v := undef) rfl (by kernel_rfl) (by kernel_rfl) (by kernel_rfl) (fun _ _ _ h => h) (Or.inr ⟨by rfl, rfl⟩) (by assumption) ?_
          try simp only [Act.put, List.setIfInBounds_toArray, List.set_cons_zero, List.set_cons_succ]
          refine wpAnyH_take (i := 9) (oi := ⟨some 32, _, _, _, _, _⟩) (v := undef) rfl (by kernel_rfl) (by kernel_rfl) (by kernel_rfl) (fun _ _ _ h => h) (Or.inr ⟨by rfl, rfl⟩) (by assumption) ?_
          try simp only [Act.put, List.setIfInBounds_toArray, List.set_cons_zero, List.set_cons_succ]
          refine wpAnyH_take (i := 10) (oi := ⟨some 33, _, _, _, _, _⟩) (v := undef) rfl (by kernel_rfl) (by kernel_rfl) (by kernel_rfl) (fun _ _ _ h => h) (Or.inr ⟨by rfl, rfl⟩) (by assumption) ?_
          try simp only [Act.put, List.setIfInBounds_toArray, List.set_cons_zero, List.set_cons_succ]
          refine wpAnyH_take (i := 11) (oi := ⟨some 34, _, _, _, _, _⟩) (v := undef) rfl (by kernel_rfl) (by kernel_rfl) (by kernel_rfl) (fun _ _ _ h => h) (Or.inr ⟨by rfl, rfl⟩) (by assumption) ?_
          try simp only [Act.put, List.setIfInBounds_toArray, List.set_cons_zero, List.set_cons_succ]
          refine wpAnyH_take (i := 12) (oi := ⟨some 35, _, _, _, _, _⟩) (v := undef) rfl (by kernel_rfl) (by kernel_rfl) (by kernel_rfl) (fun _ _ _ h => h) (Or.inr ⟨by rfl, rfl⟩) (by assumption) ?_
          try simp only [Act.put, List.setIfInBounds_toArray, List.set_cons_zero, List.set_cons_succ]
          refine wpAnyH_take (i := 13) (oi := ⟨some 36, _, _, _, _, _⟩) (v := undef) rfl (by kernel_rfl) (by kernel_rfl) (by kernel_rfl) (fun _ _ _ h => h) (Or.inr ⟨by rfl, rfl⟩) (by assumption) ?_
          try simp only [Act.put, List.setIfInBounds_toArray, List.set_cons_zero, List.set_cons_succ]
          refine wpAnyH_take (i := 14) (oi := ⟨some 37, _, _, _, _, _⟩) (v := undef) rfl (by kernel_rfl) (by kernel_rfl) (by kernel_rfl) (fun _ _ _ h => h) (Or.inr ⟨by rfl, rfl⟩) (by assumption) ?_
          try simp only [Act.put, List.setIfInBounds_toArray, List.set_cons_zero, List.set_cons_succ]
          refine wpAnyH_take (i := 15) (oi := ⟨some 38, _, _, _, _, _⟩) (v := undef) rfl (by kernel_rfl) (by kernel_rfl) (by kernel_rfl) (fun _ _ _ h => h) (Or.inr ⟨by rfl, rfl⟩) (by assumption) ?_
          try simp only [Act.put, List.setIfInBounds_toArray, List.set_cons_zero, List.set_cons_succ]
          refine wpAnyH_take (i := 16) (oi := ⟨some 39, _, _, _, _, _⟩) (v := undef) rfl (by kernel_rfl) (by kernel_rfl) (by kernel_rfl) (fun _ _ _ h => h) (Or.inr ⟨by rfl, rfl⟩) (by assumption) ?_
          try simp only [Act.put, List.setIfInBounds_toArray, List.set_cons_zero, List.set_cons_succ]
          refine wpAnyH_take (i := 17) (oi := ⟨some 40, _, _, _, _, _⟩) (v := .bool false) rfl (by kernel_rfl) (by kernel_rfl) (by kernel_rfl) (fun _ _ _ h => h) (Or.inl ⟨by rfl, ?_⟩) (by assumption) ?_
          · (intro w hSw; obtain ⟨-, ⟨c0, c1, c2, c3, c4, c5, c6, c7, c8, c9⟩, k0, k1, k2⟩ := hSw; go_simp)
          try simp only [Act.put, List.setIfInBounds_toArray, List.set_cons_zero, List.set_cons_succ]
          refine wpAnyH_take (i := 18) (oi := ⟨some 41, _, _, _, _, _⟩) (v := .bool false) rfl (by kernel_rfl) (by kernel_rfl) (by kernel_rfl) (fun _ _ _ h => h) (Or.inl ⟨by rfl, ?_⟩) (by assumption) ?_
          · (intro w hSw; obtain ⟨-, ⟨c0, c1, c2, c3, c4, c5, c6, c7, c8, c9⟩, k0, k1, k2⟩ := hSw; go_simp)
          try simp only [Act.put, List.setIfInBounds_toArray, List.set_cons_zero, List.set_cons_succ]
          refine wpAnyH_done (by kernel_rfl) ?_ _
          have HB4 := Lib.hid hb4
          have HBE4 : Hid (Below W.heap.size W w4) := Lib.hid (below_trans HB3.out hb4)
          have HW4 := Lib.hid (HW3.out.below hb4)
          have k0 := (HST.out _ hb4).2.1
          have k1 := (HST.out _ hb4).2.2.1
          have k2 := (HST.out _ hb4).2.2.2
          clear hb4 hb4'
          go_wp2_with fail
          refine (HPX.out _ _ HW4.out HBE4.out HKP.out).mono ?_
          rintro e w5 ⟨rfl, v5, hw5, hc5⟩
          have HW5 : Hid (Wr w5 W.heap.size g v5 (allB ((pre ++ [(⟨⟨S, D, ws⟩, A2, cap2⟩ : Km)]).map Km.k))) := Lib.hid (by rw [List.map_append, List.map_cons, List.map_nil, allB_snoc]; exact hw5)
          have HB5 : Hid (Below W.heap.size W w5) := Lib.hid (HBE4.out.trans (hc5.below HBE4.out.size (by omega) (fun r h => (HW4.out.own.lt r h).1)))
          have HC5 : Hid (Bk w5 W.heap.size 24 #[.int .i64 c.g, .int .i64 c.so, .int .i64 c.k, .int .i64 c.sz, .int .i64 c.sl, .int .i64 c.o, .int .i64 c.ga, .int .i64 c.la, .int .i64 c.ea, .bool c.di]) := Lib.hid ((HC3.out.below HB4.out).wch hc5 (by omega) (own_bk_ne HW4.out.own (HC3.out.below HB4.out) (by decide)))
          have HL5 : Hid ((allB ((pre ++ [(⟨⟨S, D, ws⟩, A2, cap2⟩ : Km)]).map Km.k)).length ≤ kroom ((pre ++ [(⟨⟨S, D, ws⟩, A2, cap2⟩ : Km)]).map Km.k)) := Lib.hid (by
            have h1 := HLEN.out
            have h2 := keyBytes_len HKP.out HXF.out (by have := HRM.out; simp only at this ⊢; omega)
            rw [List.map_append, List.map_cons, List.map_nil, allB_snoc, List.length_append, kroom_append]
            simp only [kroom] at h2 ⊢
            omega)
          clear hw5 hc5 k0 k1 k2
          go_wp2
          go_roundw
          case rel => exact ⟨pre ++ [⟨⟨S, D, ws⟩, A2, cap2⟩], r, v5, by rw [List.length_append, HJ.out]; go_num, by rw [HL.out]; simp, by rw [HU3.out]; simp, HW5.out, HL5.out, HC5.out, HB5.out⟩
          case measure => simp [intOf]; omega
        | some K =>
          obtain ⟨p, rfl, hz⟩ := hY4 K rfl
          have HG : Hid (U = (!geS K S && upB ses (some ⟨S, D, ws⟩) (r.map Km.k))) := Lib.hid (by
            cases h : pre.getLast?.map Km.k with
            | none => have := HY2.out h; cases this
            | some y => have e := HY1.out y h; cases e; rw [HUC2.out, h])
          clear hY3 hY4
          have hzW : W.cell? ⟨q, off + p * 3, none⟩ = some (.string K) := (HBEL.out.cell (p := ⟨q, off + p * 3, none⟩) hqW).symm.trans hz
          have HSZ : Hid (∀ w, Below w3.heap.size w3 w → (w.cell? ⟨W.heap.size, 0, none⟩ = some (.int .i64 c.g) ∧ w.cell? ⟨W.heap.size, 1, none⟩ = some (.int .i64 c.so) ∧ w.cell? ⟨W.heap.size, 2, none⟩ = some (.int .i64 c.k) ∧ w.cell? ⟨W.heap.size, 3, none⟩ = some (.int .i64 c.sz) ∧ w.cell? ⟨W.heap.size, 4, none⟩ = some (.int .i64 c.sl) ∧ w.cell? ⟨W.heap.size, 5, none⟩ = some (.int .i64 c.o) ∧ w.cell? ⟨W.heap.size, 6, none⟩ = some (.int .i64 c.ga) ∧ w.cell? ⟨W.heap.size, 7, none⟩ = some (.int .i64 c.la) ∧ w.cell? ⟨W.heap.size, 8, none⟩ = some (.int .i64 c.ea) ∧ w.cell? ⟨W.heap.size, 9, none⟩ = some (.bool c.di)) ∧ (w.cell? ⟨wr.heap.size, 0, none⟩ = some (.string S) ∧ w.cell? ⟨wr.heap.size, 1, none⟩ = some (.int .i64 D) ∧ w.cell? ⟨wr.heap.size, 2, none⟩ = some (.slice A2 ws.length cap2)) ∧ w.cell? ⟨q, off + p * 3, none⟩ = some (.string K)) := Lib.hid fun w hb => ⟨(HST.out w hb).1, (HST.out w hb).2, ((below_trans HB3.out hb).cell (p := ⟨q, off + p * 3, none⟩) hqW).trans hzW⟩
          clear hzW hz
          have hw1 : IntKind.i64.wrap (p : Int) = (p : Int) := IntWalk.i64_in _ (by omega)
          have hw2 : IntKind.i64.wrap ((p : Int) + 1 - 1) = (p : Int) := by rw [Int.add_sub_cancel]; exact hw1
          have hw3 : IntKind.i64.wrap ((p : Int) + 1) = (p : Int) + 1 := IntWalk.i64_in _ (by omega)
          have hi0 : (0 : Int) ≤ (p : Int) := by omega
          have hin : (p : Int) < (n : Int) := by omega
          have hin' : p < n := by omega
          have hd0 : decide ((0 : Int) < (p : Int) + 1) = true := by rw [decide_eq_true_eq]; omega
          cases hbl : Op.bytesLess K.toList S.toList with
          | false =>
            have hu : Hid (U = false) := Lib.hid (by rw [HG.out]; unfold geS; rw [hbl]; rfl)
            go_region_held3 (fun w => Below w3.heap.size w3 w ∧ (w.cell? ⟨W.heap.size, 0, none⟩ = some (.int .i64 c.g) ∧ w.cell? ⟨W.heap.size, 1, none⟩ = some (.int .i64 c.so) ∧ w.cell? ⟨W.heap.size, 2, none⟩ = some (.int .i64 c.k) ∧ w.cell? ⟨W.heap.size, 3, none⟩ = some (.int .i64 c.sz) ∧ w.cell? ⟨W.heap.size, 4, none⟩ = some (.int .i64 c.sl) ∧ w.cell? ⟨W.heap.size, 5, none⟩ = some (.int .i64 c.o) ∧ w.cell? ⟨W.heap.size, 6, none⟩ = some (.int .i64 c.ga) ∧ w.cell? ⟨W.heap.size, 7, none⟩ = some (.int .i64 c.la) ∧ w.cell? ⟨W.heap.size, 8, none⟩ = some (.int .i64 c.ea) ∧ w.cell? ⟨W.heap.size, 9, none⟩ = some (.bool c.di)) ∧ (w.cell? ⟨wr.heap.size, 0, none⟩ = some (.string S) ∧ w.cell? ⟨wr.heap.size, 1, none⟩ = some (.int .i64 D) ∧ w.cell? ⟨wr.heap.size, 2, none⟩ = some (.slice A2 ws.length cap2)) ∧ w.cell? ⟨q, off + p * 3, none⟩ = some (.string K))
              (first
                | exact ⟨below_drew w3, HSZ.out _ (below_drew w3)⟩
                | exact ⟨hb4, HSZ.out _ hb4⟩)
              ((go_at_call 50; (with_reducible refine (HKX.out _ (below_trans HB3.out (below_drew _))).mono ?_); rintro e w4 ⟨rfl, hb4'⟩; have hb4 : Below w3.heap.size w3 w4 := below_trans (below_drew w3) hb4'))
            go_wp2
            go_ret2
            obtain rfl := hu.out
            exact ⟨below_trans HB3.out hb4, rfl⟩
          | true =>
            have HU3 : Hid (U = upB ses (some ⟨S, D, ws⟩) (r.map Km.k)) := Lib.hid (by rw [HG.out]; unfold geS; rw [hbl]; simp)
            go_region_held3 (fun w => Below w3.heap.size w3 w ∧ (w.cell? ⟨W.heap.size, 0, none⟩ = some (.int .i64 c.g) ∧ w.cell? ⟨W.heap.size, 1, none⟩ = some (.int .i64 c.so) ∧ w.cell? ⟨W.heap.size, 2, none⟩ = some (.int .i64 c.k) ∧ w.cell? ⟨W.heap.size, 3, none⟩ = some (.int .i64 c.sz) ∧ w.cell? ⟨W.heap.size, 4, none⟩ = some (.int .i64 c.sl) ∧ w.cell? ⟨W.heap.size, 5, none⟩ = some (.int .i64 c.o) ∧ w.cell? ⟨W.heap.size, 6, none⟩ = some (.int .i64 c.ga) ∧ w.cell? ⟨W.heap.size, 7, none⟩ = some (.int .i64 c.la) ∧ w.cell? ⟨W.heap.size, 8, none⟩ = some (.int .i64 c.ea) ∧ w.cell? ⟨W.heap.size, 9, none⟩ = some (.bool c.di)) ∧ (w.cell? ⟨wr.heap.size, 0, none⟩ = some (.string S) ∧ w.cell? ⟨wr.heap.size, 1, none⟩ = some (.int .i64 D) ∧ w.cell? ⟨wr.heap.size, 2, none⟩ = some (.slice A2 ws.length cap2)) ∧ w.cell? ⟨q, off + p * 3, none⟩ = some (.string K))
              (first
                | exact ⟨below_drew w3, HSZ.out _ (below_drew w3)⟩
                | exact ⟨hb4, HSZ.out _ hb4⟩)
              ((go_at_call 50; (with_reducible refine (HKX.out _ (below_trans HB3.out (below_drew _))).mono ?_); rintro e w4 ⟨rfl, hb4'⟩; have hb4 : Below w3.heap.size w3 w4 := below_trans (below_drew w3) hb4'))
            have HB4 := Lib.hid hb4
            have HBE4 : Hid (Below W.heap.size W w4) := Lib.hid (below_trans HB3.out hb4)
            have HW4 := Lib.hid (HW3.out.below hb4)
            have k0 := (HST.out _ hb4).2.1
            have k1 := (HST.out _ hb4).2.2.1
            have k2 := (HST.out _ hb4).2.2.2
            clear hb4 hb4'
            go_wp2_with fail
            refine (HPX.out _ _ HW4.out HBE4.out HKP.out).mono ?_
            rintro e w5 ⟨rfl, v5, hw5, hc5⟩
            have HW5 : Hid (Wr w5 W.heap.size g v5 (allB ((pre ++ [(⟨⟨S, D, ws⟩, A2, cap2⟩ : Km)]).map Km.k))) := Lib.hid (by rw [List.map_append, List.map_cons, List.map_nil, allB_snoc]; exact hw5)
            have HB5 : Hid (Below W.heap.size W w5) := Lib.hid (HBE4.out.trans (hc5.below HBE4.out.size (by omega) (fun r h => (HW4.out.own.lt r h).1)))
            have HC5 : Hid (Bk w5 W.heap.size 24 #[.int .i64 c.g, .int .i64 c.so, .int .i64 c.k, .int .i64 c.sz, .int .i64 c.sl, .int .i64 c.o, .int .i64 c.ga, .int .i64 c.la, .int .i64 c.ea, .bool c.di]) := Lib.hid ((HC3.out.below HB4.out).wch hc5 (by omega) (own_bk_ne HW4.out.own (HC3.out.below HB4.out) (by decide)))
            have HL5 : Hid ((allB ((pre ++ [(⟨⟨S, D, ws⟩, A2, cap2⟩ : Km)]).map Km.k)).length ≤ kroom ((pre ++ [(⟨⟨S, D, ws⟩, A2, cap2⟩ : Km)]).map Km.k)) := Lib.hid (by
              have h1 := HLEN.out
              have h2 := keyBytes_len HKP.out HXF.out (by have := HRM.out; simp only at this ⊢; omega)
              rw [List.map_append, List.map_cons, List.map_nil, allB_snoc, List.length_append, kroom_append]
              simp only [kroom] at h2 ⊢
              omega)
            clear hw5 hc5 k0 k1 k2
            go_wp2
            go_roundw
            case rel => exact ⟨pre ++ [⟨⟨S, D, ws⟩, A2, cap2⟩], r, v5, by rw [List.length_append, HJ.out]; go_num, by rw [HL.out]; simp, by rw [HU3.out]; simp, HW5.out, HL5.out, HC5.out, HB5.out⟩
            case measure => simp [intOf]; omega
end Go.Proofs.Ytaechgnjdjijkaa
