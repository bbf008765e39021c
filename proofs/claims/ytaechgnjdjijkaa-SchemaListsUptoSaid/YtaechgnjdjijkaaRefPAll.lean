/- The document's PutAll. -/
import Derived.Test.YtaechgnjdjijkaaRefW
import Derived.Test.YtaechgnjdjijkaaPutAll
namespace Go.Proofs.Ytaechgnjdjijkaa
open Go.RowKit Go.Lib

set_option maxRecDepth 100000 in
theorem refPutAll_job (c : Cf) (hf : c.Fit) (hj : job c = false) (A : Option Addr) (n cap : Nat) (W : World) : Calls Try.prog 28 #[c.val, .slice A n cap] W fun e w' => e = .returned (.tuple #[.slice none 0 0, .int .i64 4]) ∧ Below W.heap.size W w' := by
  have hc := Job_any c hf
  rw [hj] at hc
  have HC := Lib.hid hc
  clear hc hj hf
  unfold Cf.val at *
  go_enter Try.func28, Try.ntmps28
  go_wp2_with (first
    | (go_at_call 41; (with_reducible refine (HC.out _).mono ?_); rintro e w1 ⟨rfl, hb⟩; have HB := Lib.hid hb; clear hb))
  go_ret2
  exact ⟨rfl, below_trans (below_alloc W _) HB.out⟩
set_option maxRecDepth 100000 in
set_option maxHeartbeats 2000000 in
theorem refPutAll_row (c : Cf) (hf : c.Fit) (hj : job c = true) (A : Option Addr) (n cap : Nat) (L : List Km) (W : World) (hr : Rks W (.slice A n cap) n L) (hfit : ∀ x ∈ L, x.k.Fit) (hroom : kroom (L.map Km.k) + 200 ≤ 140737488355328) :
    Calls Try.prog 28 #[c.val, .slice A n cap] W (PutAllAns W (upB (c.k == 3) none (L.map Km.k)) (allB (L.map Km.k))) := by
  have hc := Job_any c hf
  rw [hj] at hc
  have HC := Lib.hid hc
  have HK : Hid (∀ (k : Kn) (kv : Value) (w : World), Rk w kv k → Calls Try.prog 46 #[c.val, kv] w fun e w' => e = .returned (.bool (keyB (c.k == 3) k)) ∧ Below w.heap.size w w') := Lib.hid fun k kv w h => refKey_any c k kv w h
  obtain ⟨ses, hses⟩ : ∃ ses, (c.k == 3) = ses := ⟨_, rfl⟩
  rw [hses] at HK ⊢
  have HBY : Hid (∀ (k : Kn) (kv : Value) (w : World), Rk w kv k → k.Fit → KeyP ses k → k.key.size + 90 * k.ws.length + 200 ≤ 140737488355328 → Calls Try.prog 48 #[kv] w fun e w' => ∃ v', e = .returned v' ∧ Below w.heap.size w w' ∧ w'.ownsRow w.heap.size 5 1 v' (keyBytes k).length (bc (keyBytes k))) := Lib.hid fun k kv w h1 h2 h3 h4 => refBytes_any k kv w h1 h2 ses h3 h4
  obtain ⟨U, hU⟩ : ∃ U, upB ses none (L.map Km.k) = U := ⟨_, rfl⟩
  rw [hU]
  have HUU0 := Lib.hid hU
  have HR := Lib.hid hr
  have HFIT := Lib.hid hfit
  have HROOM := Lib.hid hroom
  have hLn := hr.len
  have hcap : n ≤ cap ∧ cap ≤ maxLen := by obtain ⟨_, _, hv, h1, h2, _⟩ := hr.rd; cases hv; exact ⟨h1, h2⟩
  unfold maxLen at hcap
  obtain ⟨hcap1, hcap2⟩ := hcap
  have HLN := Lib.hid hLn
  clear hU hr hfit hroom hc hj hf hses hLn
  obtain ⟨i0, hi0, hz0, hz1, hz2⟩ := info_parts u8Info
  unfold Cf.val at *
  go_enter Try.func28, Try.ntmps28
  go_wp2_with fail
  refine (HC.out _).mono ?_
  rintro e w1 ⟨rfl, hb1⟩
  have HB1 : Hid (Below W.heap.size W w1) := Lib.hid (below_trans (below_alloc W _) hb1)
  have HK1 : Hid (Bk w1 W.heap.size 24 #[.int .i64 c.g, .int .i64 c.so, .int .i64 c.k, .int .i64 c.sz, .int .i64 c.sl, .int .i64 c.o, .int .i64 c.ga, .int .i64 c.la, .int .i64 c.ea, .bool c.di]) := Lib.hid ((Bk.new W _ _).below hb1)
  clear hb1
  go_wp2_with fail
  go_loopw [6, 7] (fun ov jv wr => ∃ (pre r : List Km) (Av : Option Addr) (cv nb : Nat), jv = .int .i64 (pre.length : Int) ∧ ov = .slice Av nb cv ∧ L = pre ++ r ∧ U = upB ses (pre.getLast?.map Km.k) (r.map Km.k) ∧ wr.ownsRow W.heap.size 5 1 (.slice Av nb cv) nb (bc (allB (pre.map Km.k))) ∧ (allB (pre.map Km.k)).length = nb ∧ nb ≤ kroom (pre.map Km.k) ∧ Bk wr W.heap.size 24 #[.int .i64 c.g, .int .i64 c.so, .int .i64 c.k, .int .i64 c.sz, .int .i64 c.sl, .int .i64 c.o, .int .i64 c.ga, .int .i64 c.la, .int .i64 c.ea, .bool c.di] ∧ Below W.heap.size W wr) (fun _ jv _ => n - (intOf jv).toNat)
  case atStart => exact ⟨[], L, none, 0, 0, rfl, rfl, rfl, HUU0.out.symm, World.ownsRow_nil _ _ _ _, rfl, Nat.zero_le _, HK1.out, HB1.out⟩
  case round =>
    obtain ⟨pre, r, Av, cv, nb, rfl, rfl, hL, hU, how, hnb, hlen, hbk, hbel⟩ := hrel
    have HL := Lib.hid hL
    have HUU := Lib.hid hU
    have HOW := Lib.hid how
    have HNB := Lib.hid hnb
    have HLEN := Lib.hid hlen
    have HBK := Lib.hid hbk
    have HBEL := Lib.hid hbel
    have hcv : nb ≤ cv ∧ cv ≤ maxLen := by obtain ⟨_, _, hv, h1, h2⟩ := ownsRow_shape how; cases hv; exact ⟨h1, h2⟩
    unfold maxLen at hcv
    obtain ⟨hcv1, hcv2⟩ := hcv
    have hszr : W.heap.size < wr.heap.size := hbk.lt
    have hln : pre.length + r.length = n := by have := HLN.out; rw [hL, List.length_append] at this; exact this
    obtain ⟨j, hj⟩ : ∃ j, pre.length = j := ⟨_, rfl⟩
    have HJ := Lib.hid hj
    rw [hj] at hln ⊢
    clear hj
    cases r with
    | nil =>
      have hjn : j = n := by simpa using hln
      subst hjn
      have hut : U = true := hU
      have hLp : L = pre := by rw [hL]; simp
      have HUT := Lib.hid hut
      have HLP := Lib.hid hLp
      clear hL hU how hnb hlen hbk hbel hut hLp
      have hd : decide ((j : Int) < (j : Int)) = false := by simp
      go_wp2
      go_ret2
      have hut := HUT.out
      have hLp := HLP.out
      subst hut hLp
      refine ⟨HBEL.out, Av, cv, ?_, ?_⟩
      · show _ = Ending.returned (.tuple #[.slice Av (allB (L.map Km.k)).length cv, .int .i64 0])
        rw [HNB.out]
        rfl
      · rw [HNB.out]; exact HOW.out
    | cons x r =>
      have hxL : L[j]? = some x := by rw [hL, ← HJ.out]; simp
      have hxm : x ∈ L := List.mem_of_getElem? hxL
      obtain ⟨q, off, rfl, hql, z0, z1, z2⟩ := rks_at (HR.out.below hbel) hxL
      have HXO := Lib.hid (HR.out.ok x hxm)
      have HXF := Lib.hid (HFIT.out x hxm)
      have hjn : j < n := by simp only [List.length_cons] at hln; omega
      have hROOM2 : kroom (pre.map Km.k) + (x.k.key.size + 90 * x.k.ws.length + 40) + 200 ≤ 140737488355328 := by
        have := HROOM.out
        rw [hL, List.map_append, kroom_append, List.map_cons, kroom] at this
        omega
      have HRM := Lib.hid hROOM2
      have hdec : decide (j < n) = true := by simpa using hjn
      have hj0 : (0 : Int) ≤ (j : Int) := by omega
      have hj1 : (j : Int) < (n : Int) := by omega
      have hZ : ∀ w, Below wr.heap.size wr w → w.cell? ⟨q, off + j * 3, none⟩ = some (.string x.k.key) ∧ w.cell? ⟨q, off + j * 3 + 1, none⟩ = some (.int .i64 x.k.dr) ∧ w.cell? ⟨q, off + j * 3 + 2, none⟩ = some (.slice x.A x.k.ws.length x.cap) := fun w hb => by
        obtain ⟨q', off', hA, -, h0, h1, h2⟩ := rks_at (HR.out.below (below_trans hbel hb)) hxL
        cases hA
        exact ⟨h0, h1, h2⟩
      obtain ⟨⟨S, D, ws⟩, Ax, cx⟩ := x
      have HKX : Hid (∀ w, Below W.heap.size W w → Calls Try.prog 46 #[.agg #[.int .i64 c.g, .int .i64 c.so, .int .i64 c.k, .int .i64 c.sz, .int .i64 c.sl, .int .i64 c.o, .int .i64 c.ga, .int .i64 c.la, .int .i64 c.ea, .bool c.di], .agg #[.string S, .int .i64 D, .slice Ax ws.length cx]] w fun e w' => e = .returned (.bool (keyB ses ⟨S, D, ws⟩)) ∧ Below w.heap.size w w') := Lib.hid fun w hb => HK.out ⟨S, D, ws⟩ _ w ((HXO.out.below hb).rk)
      have HBYX : Hid (∀ w, Below W.heap.size W w → KeyP ses ⟨S, D, ws⟩ → Calls Try.prog 48 #[.agg #[.string S, .int .i64 D, .slice Ax ws.length cx]] w fun e w' => ∃ v', e = .returned v' ∧ Below w.heap.size w w' ∧ w'.ownsRow w.heap.size 5 1 v' (keyBytes ⟨S, D, ws⟩).length (bc (keyBytes ⟨S, D, ws⟩))) := Lib.hid fun w hb hkp => HBY.out ⟨S, D, ws⟩ _ w ((HXO.out.below hb).rk) HXF.out hkp (by have := HRM.out; simp only at this ⊢; omega)
      have HUC : Hid (U = (keyB ses ⟨S, D, ws⟩ && !(match pre.getLast?.map Km.k with | none => false | some y => geS y.key S) && upB ses (some ⟨S, D, ws⟩) (r.map Km.k))) := Lib.hid (by rw [HUU.out]; rfl)
      have HST : Hid (∀ w, Below wr.heap.size wr w → (w.cell? ⟨W.heap.size, 0, none⟩ = some (.int .i64 c.g) ∧ w.cell? ⟨W.heap.size, 1, none⟩ = some (.int .i64 c.so) ∧ w.cell? ⟨W.heap.size, 2, none⟩ = some (.int .i64 c.k) ∧ w.cell? ⟨W.heap.size, 3, none⟩ = some (.int .i64 c.sz) ∧ w.cell? ⟨W.heap.size, 4, none⟩ = some (.int .i64 c.sl) ∧ w.cell? ⟨W.heap.size, 5, none⟩ = some (.int .i64 c.o) ∧ w.cell? ⟨W.heap.size, 6, none⟩ = some (.int .i64 c.ga) ∧ w.cell? ⟨W.heap.size, 7, none⟩ = some (.int .i64 c.la) ∧ w.cell? ⟨W.heap.size, 8, none⟩ = some (.int .i64 c.ea) ∧ w.cell? ⟨W.heap.size, 9, none⟩ = some (.bool c.di)) ∧ w.cell? ⟨q, off + j * 3, none⟩ = some (.string S) ∧ w.cell? ⟨q, off + j * 3 + 1, none⟩ = some (.int .i64 D) ∧ w.cell? ⟨q, off + j * 3 + 2, none⟩ = some (.slice Ax ws.length cx)) := Lib.hid fun w hb => by
        have h1 := hbk.below hb
        exact ⟨⟨h1.cell 0, h1.cell 1, h1.cell 2, h1.cell 3, h1.cell 4, h1.cell 5, h1.cell 6, h1.cell 7, h1.cell 8, h1.cell 9⟩, hZ w hb⟩
      have hlast : ∃ YK : Option ByteArray, (∀ y, (pre.getLast?.map Km.k) = some y → YK = some y.key) ∧ ((pre.getLast?.map Km.k) = none → YK = none) ∧ (YK = none → j = 0) ∧ ∀ K, YK = some K → ∃ p, j = p + 1 ∧ ∀ w, Below wr.heap.size wr w → w.cell? ⟨q, off + p * 3, none⟩ = some (.string K) := by
        cases hgl2 : pre.getLast? with
        | none =>
          rw [List.getLast?_eq_none_iff] at hgl2
          exact ⟨none, by simp, by simp, fun _ => by rw [← HJ.out, hgl2]; rfl, by simp⟩
        | some y =>
          have hne : pre ≠ [] := fun e => by rw [e] at hgl2; simp at hgl2
          have hpl : 0 < pre.length := List.length_pos_iff.2 hne
          have hj := HJ.out
          have hyL : L[j - 1]? = some y := by
            rw [hL, ← hj, List.getElem?_append_left (by omega)]
            rw [List.getLast?_eq_getElem?] at hgl2
            exact hgl2
          refine ⟨some y.k.key, by simp, by simp, by simp, fun K hK => ⟨j - 1, by omega, fun w hb => ?_⟩⟩
          cases hK
          obtain ⟨q2, off2, hA, -, hz, -, -⟩ := rks_at (HR.out.below (below_trans HBEL.out hb)) hyL
          cases hA
          exact hz
      obtain ⟨YK, hY1, hY2, hY3, hY4⟩ := hlast
      have HY1 := Lib.hid hY1
      have HY2 := Lib.hid hY2
      clear hL hU how hnb hlen hbk hbel hxL hxm hROOM2 hY1 hY2 hZ z0 z1 z2
      cases hkb : keyB ses ⟨S, D, ws⟩ with
      | false =>
        rw [hkb] at HKX
        have hu : Hid (U = false) := Lib.hid (by rw [HUC.out, hkb]; rfl)
        clear hkb hY3 hY4
        go_wp2_with fail
        refine wp_region_held_drew (S := (fun w => Below wr.heap.size wr w ∧ (w.cell? ⟨W.heap.size, 0, none⟩ = some (.int .i64 c.g) ∧ w.cell? ⟨W.heap.size, 1, none⟩ = some (.int .i64 c.so) ∧ w.cell? ⟨W.heap.size, 2, none⟩ = some (.int .i64 c.k) ∧ w.cell? ⟨W.heap.size, 3, none⟩ = some (.int .i64 c.sz) ∧ w.cell? ⟨W.heap.size, 4, none⟩ = some (.int .i64 c.sl) ∧ w.cell? ⟨W.heap.size, 5, none⟩ = some (.int .i64 c.o) ∧ w.cell? ⟨W.heap.size, 6, none⟩ = some (.int .i64 c.ga) ∧ w.cell? ⟨W.heap.size, 7, none⟩ = some (.int .i64 c.la) ∧ w.cell? ⟨W.heap.size, 8, none⟩ = some (.int .i64 c.ea) ∧ w.cell? ⟨W.heap.size, 9, none⟩ = some (.bool c.di)) ∧ w.cell? ⟨q, off + j * 3, none⟩ = some (.string S) ∧ w.cell? ⟨q, off + j * 3 + 1, none⟩ = some (.int .i64 D) ∧ w.cell? ⟨q, off + j * 3 + 2, none⟩ = some (.slice Ax ws.length cx))) (by kernel_rfl) ⟨below_drew wr, HST.out _ (below_drew wr)⟩ (fun hHeld => ?_)
        refine wpAnyH_take (i := 0) (oi := ⟨some 17, _, _, _, _, _⟩) (v := .agg #[.int .i64 c.g, .int .i64 c.so, .int .i64 c.k, .int .i64 c.sz, .int .i64 c.sl, .int .i64 c.o, .int .i64 c.ga, .int .i64 c.la, .int .i64 c.ea, .bool c.di]) rfl (by kernel_rfl) (by kernel_rfl) (by kernel_rfl) (fun _ _ _ h => h) (Or.inl ⟨by rfl, ?_⟩) (by assumption) ?_
        · (intro w hSw; obtain ⟨-, ⟨c0, c1, c2, c3, c4, c5, c6, c7, c8, c9⟩, k0, k1, k2⟩ := hSw; go_simp)
        try simp only [Act.put, List.setIfInBounds_toArray, List.set_cons_zero, List.set_cons_succ]
        refine wpAnyH_take (i := 1) (oi := ⟨some 18, _, _, _, _, _⟩) (v := .slice (some ⟨q, off, none⟩) n cap) rfl (by kernel_rfl) (by kernel_rfl) (by kernel_rfl) (fun _ _ _ h => h) (Or.inl ⟨by rfl, ?_⟩) (by assumption) ?_
        · (intro w hSw; obtain ⟨-, ⟨c0, c1, c2, c3, c4, c5, c6, c7, c8, c9⟩, k0, k1, k2⟩ := hSw; go_simp)
        try simp only [Act.put, List.setIfInBounds_toArray, List.set_cons_zero, List.set_cons_succ]
        refine wpAnyH_take (i := 2) (oi := ⟨some 19, _, _, _, _, _⟩) (v := .int .i64 (j : Int)) rfl (by kernel_rfl) (by kernel_rfl) (by kernel_rfl) (fun _ _ _ h => h) (Or.inl ⟨by rfl, ?_⟩) (by assumption) ?_
        · (intro w hSw; obtain ⟨-, ⟨c0, c1, c2, c3, c4, c5, c6, c7, c8, c9⟩, k0, k1, k2⟩ := hSw; go_simp)
        try simp only [Act.put, List.setIfInBounds_toArray, List.set_cons_zero, List.set_cons_succ]
        refine wpAnyH_take (i := 3) (oi := ⟨some 20, _, _, _, _, _⟩) (v := .pointer (some ⟨q, off + j * 3, none⟩)) rfl (by kernel_rfl) (by kernel_rfl) (by kernel_rfl) (fun _ _ _ h => h) (Or.inl ⟨by rfl, ?_⟩) (by assumption) ?_
        · (intro w hSw; obtain ⟨-, ⟨c0, c1, c2, c3, c4, c5, c6, c7, c8, c9⟩, k0, k1, k2⟩ := hSw; go_simp)
        try simp only [Act.put, List.setIfInBounds_toArray, List.set_cons_zero, List.set_cons_succ]
        refine wpAnyH_take (i := 4) (oi := ⟨some 21, _, _, _, _, _⟩) (v := .agg #[.string S, .int .i64 D, .slice Ax ws.length cx]) rfl (by kernel_rfl) (by kernel_rfl) (by kernel_rfl) (fun _ _ _ h => h) (Or.inl ⟨by rfl, ?_⟩) (by assumption) ?_
        · (intro w hSw; obtain ⟨-, ⟨c0, c1, c2, c3, c4, c5, c6, c7, c8, c9⟩, k0, k1, k2⟩ := hSw; go_simp)
        try simp only [Act.put, List.setIfInBounds_toArray, List.set_cons_zero, List.set_cons_succ]
        refine wpAnyH_ready (rs := [5]) (by kernel_rfl) (by simp) ?_
        refine AllReadyH.cons rfl (fun K hK => ?_) AllReadyH.nil
        go_simp
        (go_at_call 46; (with_reducible refine (HKX.out _ (below_trans HBEL.out (below_drew wr))).mono ?_); rintro e w4 ⟨rfl, hb4'⟩; have hb4 : Below wr.heap.size wr w4 := below_trans (below_drew wr) hb4')
        clear hHeld
        refine hK.out _ _ ⟨hb4, HST.out _ hb4⟩ (fun hHeld => ?_)
        clear hK
        try simp only [Act.put, List.setIfInBounds_toArray, List.set_cons_zero, List.set_cons_succ]
        refine wpAnyH_take (i := 6) (oi := ⟨some 23, _, _, _, _, _⟩) (v := .bool true) rfl (by kernel_rfl) (by kernel_rfl) (by kernel_rfl) (fun _ _ _ h => h) (Or.inl ⟨by rfl, ?_⟩) (by assumption) ?_
        · (intro w hSw; obtain ⟨-, ⟨c0, c1, c2, c3, c4, c5, c6, c7, c8, c9⟩, k0, k1, k2⟩ := hSw; go_simp)
        try simp only [Act.put, List.setIfInBounds_toArray, List.set_cons_zero, List.set_cons_succ]
        refine wpAnyH_take (i := 7) (oi := ⟨some 24, _, _, _, _, _⟩) (v := .bool true) rfl (by kernel_rfl) (by kernel_rfl) (by kernel_rfl) (fun _ _ _ h => h) (Or.inl ⟨by rfl, ?_⟩) (by assumption) ?_
        · (intro w hSw; obtain ⟨-, ⟨c0, c1, c2, c3, c4, c5, c6, c7, c8, c9⟩, k0, k1, k2⟩ := hSw; go_simp)
        try simp only [Act.put, List.setIfInBounds_toArray, List.set_cons_zero, List.set_cons_succ]
        refine wpAnyH_take (i := 8) (oi := ⟨some 25, _, _, _, _, _⟩) (v := undef) rfl (by kernel_rfl) (by kernel_rfl) (by kernel_rfl) (fun _ _ _ h => h) (Or.inr ⟨by rfl, rfl⟩) (by assumption) ?_
        try simp only [Act.put, List.setIfInBounds_toArray, List.set_cons_zero, List.set_cons_succ]
        refine wpAnyH_take (i := 9) (oi := ⟨some 26, _, _, _, _, _⟩) (v := undef) rfl (by kernel_rfl) (by kernel_rfl) (by kernel_rfl) (fun _ _ _ h => h) (Or.inr ⟨by rfl, rfl⟩) (by assumption) ?_
        try simp only [Act.put, List.setIfInBounds_toArray, List.set_cons_zero, List.set_cons_succ]
        refine wpAnyH_take (i := 10) (oi := ⟨some 27, _, _, _, _, _⟩) (v := undef) rfl (by kernel_rfl) (by kernel_rfl) (by kernel_rfl) (fun _ _ _ h => h) (Or.inr ⟨by rfl, rfl⟩) (by assumption) ?_
        try simp only [Act.put, List.setIfInBounds_toArray, List.set_cons_zero, List.set_cons_succ]
        refine wpAnyH_take (i := 11) (oi := ⟨some 28, _, _, _, _, _⟩) (v := undef) rfl (by kernel_rfl) (by kernel_rfl) (by kernel_rfl) (fun _ _ _ h => h) (Or.inr ⟨by rfl, rfl⟩) (by assumption) ?_
        try simp only [Act.put, List.setIfInBounds_toArray, List.set_cons_zero, List.set_cons_succ]
        refine wpAnyH_take (i := 12) (oi := ⟨some 29, _, _, _, _, _⟩) (v := undef) rfl (by kernel_rfl) (by kernel_rfl) (by kernel_rfl) (fun _ _ _ h => h) (Or.inr ⟨by rfl, rfl⟩) (by assumption) ?_
        try simp only [Act.put, List.setIfInBounds_toArray, List.set_cons_zero, List.set_cons_succ]
        refine wpAnyH_take (i := 13) (oi := ⟨some 30, _, _, _, _, _⟩) (v := undef) rfl (by kernel_rfl) (by kernel_rfl) (by kernel_rfl) (fun _ _ _ h => h) (Or.inr ⟨by rfl, rfl⟩) (by assumption) ?_
        try simp only [Act.put, List.setIfInBounds_toArray, List.set_cons_zero, List.set_cons_succ]
        refine wpAnyH_take (i := 14) (oi := ⟨some 31, _, _, _, _, _⟩) (v := undef) rfl (by kernel_rfl) (by kernel_rfl) (by kernel_rfl) (fun _ _ _ h => h) (Or.inr ⟨by rfl, rfl⟩) (by assumption) ?_
        try simp only [Act.put, List.setIfInBounds_toArray, List.set_cons_zero, List.set_cons_succ]
        refine wpAnyH_take (i := 15) (oi := ⟨some 32, _, _, _, _, _⟩) (v := undef) rfl (by kernel_rfl) (by kernel_rfl) (by kernel_rfl) (fun _ _ _ h => h) (Or.inr ⟨by rfl, rfl⟩) (by assumption) ?_
        try simp only [Act.put, List.setIfInBounds_toArray, List.set_cons_zero, List.set_cons_succ]
        refine wpAnyH_take (i := 16) (oi := ⟨some 33, _, _, _, _, _⟩) (v := undef) rfl (by kernel_rfl) (by kernel_rfl) (by kernel_rfl) (fun _ _ _ h => h) (Or.inr ⟨by rfl, rfl⟩) (by assumption) ?_
        try simp only [Act.put, List.setIfInBounds_toArray, List.set_cons_zero, List.set_cons_succ]
        refine wpAnyH_take (i := 17) (oi := ⟨some 34, _, _, _, _, _⟩) (v := undef) rfl (by kernel_rfl) (by kernel_rfl) (by kernel_rfl) (fun _ _ _ h => h) (Or.inr ⟨by rfl, rfl⟩) (by assumption) ?_
        try simp only [Act.put, List.setIfInBounds_toArray, List.set_cons_zero, List.set_cons_succ]
        refine wpAnyH_take (i := 18) (oi := ⟨some 35, _, _, _, _, _⟩) (v := undef) rfl (by kernel_rfl) (by kernel_rfl) (by kernel_rfl) (fun _ _ _ h => h) (Or.inr ⟨by rfl, rfl⟩) (by assumption) ?_
        try simp only [Act.put, List.setIfInBounds_toArray, List.set_cons_zero, List.set_cons_succ]
        refine wpAnyH_take (i := 19) (oi := ⟨some 36, _, _, _, _, _⟩) (v := undef) rfl (by kernel_rfl) (by kernel_rfl) (by kernel_rfl) (fun _ _ _ h => h) (Or.inr ⟨by rfl, rfl⟩) (by assumption) ?_
        try simp only [Act.put, List.setIfInBounds_toArray, List.set_cons_zero, List.set_cons_succ]
        refine wpAnyH_take (i := 20) (oi := ⟨some 37, _, _, _, _, _⟩) (v := undef) rfl (by kernel_rfl) (by kernel_rfl) (by kernel_rfl) (fun _ _ _ h => h) (Or.inr ⟨by rfl, rfl⟩) (by assumption) ?_
        try simp only [Act.put, List.setIfInBounds_toArray, List.set_cons_zero, List.set_cons_succ]
        refine wpAnyH_take (i := 21) (oi := ⟨some 38, _, _, _, _, _⟩) (v := undef) rfl (by kernel_rfl) (by kernel_rfl) (by kernel_rfl) (fun _ _ _ h => h) (Or.inr ⟨by rfl, rfl⟩) (by assumption) ?_
        try simp only [Act.put, List.setIfInBounds_toArray, List.set_cons_zero, List.set_cons_succ]
        refine wpAnyH_take (i := 22) (oi := ⟨some 39, _, _, _, _, _⟩) (v := undef) rfl (by kernel_rfl) (by kernel_rfl) (by kernel_rfl) (fun _ _ _ h => h) (Or.inr ⟨by rfl, rfl⟩) (by assumption) ?_
        try simp only [Act.put, List.setIfInBounds_toArray, List.set_cons_zero, List.set_cons_succ]
        refine wpAnyH_take (i := 23) (oi := ⟨some 40, _, _, _, _, _⟩) (v := undef) rfl (by kernel_rfl) (by kernel_rfl) (by kernel_rfl) (fun _ _ _ h => h) (Or.inr ⟨by rfl, rfl⟩) (by assumption) ?_
        try simp only [Act.put, List.setIfInBounds_toArray, List.set_cons_zero, List.set_cons_succ]
        refine wpAnyH_take (i := 24) (oi := ⟨some 41, _, _, _, _, _⟩) (v := .bool true) rfl (by kernel_rfl) (by kernel_rfl) (by kernel_rfl) (fun _ _ _ h => h) (Or.inl ⟨by rfl, ?_⟩) (by assumption) ?_
        · (intro w hSw; obtain ⟨-, ⟨c0, c1, c2, c3, c4, c5, c6, c7, c8, c9⟩, k0, k1, k2⟩ := hSw; go_simp)
        try simp only [Act.put, List.setIfInBounds_toArray, List.set_cons_zero, List.set_cons_succ]
        refine wpAnyH_done (by kernel_rfl) ?_ _
        go_wp2
        go_ret2
        obtain rfl := hu.out
        exact ⟨below_trans HBEL.out hb4, rfl⟩
      | true =>
        rw [hkb] at HKX
        have HKP := Lib.hid (keyB_iff.1 hkb)
        have HUC2 : Hid (U = (!(match pre.getLast?.map Km.k with | none => false | some y => geS y.key S) && upB ses (some ⟨S, D, ws⟩) (r.map Km.k))) := Lib.hid (by rw [HUC.out, hkb, Bool.true_and])
        clear hkb
        cases YK with
        | none =>
          have hj0' := hY3 rfl
          have HU3 : Hid (U = upB ses (some ⟨S, D, ws⟩) (r.map Km.k)) := Lib.hid (by
            have : pre.getLast?.map Km.k = none := by
              cases h : pre.getLast?.map Km.k with
              | none => rfl
              | some y => have := HY1.out y h; cases this
            rw [HUC2.out, this]; rfl)
          clear hY3 hY4
          subst hj0'
          have HST0 : Hid (∀ w, Below wr.heap.size wr w → (w.cell? ⟨W.heap.size, 0, none⟩ = some (.int .i64 c.g) ∧ w.cell? ⟨W.heap.size, 1, none⟩ = some (.int .i64 c.so) ∧ w.cell? ⟨W.heap.size, 2, none⟩ = some (.int .i64 c.k) ∧ w.cell? ⟨W.heap.size, 3, none⟩ = some (.int .i64 c.sz) ∧ w.cell? ⟨W.heap.size, 4, none⟩ = some (.int .i64 c.sl) ∧ w.cell? ⟨W.heap.size, 5, none⟩ = some (.int .i64 c.o) ∧ w.cell? ⟨W.heap.size, 6, none⟩ = some (.int .i64 c.ga) ∧ w.cell? ⟨W.heap.size, 7, none⟩ = some (.int .i64 c.la) ∧ w.cell? ⟨W.heap.size, 8, none⟩ = some (.int .i64 c.ea) ∧ w.cell? ⟨W.heap.size, 9, none⟩ = some (.bool c.di)) ∧ w.cell? ⟨q, off, none⟩ = some (.string S) ∧ w.cell? ⟨q, off + 1, none⟩ = some (.int .i64 D) ∧ w.cell? ⟨q, off + 2, none⟩ = some (.slice Ax ws.length cx)) := Lib.hid fun w hb => by have h := HST.out w hb; simpa using h
          have hi0' : (0 : Int) < (n : Int) := by omega
          have hi0n : 0 < n := by omega
          go_wp2_with fail
          refine wp_region_held_drew (S := (fun w => Below wr.heap.size wr w ∧ (w.cell? ⟨W.heap.size, 0, none⟩ = some (.int .i64 c.g) ∧ w.cell? ⟨W.heap.size, 1, none⟩ = some (.int .i64 c.so) ∧ w.cell? ⟨W.heap.size, 2, none⟩ = some (.int .i64 c.k) ∧ w.cell? ⟨W.heap.size, 3, none⟩ = some (.int .i64 c.sz) ∧ w.cell? ⟨W.heap.size, 4, none⟩ = some (.int .i64 c.sl) ∧ w.cell? ⟨W.heap.size, 5, none⟩ = some (.int .i64 c.o) ∧ w.cell? ⟨W.heap.size, 6, none⟩ = some (.int .i64 c.ga) ∧ w.cell? ⟨W.heap.size, 7, none⟩ = some (.int .i64 c.la) ∧ w.cell? ⟨W.heap.size, 8, none⟩ = some (.int .i64 c.ea) ∧ w.cell? ⟨W.heap.size, 9, none⟩ = some (.bool c.di)) ∧ w.cell? ⟨q, off, none⟩ = some (.string S) ∧ w.cell? ⟨q, off + 1, none⟩ = some (.int .i64 D) ∧ w.cell? ⟨q, off + 2, none⟩ = some (.slice Ax ws.length cx))) (by kernel_rfl) ⟨below_drew wr, HST0.out _ (below_drew wr)⟩ (fun hHeld => ?_)
          refine wpAnyH_take (i := 0) (oi := ⟨some 17, _, _, _, _, _⟩) (v := .agg #[.int .i64 c.g, .int .i64 c.so, .int .i64 c.k, .int .i64 c.sz, .int .i64 c.sl, .int .i64 c.o, .int .i64 c.ga, .int .i64 c.la, .int .i64 c.ea, .bool c.di]) rfl (by kernel_rfl) (by kernel_rfl) (by kernel_rfl) (fun _ _ _ h => h) (Or.inl ⟨by rfl, ?_⟩) (by assumption) ?_
          · (intro w hSw; obtain ⟨-, ⟨c0, c1, c2, c3, c4, c5, c6, c7, c8, c9⟩, k0, k1, k2⟩ := hSw; go_simp)
          try simp only [Act.put, List.setIfInBounds_toArray, List.set_cons_zero, List.set_cons_succ]
          refine wpAnyH_take (i := 1) (oi := ⟨some 18, _, _, _, _, _⟩) (v := .slice (some ⟨q, off, none⟩) n cap) rfl (by kernel_rfl) (by kernel_rfl) (by kernel_rfl) (fun _ _ _ h => h) (Or.inl ⟨by rfl, ?_⟩) (by assumption) ?_
          · (intro w hSw; obtain ⟨-, ⟨c0, c1, c2, c3, c4, c5, c6, c7, c8, c9⟩, k0, k1, k2⟩ := hSw; go_simp)
          try simp only [Act.put, List.setIfInBounds_toArray, List.set_cons_zero, List.set_cons_succ]
          refine wpAnyH_take (i := 2) (oi := ⟨some 19, _, _, _, _, _⟩) (v := .int .i64 0) rfl (by kernel_rfl) (by kernel_rfl) (by kernel_rfl) (fun _ _ _ h => h) (Or.inl ⟨by rfl, ?_⟩) (by assumption) ?_
          · (intro w hSw; obtain ⟨-, ⟨c0, c1, c2, c3, c4, c5, c6, c7, c8, c9⟩, k0, k1, k2⟩ := hSw; go_simp)
          try simp only [Act.put, List.setIfInBounds_toArray, List.set_cons_zero, List.set_cons_succ]
          refine wpAnyH_take (i := 3) (oi := ⟨some 20, _, _, _, _, _⟩) (v := .pointer (some ⟨q, off, none⟩)) rfl (by kernel_rfl) (by kernel_rfl) (by kernel_rfl) (fun _ _ _ h => h) (Or.inl ⟨by rfl, ?_⟩) (by assumption) ?_
          · (intro w hSw; obtain ⟨-, ⟨c0, c1, c2, c3, c4, c5, c6, c7, c8, c9⟩, k0, k1, k2⟩ := hSw; go_simp)
          try simp only [Act.put, List.setIfInBounds_toArray, List.set_cons_zero, List.set_cons_succ]
          refine wpAnyH_take (i := 4) (oi := ⟨some 21, _, _, _, _, _⟩) (v := .agg #[.string S, .int .i64 D, .slice Ax ws.length cx]) rfl (by kernel_rfl) (by kernel_rfl) (by kernel_rfl) (fun _ _ _ h => h) (Or.inl ⟨by rfl, ?_⟩) (by assumption) ?_
          · (intro w hSw; obtain ⟨-, ⟨c0, c1, c2, c3, c4, c5, c6, c7, c8, c9⟩, k0, k1, k2⟩ := hSw; go_simp)
          try simp only [Act.put, List.setIfInBounds_toArray, List.set_cons_zero, List.set_cons_succ]
          refine wpAnyH_ready (rs := [5]) (by kernel_rfl) (by simp) ?_
          refine AllReadyH.cons rfl (fun K hK => ?_) AllReadyH.nil
          go_simp
          (go_at_call 46; (with_reducible refine (HKX.out _ (below_trans HBEL.out (below_drew wr))).mono ?_); rintro e w4 ⟨rfl, hb4'⟩; have hb4 : Below wr.heap.size wr w4 := below_trans (below_drew wr) hb4')
          clear hHeld
          refine hK.out _ _ ⟨hb4, HST0.out _ hb4⟩ (fun hHeld => ?_)
          clear hK
          try simp only [Act.put, List.setIfInBounds_toArray, List.set_cons_zero, List.set_cons_succ]
          refine wpAnyH_take (i := 6) (oi := ⟨some 23, _, _, _, _, _⟩) (v := .bool false) rfl (by kernel_rfl) (by kernel_rfl) (by kernel_rfl) (fun _ _ _ h => h) (Or.inl ⟨by rfl, ?_⟩) (by assumption) ?_
          · (intro w hSw; obtain ⟨-, ⟨c0, c1, c2, c3, c4, c5, c6, c7, c8, c9⟩, k0, k1, k2⟩ := hSw; go_simp)
          try simp only [Act.put, List.setIfInBounds_toArray, List.set_cons_zero, List.set_cons_succ]
          refine wpAnyH_take (i := 7) (oi := ⟨some 24, _, _, _, _, _⟩) (v := .bool false) rfl (by kernel_rfl) (by kernel_rfl) (by kernel_rfl) (fun _ _ _ h => h) (Or.inl ⟨by rfl, ?_⟩) (by assumption) ?_
          · (intro w hSw; obtain ⟨-, ⟨c0, c1, c2, c3, c4, c5, c6, c7, c8, c9⟩, k0, k1, k2⟩ := hSw; go_simp)
          try simp only [Act.put, List.setIfInBounds_toArray, List.set_cons_zero, List.set_cons_succ]
          refine wpAnyH_take (i := 8) (oi := ⟨some 25, _, _, _, _, _⟩) (v := .int .i64 0) rfl (by kernel_rfl) (by kernel_rfl) (by kernel_rfl) (fun _ _ _ h => h) (Or.inl ⟨by rfl, ?_⟩) (by assumption) ?_
          · (intro w hSw; obtain ⟨-, ⟨c0, c1, c2, c3, c4, c5, c6, c7, c8, c9⟩, k0, k1, k2⟩ := hSw; go_simp)
          try simp only [Act.put, List.setIfInBounds_toArray, List.set_cons_zero, List.set_cons_succ]
          refine wpAnyH_take (i := 9) (oi := ⟨some 26, _, _, _, _, _⟩) (v := .bool false) rfl (by kernel_rfl) (by kernel_rfl) (by kernel_rfl) (fun _ _ _ h => h) (Or.inl ⟨by rfl, ?_⟩) (by assumption) ?_
          · (intro w hSw; obtain ⟨-, ⟨c0, c1, c2, c3, c4, c5, c6, c7, c8, c9⟩, k0, k1, k2⟩ := hSw; go_simp)
          try simp only [Act.put, List.setIfInBounds_toArray, List.set_cons_zero, List.set_cons_succ]
          refine wpAnyH_take (i := 10) (oi := ⟨some 27, _, _, _, _, _⟩) (v := .bool false) rfl (by kernel_rfl) (by kernel_rfl) (by kernel_rfl) (fun _ _ _ h => h) (Or.inl ⟨by rfl, ?_⟩) (by assumption) ?_
          · (intro w hSw; obtain ⟨-, ⟨c0, c1, c2, c3, c4, c5, c6, c7, c8, c9⟩, k0, k1, k2⟩ := hSw; go_simp)
          try simp only [Act.put, List.setIfInBounds_toArray, List.set_cons_zero, List.set_cons_succ]
          refine wpAnyH_take (i := 11) (oi := ⟨some 28, _, _, _, _, _⟩) (v := undef) rfl (by kernel_rfl) (by kernel_rfl) (by kernel_rfl) (fun _ _ _ h => h) (Or.inr ⟨by rfl, rfl⟩) (by assumption) ?_
          try simp only [Act.put, List.setIfInBounds_toArray, List.set_cons_zero, List.set_cons_succ]
          refine wpAnyH_take (i := 12) (oi := ⟨some 29, _, _, _, _, _⟩) (v := undef) rfl (by kernel_rfl) (by kernel_rfl) (by kernel_rfl) (fun _ _ _ h => h) (Or.inr ⟨by rfl, rfl⟩) (by assumption) ?_
          try simp only [Act.put, List.setIfInBounds_toArray, List.set_cons_zero, List.set_cons_succ]
          refine wpAnyH_take (i := 13) (oi := ⟨some 30, _, _, _, _, _⟩) (v := undef) rfl (by kernel_rfl) (by kernel_rfl) (by kernel_rfl) (fun _ _ _ h => h) (Or.inr ⟨by rfl, rfl⟩) (by assumption) ?_
          try simp only [Act.put, List.setIfInBounds_toArray, List.set_cons_zero, List.set_cons_succ]
          refine wpAnyH_take (i := 14) (oi := ⟨some 31, _, _, _, _, _⟩) (v := undef) rfl (by kernel_rfl) (by kernel_rfl) (by kernel_rfl) (fun _ _ _ h => h) (Or.inr ⟨by rfl, rfl⟩) (by assumption) ?_
          try simp only [Act.put, List.setIfInBounds_toArray, List.set_cons_zero, List.set_cons_succ]
          refine wpAnyH_take (i := 15) (oi := ⟨some 32, _, _, _, _, _⟩) (v := undef) rfl (by kernel_rfl) (by kernel_rfl) (by kernel_rfl) (fun _ _ _ h => h) (Or.inr ⟨by rfl, rfl⟩) (by assumption) ?_
          try simp only [Act.put, List.setIfInBounds_toArray, List.set_cons_zero, List.set_cons_succ]
          refine wpAnyH_take (i := 16) (oi := ⟨some 33, _, _, _, _, _⟩) (v := undef) rfl (by kernel_rfl) (by kernel_rfl) (by kernel_rfl) (fun _ _ _ h => h) (Or.inr ⟨by rfl, rfl⟩) (by assumption) ?_
          try simp only [Act.put, List.setIfInBounds_toArray, List.set_cons_zero, List.set_cons_succ]
          refine wpAnyH_take (i := 17) (oi := ⟨some 34, _, _, _, _, _⟩) (v := undef) rfl (by kernel_rfl) (by kernel_rfl) (by kernel_rfl) (fun _ _ _ h => h) (Or.inr ⟨by rfl, rfl⟩) (by assumption) ?_
          try simp only [Act.put, List.setIfInBounds_toArray, List.set_cons_zero, List.set_cons_succ]
          refine wpAnyH_take (i := 18) (oi := ⟨some 35, _, _, _, _, _⟩) (v := undef) rfl (by kernel_rfl) (by kernel_rfl) (by kernel_rfl) (fun _ _ _ h => h) (Or.inr ⟨by rfl, rfl⟩) (by assumption) ?_
          try simp only [Act.put, List.setIfInBounds_toArray, List.set_cons_zero, List.set_cons_succ]
          refine wpAnyH_take (i := 19) (oi := ⟨some 36, _, _, _, _, _⟩) (v := undef) rfl (by kernel_rfl) (by kernel_rfl) (by kernel_rfl) (fun _ _ _ h => h) (Or.inr ⟨by rfl, rfl⟩) (by assumption) ?_
          try simp only [Act.put, List.setIfInBounds_toArray, List.set_cons_zero, List.set_cons_succ]
          refine wpAnyH_take (i := 20) (oi := ⟨some 37, _, _, _, _, _⟩) (v := undef) rfl (by kernel_rfl) (by kernel_rfl) (by kernel_rfl) (fun _ _ _ h => h) (Or.inr ⟨by rfl, rfl⟩) (by assumption) ?_
          try simp only [Act.put, List.setIfInBounds_toArray, List.set_cons_zero, List.set_cons_succ]
          refine wpAnyH_take (i := 21) (oi := ⟨some 38, _, _, _, _, _⟩) (v := undef) rfl (by kernel_rfl) (by kernel_rfl) (by kernel_rfl) (fun _ _ _ h => h) (Or.inr ⟨by rfl, rfl⟩) (by assumption) ?_
          try simp only [Act.put, List.setIfInBounds_toArray, List.set_cons_zero, List.set_cons_succ]
          refine wpAnyH_take (i := 22) (oi := ⟨some 39, _, _, _, _, _⟩) (v := undef) rfl (by kernel_rfl) (by kernel_rfl) (by kernel_rfl) (fun _ _ _ h => h) (Or.inr ⟨by rfl, rfl⟩) (by assumption) ?_
          try simp only [Act.put, List.setIfInBounds_toArray, List.set_cons_zero, List.set_cons_succ]
          refine wpAnyH_take (i := 23) (oi := ⟨some 40, _, _, _, _, _⟩) (v := .bool false) rfl (by kernel_rfl) (by kernel_rfl) (by kernel_rfl) (fun _ _ _ h => h) (Or.inl ⟨by rfl, ?_⟩) (by assumption) ?_
          · (intro w hSw; obtain ⟨-, ⟨c0, c1, c2, c3, c4, c5, c6, c7, c8, c9⟩, k0, k1, k2⟩ := hSw; go_simp)
          try simp only [Act.put, List.setIfInBounds_toArray, List.set_cons_zero, List.set_cons_succ]
          refine wpAnyH_take (i := 24) (oi := ⟨some 41, _, _, _, _, _⟩) (v := .bool false) rfl (by kernel_rfl) (by kernel_rfl) (by kernel_rfl) (fun _ _ _ h => h) (Or.inl ⟨by rfl, ?_⟩) (by assumption) ?_
          · (intro w hSw; obtain ⟨-, ⟨c0, c1, c2, c3, c4, c5, c6, c7, c8, c9⟩, k0, k1, k2⟩ := hSw; go_simp)
          try simp only [Act.put, List.setIfInBounds_toArray, List.set_cons_zero, List.set_cons_succ]
          refine wpAnyH_done (by kernel_rfl) ?_ _
          have HB4 := Lib.hid hb4
          have HBE4 : Hid (Below W.heap.size W w4) := Lib.hid (below_trans HBEL.out hb4)
          have HOW4 := Lib.hid (own_below HOW.out hb4)
          have HC4 := Lib.hid (HBK.out.below hb4)
          have k0 := (HST0.out _ hb4).2.1
          have k1 := (HST0.out _ hb4).2.2.1
          have k2 := (HST0.out _ hb4).2.2.2
          clear hb4 hb4'
          go_wp2_with fail
          refine (HBYX.out _ HBE4.out HKP.out).mono ?_
          rintro e w5 ⟨v5, rfl, hb5, ho5⟩
          clear k0 k1 k2
          obtain ⟨A5, c5', rfl, h51, h52⟩ := ownsRow_shape ho5
          have HB5 := Lib.hid (below_trans HBE4.out hb5)
          have HOW5 := Lib.hid (own_below HOW4.out hb5)
          have HO5 := Lib.hid ho5
          have HC5 := Lib.hid (HC4.out.below hb5)
          have hrm0 : kroom (pre.map Km.k) + (S.size + 90 * ws.length + 40) + 200 ≤ 140737488355328 := HRM.out
          have hl5 : (keyBytes ⟨S, D, ws⟩).length ≤ S.size + 90 * ws.length + 40 := Nat.le_trans (keyBytes_len HKP.out HXF.out (by show ws.length < _; omega)) (by show S.size + 90 * ws.length + 30 ≤ _; omega)
          have hrm : nb + (S.size + 90 * ws.length + 40) + 200 ≤ 140737488355328 := by have h2 := HLEN.out; omega
          obtain ⟨nk, hnk⟩ : ∃ nk, (keyBytes ⟨S, D, ws⟩).length = nk := ⟨_, rfl⟩
          have HNK := Lib.hid hnk
          rw [hnk] at hl5 HO5 ⊢
          clear hb5 ho5 hnk
          go_wp2_with (at_builtin; refine wpList_append_rd _ rfl (.tmp 42) (.tmp 47) 25 rfl W.heap.size 5 i0 _ 1 1 Try.underlying25 hi0 hz0 hz1 hz2 rfl (by decide) _ nb _ rfl HOW5.out A5 nk c5' (bc (keyBytes ⟨S, D, ws⟩)) rfl (by rw [bc_length, HNK.out, Nat.mul_one]) (Rd.of_owns HO5.out) (bc_one _) (by simp only [maxLen]; omega) (by omega) HB5.out.size ?_; intro v6 w6 ho6 hg6 hat6; obtain ⟨A6, c6', rfl, -, -⟩ := ownsRow_shape ho6; have HO6 : Hid (w6.ownsRow W.heap.size 5 1 (.slice A6 (nb + nk) c6') (nb + nk) (bc (allB (pre.map Km.k) ++ keyBytes ⟨S, D, ws⟩))) := Lib.hid (by rw [bc_append]; exact ho6); have HB6 := Lib.hid (HB5.out.grown hg6 HB5.out.size (fun r e => (own_lt HOW5.out e).1)); have HC6 := Lib.hid (HC5.out.grown hg6 (own_bk_ne HOW5.out HC5.out (by decide))); clear ho6 hg6 hat6)
          go_roundw
          case rel => exact ⟨pre ++ [⟨⟨S, D, ws⟩, Ax, cx⟩], r, A6, c6', nb + nk, by rw [List.length_append, HJ.out]; go_num, rfl, by rw [HL.out]; simp, by rw [HU3.out]; simp, by rw [List.map_append, List.map_cons, List.map_nil, allB_snoc]; exact HO6.out, by rw [List.map_append, List.map_cons, List.map_nil, allB_snoc, List.length_append, HNK.out, HNB.out], by rw [List.map_append, List.map_cons, List.map_nil, kroom_append]; have h2 := HLEN.out; simp only [kroom]; omega, HC6.out, HB6.out⟩
          case measure => simp [intOf]; omega
        | some K =>
          obtain ⟨p, rfl, hz⟩ := hY4 K rfl
          have HG : Hid (U = (!geS K S && upB ses (some ⟨S, D, ws⟩) (r.map Km.k))) := Lib.hid (by
            cases h : pre.getLast?.map Km.k with
            | none => have := HY2.out h; cases this
            | some y => have e := HY1.out y h; cases e; rw [HUC2.out, h])
          clear hY3 hY4
          have HSZ : Hid (∀ w, Below wr.heap.size wr w → (w.cell? ⟨W.heap.size, 0, none⟩ = some (.int .i64 c.g) ∧ w.cell? ⟨W.heap.size, 1, none⟩ = some (.int .i64 c.so) ∧ w.cell? ⟨W.heap.size, 2, none⟩ = some (.int .i64 c.k) ∧ w.cell? ⟨W.heap.size, 3, none⟩ = some (.int .i64 c.sz) ∧ w.cell? ⟨W.heap.size, 4, none⟩ = some (.int .i64 c.sl) ∧ w.cell? ⟨W.heap.size, 5, none⟩ = some (.int .i64 c.o) ∧ w.cell? ⟨W.heap.size, 6, none⟩ = some (.int .i64 c.ga) ∧ w.cell? ⟨W.heap.size, 7, none⟩ = some (.int .i64 c.la) ∧ w.cell? ⟨W.heap.size, 8, none⟩ = some (.int .i64 c.ea) ∧ w.cell? ⟨W.heap.size, 9, none⟩ = some (.bool c.di)) ∧ (w.cell? ⟨q, off + (p + 1) * 3, none⟩ = some (.string S) ∧ w.cell? ⟨q, off + (p + 1) * 3 + 1, none⟩ = some (.int .i64 D) ∧ w.cell? ⟨q, off + (p + 1) * 3 + 2, none⟩ = some (.slice Ax ws.length cx)) ∧ w.cell? ⟨q, off + p * 3, none⟩ = some (.string K)) := Lib.hid fun w hb => ⟨(HST.out w hb).1, (HST.out w hb).2, hz w hb⟩
          clear hz
          have hw1 : IntKind.i64.wrap (p : Int) = (p : Int) := IntWalk.i64_in _ (by omega)
          have hw2 : IntKind.i64.wrap ((p : Int) + 1 - 1) = (p : Int) := by rw [Int.add_sub_cancel]; exact hw1
          have hw3 : IntKind.i64.wrap ((p : Int) + 1) = (p : Int) + 1 := IntWalk.i64_in _ (by omega)
          have hi1 : (0 : Int) ≤ (p : Int) := by omega
          have hin : (p : Int) < (n : Int) := by omega
          have hin' : p < n := by omega
          have hp1 : (0 : Int) ≤ (p : Int) + 1 := by omega
          have hp2 : (p : Int) + 1 < (n : Int) := by omega
          have hp3 : ((p : Int) + 1).toNat = p + 1 := by omega
          have hd0 : decide ((0 : Int) < (p : Int) + 1) = true := by rw [decide_eq_true_eq]; omega
          cases hbl : Op.bytesLess K.toList S.toList with
          | false =>
            have hu : Hid (U = false) := Lib.hid (by rw [HG.out]; unfold geS; rw [hbl]; rfl)
            go_wp2_with fail
            go_region_held3 (fun w => Below wr.heap.size wr w ∧ (w.cell? ⟨W.heap.size, 0, none⟩ = some (.int .i64 c.g) ∧ w.cell? ⟨W.heap.size, 1, none⟩ = some (.int .i64 c.so) ∧ w.cell? ⟨W.heap.size, 2, none⟩ = some (.int .i64 c.k) ∧ w.cell? ⟨W.heap.size, 3, none⟩ = some (.int .i64 c.sz) ∧ w.cell? ⟨W.heap.size, 4, none⟩ = some (.int .i64 c.sl) ∧ w.cell? ⟨W.heap.size, 5, none⟩ = some (.int .i64 c.o) ∧ w.cell? ⟨W.heap.size, 6, none⟩ = some (.int .i64 c.ga) ∧ w.cell? ⟨W.heap.size, 7, none⟩ = some (.int .i64 c.la) ∧ w.cell? ⟨W.heap.size, 8, none⟩ = some (.int .i64 c.ea) ∧ w.cell? ⟨W.heap.size, 9, none⟩ = some (.bool c.di)) ∧ (w.cell? ⟨q, off + (p + 1) * 3, none⟩ = some (.string S) ∧ w.cell? ⟨q, off + (p + 1) * 3 + 1, none⟩ = some (.int .i64 D) ∧ w.cell? ⟨q, off + (p + 1) * 3 + 2, none⟩ = some (.slice Ax ws.length cx)) ∧ w.cell? ⟨q, off + p * 3, none⟩ = some (.string K))
              (first
                | exact ⟨below_drew wr, HSZ.out _ (below_drew wr)⟩
                | exact ⟨hb4, HSZ.out _ hb4⟩)
              ((go_at_call 46; (with_reducible refine (HKX.out _ (below_trans HBEL.out (below_drew wr))).mono ?_); rintro e w4 ⟨rfl, hb4'⟩; have hb4 : Below wr.heap.size wr w4 := below_trans (below_drew wr) hb4'))
            go_wp2
            go_ret2
            obtain rfl := hu.out
            exact ⟨below_trans HBEL.out hb4, rfl⟩
          | true =>
            have HU3 : Hid (U = upB ses (some ⟨S, D, ws⟩) (r.map Km.k)) := Lib.hid (by rw [HG.out]; unfold geS; rw [hbl]; simp)
            go_wp2_with fail
            go_region_held3 (fun w => Below wr.heap.size wr w ∧ (w.cell? ⟨W.heap.size, 0, none⟩ = some (.int .i64 c.g) ∧ w.cell? ⟨W.heap.size, 1, none⟩ = some (.int .i64 c.so) ∧ w.cell? ⟨W.heap.size, 2, none⟩ = some (.int .i64 c.k) ∧ w.cell? ⟨W.heap.size, 3, none⟩ = some (.int .i64 c.sz) ∧ w.cell? ⟨W.heap.size, 4, none⟩ = some (.int .i64 c.sl) ∧ w.cell? ⟨W.heap.size, 5, none⟩ = some (.int .i64 c.o) ∧ w.cell? ⟨W.heap.size, 6, none⟩ = some (.int .i64 c.ga) ∧ w.cell? ⟨W.heap.size, 7, none⟩ = some (.int .i64 c.la) ∧ w.cell? ⟨W.heap.size, 8, none⟩ = some (.int .i64 c.ea) ∧ w.cell? ⟨W.heap.size, 9, none⟩ = some (.bool c.di)) ∧ (w.cell? ⟨q, off + (p + 1) * 3, none⟩ = some (.string S) ∧ w.cell? ⟨q, off + (p + 1) * 3 + 1, none⟩ = some (.int .i64 D) ∧ w.cell? ⟨q, off + (p + 1) * 3 + 2, none⟩ = some (.slice Ax ws.length cx)) ∧ w.cell? ⟨q, off + p * 3, none⟩ = some (.string K))
              (first
                | exact ⟨below_drew wr, HSZ.out _ (below_drew wr)⟩
                | exact ⟨hb4, HSZ.out _ hb4⟩)
              ((go_at_call 46; (with_reducible refine (HKX.out _ (below_trans HBEL.out (below_drew wr))).mono ?_); rintro e w4 ⟨rfl, hb4'⟩; have hb4 : Below wr.heap.size wr w4 := below_trans (below_drew wr) hb4'))
            have HB4 := Lib.hid hb4
            have HBE4 : Hid (Below W.heap.size W w4) := Lib.hid (below_trans HBEL.out hb4)
            have HOW4 := Lib.hid (own_below HOW.out hb4)
            have HC4 := Lib.hid (HBK.out.below hb4)
            have k0 := (HST.out _ hb4).2.1
            have k1 := (HST.out _ hb4).2.2.1
            have k2 := (HST.out _ hb4).2.2.2
            clear hb4 hb4'
            go_wp2_with fail
            refine (HBYX.out _ HBE4.out HKP.out).mono ?_
            rintro e w5 ⟨v5, rfl, hb5, ho5⟩
            clear k0 k1 k2
            obtain ⟨A5, c5', rfl, h51, h52⟩ := ownsRow_shape ho5
            have HB5 := Lib.hid (below_trans HBE4.out hb5)
            have HOW5 := Lib.hid (own_below HOW4.out hb5)
            have HO5 := Lib.hid ho5
            have HC5 := Lib.hid (HC4.out.below hb5)
            have hrm0 : kroom (pre.map Km.k) + (S.size + 90 * ws.length + 40) + 200 ≤ 140737488355328 := HRM.out
            have hl5 : (keyBytes ⟨S, D, ws⟩).length ≤ S.size + 90 * ws.length + 40 := Nat.le_trans (keyBytes_len HKP.out HXF.out (by show ws.length < _; omega)) (by show S.size + 90 * ws.length + 30 ≤ _; omega)
            have hrm : nb + (S.size + 90 * ws.length + 40) + 200 ≤ 140737488355328 := by have h2 := HLEN.out; omega
            obtain ⟨nk, hnk⟩ : ∃ nk, (keyBytes ⟨S, D, ws⟩).length = nk := ⟨_, rfl⟩
            have HNK := Lib.hid hnk
            rw [hnk] at hl5 HO5 ⊢
            clear hb5 ho5 hnk
            go_wp2_with (at_builtin; refine wpList_append_rd _ rfl (.tmp 42) (.tmp 47) 25 rfl W.heap.size 5 i0 _ 1 1 Try.underlying25 hi0 hz0 hz1 hz2 rfl (by decide) _ nb _ rfl HOW5.out A5 nk c5' (bc (keyBytes ⟨S, D, ws⟩)) rfl (by rw [bc_length, HNK.out, Nat.mul_one]) (Rd.of_owns HO5.out) (bc_one _) (by simp only [maxLen]; omega) (by omega) HB5.out.size ?_; intro v6 w6 ho6 hg6 hat6; obtain ⟨A6, c6', rfl, -, -⟩ := ownsRow_shape ho6; have HO6 : Hid (w6.ownsRow W.heap.size 5 1 (.slice A6 (nb + nk) c6') (nb + nk) (bc (allB (pre.map Km.k) ++ keyBytes ⟨S, D, ws⟩))) := Lib.hid (by rw [bc_append]; exact ho6); have HB6 := Lib.hid (HB5.out.grown hg6 HB5.out.size (fun r e => (own_lt HOW5.out e).1)); have HC6 := Lib.hid (HC5.out.grown hg6 (own_bk_ne HOW5.out HC5.out (by decide))); clear ho6 hg6 hat6)
            go_roundw
            case rel => exact ⟨pre ++ [⟨⟨S, D, ws⟩, Ax, cx⟩], r, A6, c6', nb + nk, by rw [List.length_append, HJ.out]; go_num, rfl, by rw [HL.out]; simp, by rw [HU3.out]; simp, by rw [List.map_append, List.map_cons, List.map_nil, allB_snoc]; exact HO6.out, by rw [List.map_append, List.map_cons, List.map_nil, allB_snoc, List.length_append, HNK.out, HNB.out], by rw [List.map_append, List.map_cons, List.map_nil, kroom_append]; have h2 := HLEN.out; simp only [kroom]; omega, HC6.out, HB6.out⟩
            case measure => simp [intOf]; omega
end Go.Proofs.Ytaechgnjdjijkaa
