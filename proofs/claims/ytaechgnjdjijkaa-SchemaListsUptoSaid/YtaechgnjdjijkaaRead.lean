/- A key's state, read: schema.read. -/
import Derived.Test.YtaechgnjdjijkaaGets
import Derived.Test.YtaechgnjdjijkaaPutW
import Derived.Deep.DeepCutAuto
namespace Go.Proofs.Ytaechgnjdjijkaa
open Go.RowKit Go.Lib

theorem own_heap {w w' : World} {base : Nat} {e : TypeId} {size n : Nat} {v : Value} {xs : List Value} (h : w.ownsRow base e size v n xs) (hk : ∀ r, v.ownBlock = some r → w'.heap[r]? = w.heap[r]?) : w'.ownsRow base e size v n xs := by
  refine ⟨h.1, ?_⟩
  rcases h.2 with h2 | ⟨q, c', cur, hq, h3, h4, h5⟩
  · exact .inl h2
  · exact .inr ⟨q, c', cur, hq, h3, (hk q (by rw [hq]; rfl)).trans h4, h5⟩
theorem wn_one (x : Wn) : ∀ u ∈ x.cells, u.oneCell' = true := by
  intro u hu
  simp only [Wn.cells, List.mem_cons, List.not_mem_nil, or_false] at hu
  rcases hu with rfl | rfl | rfl | rfl | rfl | rfl | rfl | rfl | rfl <;> rfl
theorem winInfo : (Try.prog.info? 93).map (fun i => (i.zero, i.size, i.bytes)) = some (some (.agg #[.int .i64 0, .int .i64 0, .int .i64 0, .int .i64 0, .int .i64 0, .int .i64 0, .int .i64 0, .int .i64 0, .int .i64 0]), 9, 72) := by kernel_rfl
def lastS (l : List Wn) : Option Int := l.getLast?.map (·.s)
/-- So many windows, read behind these. -/
def rdWs (bs : List UInt8) : Nat → Nat → List Wn → Option (List Wn × Nat)
  | 0, a, l => some (l, a)
  | n + 1, a, l => match rdTo bs (lastS l) a 9 with
    | none => none
    | some (x, a') => rdWs bs n a' (l ++ [x])
/-- A key's state, read. -/
noncomputable def rdKey (c : Cf) (bs : List UInt8) (a0 : Nat) : Option (Kn × Nat) :=
  if txE 256 bs a0 ≠ 0 then none
  else
    let a1 := a0 + (rdAt bs a0).2.1 + (rdAt bs a0).1
    if (rdAt bs a1).2.2 ≠ 0 then none
    else
      let a2 := a1 + (rdAt bs a1).2.1
      if (rdAt bs a2).2.2 ≠ 0 then none
      else match rdWs bs (rdAt bs a2).1 (a2 + (rdAt bs a2).2.1) [] with
        | none => none
        | some (l, a) =>
          if keyB (c.k == 3) ⟨⟨(cut bs (a0 + (rdAt bs a0).2.1) (rdAt bs a0).1).toArray⟩, wrap64 ((rdAt bs a1).1 : Int), l⟩ then some (⟨⟨(cut bs (a0 + (rdAt bs a0).2.1) (rdAt bs a0).1).toArray⟩, wrap64 ((rdAt bs a1).1 : Int), l⟩, a) else none
/-- What reading leaves. -/
def ReadPost (W : World) (B g : Nat) (v : Value) (bs : List UInt8) (r : Option (Kn × Nat)) (e : Ending) (w' : World) : Prop :=
  W.grownBy w' (some g) ∧ match r with
    | none => refused e
    | some (k, a) => Rr w' B g v bs a ∧ ∃ A cap, e = .returned (.agg #[.string k.key, .int .i64 k.dr, .slice A k.ws.length cap]) ∧ w'.ownsRow W.heap.size 93 9 (.slice A k.ws.length cap) k.ws.length (wcells k.ws)
theorem ReadPost.no {W w' : World} {B g : Nat} {v : Value} {bs : List UInt8} {e : Ending} (h : W.grownBy w' (some g)) (he : refused e) : ReadPost W B g v bs none e w' := ⟨h, he⟩
theorem grown_only {W w' : World} {g : Nat} (h : Only (fun r => r = g) W w') : W.grownBy w' (some g) := ⟨h.os, h.tape, h.output, h.size, fun i hi hne => h.block i hi (fun e => hne (by rw [e]))⟩
theorem only_grown {W w' : World} {g : Nat} (h : W.grownBy w' (some g)) : Only (fun r => r = g) W w' := ⟨h.os, h.tape, h.output, h.size, fun i hi hne => h.block i hi (fun e => hne (Option.some.inj e))⟩

set_option maxRecDepth 100000 in
set_option maxHeartbeats 4000000 in
theorem read_any (B g a0 : Nat) (v : Value) (bs : List UInt8) (c : Cf) (hf : c.Fit) (hj : job c = true) (W : World) (hr : Rr W B g v bs a0) (hmax : bs.length ≤ 8796093022208) :
    Calls Try.prog 37 #[c.val, .pointer (some ⟨g, 0, none⟩)] W (ReadPost W B g v bs (rdKey c bs a0)) := by
  obtain ⟨R, hR⟩ : ∃ R, rdKey c bs a0 = R := ⟨_, rfl⟩
  rw [hR]
  have HR := Lib.hid hR
  clear hR
  have HK : Hid (∀ (k : Kn) (kv : Value) (w : World), Rk w kv k → Calls Try.prog 50 #[c.val, kv] w fun e w' => e = .returned (.int .i64 (if keyB (c.k == 3) k then 0 else 6)) ∧ Below w.heap.size w w') := Lib.hid fun k kv w h => by
    have := Key_any c hf k kv w h
    unfold putE at this
    rw [if_pos hj] at this
    exact this
  have HRR := Lib.hid hr
  have hgl := hr.blk.lt
  have hle := hr.le
  obtain ⟨cv, hcv⟩ : ∃ cv : Array Value, cv = #[.int .i64 c.g, .int .i64 c.so, .int .i64 c.k, .int .i64 c.sz, .int .i64 c.sl, .int .i64 c.o, .int .i64 c.ga, .int .i64 c.la, .int .i64 c.ea, .bool c.di] := ⟨_, rfl⟩
  have hbel : Below W.heap.size W (((W.alloc (.cells #[.int .i64 c.g, .int .i64 c.so, .int .i64 c.k, .int .i64 c.sz, .int .i64 c.sl, .int .i64 c.o, .int .i64 c.ga, .int .i64 c.la, .int .i64 c.ea, .bool c.di] 24)).alloc (.cells #[.string ⟨#[]⟩, .int .i64 0, .slice none 0 0] 29)).alloc (.cells #[.string ⟨#[]⟩, .int .i64 0, .slice none 0 0] 29)) := ((below_alloc W _).alloc (by simp) _).alloc (by simp; omega) _
  have HBEL := Lib.hid hbel
  have HR0 := Lib.hid (hr.below hbel)
  clear hr hbel hf hj hcv
  by_cases htx : txE 256 bs a0 = 0
  · have hx := htx
    clear hx
    have HT := Lib.hid (Text_ok B g a0 256 v bs _ HR0.out (by omega) (by omega) htx)
    obtain ⟨K, hK⟩ : ∃ K : ByteArray, (⟨(cut bs (a0 + (rdAt bs a0).2.1) (rdAt bs a0).1).toArray⟩ : ByteArray) = K := ⟨_, rfl⟩
    obtain ⟨a1, ha1⟩ : ∃ a1, a0 + (rdAt bs a0).2.1 + (rdAt bs a0).1 = a1 := ⟨_, rfl⟩
    have hR1 : R = (if (rdAt bs a1).2.2 ≠ 0 then none else
      let a2 := a1 + (rdAt bs a1).2.1
      if (rdAt bs a2).2.2 ≠ 0 then none
      else match rdWs bs (rdAt bs a2).1 (a2 + (rdAt bs a2).2.1) [] with
        | none => none
        | some (l, a) => if keyB (c.k == 3) ⟨K, wrap64 ((rdAt bs a1).1 : Int), l⟩ then some (⟨K, wrap64 ((rdAt bs a1).1 : Int), l⟩, a) else none) := by
      rw [← HR.out, ← hK, ← ha1]; unfold rdKey; rw [if_neg (by omega)]
    have HR1 := Lib.hid hR1
    rw [hK, ha1] at HT
    clear hR1 hK ha1 htx HR
    have HM0 := Lib.hid must_ok
    unfold Cf.val at HK ⊢
    go_enter Try.func37, Try.ntmps37
    go_wp2_with fail
    refine HT.out.mono ?_
    rintro e w1 ⟨rfl, hr1, hg1⟩
    have bk1 : Bk w1 (W.heap.size + 1 + 1) 29 #[.string ⟨#[]⟩, .int .i64 0, .slice none 0 0] := (Bk.new' _ _ _ _ (by simp)).grown hg1 (fun e => by have := Option.some.inj e; omega)
    have bc1 : Bk w1 W.heap.size 24 #[.int .i64 c.g, .int .i64 c.so, .int .i64 c.k, .int .i64 c.sz, .int .i64 c.sl, .int .i64 c.o, .int .i64 c.ga, .int .i64 c.la, .int .i64 c.ea, .bool c.di] := (((Bk.new W _ _).alloc _).alloc _).grown hg1 (fun e => by have := Option.some.inj e; omega)
    have bt1 : Bk w1 (W.heap.size + 1) 29 #[.string ⟨#[]⟩, .int .i64 0, .slice none 0 0] := ((Bk.new' _ _ _ _ (by simp)).alloc _).grown hg1 (fun e => by have := Option.some.inj e; omega)
    have y0 : w1.cell? ⟨W.heap.size + 1 + 1, 0, none⟩ = some (.string ⟨#[]⟩) := bk1.cell 0
    have fy0 : w1.frozen? ⟨W.heap.size + 1 + 1, 0, none⟩ = false := bk1.frozen 0
    have hG1 : W.grownBy w1 (some g) := only_step (below_grown HBEL.out (some g)) hg1 (fun b e => .inl e)
    have hsz1 := hg1.size
    simp only [World.size_alloc] at hsz1
    go_wp2_with fail
    obtain ⟨w2, hw2⟩ : ∃ w2, w1.setCell ⟨W.heap.size + 1 + 1, 0, none⟩ (.string K) = w2 := ⟨_, rfl⟩
    have bk2 : Bk w2 (W.heap.size + 1 + 1) 29 #[.string K, .int .i64 0, .slice none 0 0] := by rw [← hw2]; exact bk1.set 0 _
    have HBC2 : Hid (Bk w2 W.heap.size 24 #[.int .i64 c.g, .int .i64 c.so, .int .i64 c.k, .int .i64 c.sz, .int .i64 c.sl, .int .i64 c.o, .int .i64 c.ga, .int .i64 c.la, .int .i64 c.ea, .bool c.di]) := by rw [← hw2]; exact Lib.hid (bc1.far (p := ⟨W.heap.size + 1 + 1, 0, none⟩) (by show W.heap.size ≠ W.heap.size + 1 + 1; omega) _)
    have HBT2 : Hid (Bk w2 (W.heap.size + 1) 29 #[.string ⟨#[]⟩, .int .i64 0, .slice none 0 0]) := by rw [← hw2]; exact Lib.hid (bt1.far (p := ⟨W.heap.size + 1 + 1, 0, none⟩) (by show W.heap.size + 1 ≠ W.heap.size + 1 + 1; omega) _)
    have HRR2 : Hid (Rr w2 B g v bs a1) := by rw [← hw2]; exact Lib.hid (hr1.setq bk1 0 _ (by decide) (by decide))
    have HG2 : Hid (W.grownBy w2 (some g)) := by rw [← hw2]; exact Lib.hid (only_set hG1 _ _ (.inr (by show W.heap.size ≤ W.heap.size + 1 + 1; omega)))
    have hsz2 : W.heap.size + 1 + 1 < w2.heap.size := bk2.lt
    have HBK2 := Lib.hid bk2
    rw [hw2]
    clear hw2 bk1 bc1 bt1 y0 fy0 hG1 hsz1 hr1 hg1 bk2 HT HBEL HR0
    refine (HM0.out _).mono ?_
    rintro e w3 ⟨rfl, rfl⟩
    go_wp2_with fail
    have HN2 := Lib.hid (RNumber_g B g a1 v bs w2 HRR2.out)
    have hle1 := HRR2.out.le
    by_cases hd : (rdAt bs a1).2.2 = 0
    · rw [hd] at HN2
      obtain ⟨D, hD⟩ : ∃ D, (rdAt bs a1).1 = D := ⟨_, rfl⟩
      obtain ⟨a2, ha2⟩ : ∃ a2, a1 + (rdAt bs a1).2.1 = a2 := ⟨_, rfl⟩
      have hDl : D < 18446744073709551616 := by rw [← hD]; exact (rdAt_facts bs a1 hle1).1
      have hR2 : R = (if (rdAt bs a2).2.2 ≠ 0 then none
        else match rdWs bs (rdAt bs a2).1 (a2 + (rdAt bs a2).2.1) [] with
          | none => none
          | some (l, a) => if keyB (c.k == 3) ⟨K, wrap64 (D : Int), l⟩ then some (⟨K, wrap64 (D : Int), l⟩, a) else none) := by
        rw [HR1.out, ← hD, ← ha2, if_neg (by omega)]
      have HR2 := Lib.hid hR2
      rw [hD, ha2] at HN2
      clear hR2 hD ha2 hd HR1
      refine HN2.out.mono ?_
      rintro e w4 ⟨rfl, hr4, hg4⟩
      have HBK4 := Lib.hid (HBK2.out.grown hg4 (fun e => by have := Option.some.inj e; omega))
      have HBC4 := Lib.hid (HBC2.out.grown hg4 (fun e => by have := Option.some.inj e; omega))
      have HBT4 := Lib.hid (HBT2.out.grown hg4 (fun e => by have := Option.some.inj e; omega))
      have HG4 := Lib.hid (only_step HG2.out hg4 (fun b e => .inl e))
      have HRR4 := Lib.hid hr4
      have hsz4 := hg4.size
      have hle2 := hr4.le
      clear hr4 hg4 HN2 HG2 HBK2 HBC2 HBT2
      go_wp2_with fail
      refine (HM0.out _).mono ?_
      rintro e w5 ⟨rfl, rfl⟩
      go_wp2_with fail
      have HN4 := Lib.hid (RNumber_g B g a2 v bs w4 HRR4.out)
      by_cases hd : (rdAt bs a2).2.2 = 0
      · rw [hd] at HN4
        obtain ⟨M, hM⟩ : ∃ M, (rdAt bs a2).1 = M := ⟨_, rfl⟩
        obtain ⟨a3, ha3⟩ : ∃ a3, a2 + (rdAt bs a2).2.1 = a3 := ⟨_, rfl⟩
        have hMl : M < 18446744073709551616 := by rw [← hM]; exact (rdAt_facts bs a2 hle2).1
        have hR3 : R = (match rdWs bs M a3 [] with
            | none => none
            | some (l, a) => if keyB (c.k == 3) ⟨K, wrap64 (D : Int), l⟩ then some (⟨K, wrap64 (D : Int), l⟩, a) else none) := by
          rw [HR2.out, ← hM, ← ha3, if_neg (by omega)]
        have HR3 := Lib.hid hR3
        rw [hM, ha3] at HN4
        clear hR3 hM ha3 hd HR2
        refine HN4.out.mono ?_
        rintro e w6 ⟨rfl, hr6, hg6⟩
        have bk6 := HBK4.out.grown hg6 (fun e => by have := Option.some.inj e; omega)
        have bc6 := HBC4.out.grown hg6 (fun e => by have := Option.some.inj e; omega)
        have bt6 := HBT4.out.grown hg6 (fun e => by have := Option.some.inj e; omega)
        have hG6 := only_step HG4.out hg6 (fun b e => .inl e)
        have hsz6 := hg6.size
        have hle3 := hr6.le
        have y1 : w6.cell? ⟨W.heap.size + 1 + 1, 1, none⟩ = some (.int .i64 0) := bk6.cell 1
        have fy1 : w6.frozen? ⟨W.heap.size + 1 + 1, 1, none⟩ = false := bk6.frozen 1
        obtain ⟨w8, hw8⟩ : ∃ w8, w6.setCell ⟨W.heap.size + 1 + 1, 1, none⟩ (.int .i64 (wrap64 (D : Int))) = w8 := ⟨_, rfl⟩
        have HBK8 : Hid (Bk w8 (W.heap.size + 1 + 1) 29 #[.string K, .int .i64 (wrap64 (D : Int)), .slice none 0 0]) := by rw [← hw8]; exact Lib.hid (bk6.set 1 _)
        have HBC8 : Hid (Bk w8 W.heap.size 24 #[.int .i64 c.g, .int .i64 c.so, .int .i64 c.k, .int .i64 c.sz, .int .i64 c.sl, .int .i64 c.o, .int .i64 c.ga, .int .i64 c.la, .int .i64 c.ea, .bool c.di]) := by rw [← hw8]; exact Lib.hid (bc6.far (p := ⟨W.heap.size + 1 + 1, 1, none⟩) (by show W.heap.size ≠ W.heap.size + 1 + 1; omega) _)
        have HBT8 : Hid (Bk w8 (W.heap.size + 1) 29 #[.string ⟨#[]⟩, .int .i64 0, .slice none 0 0]) := by rw [← hw8]; exact Lib.hid (bt6.far (p := ⟨W.heap.size + 1 + 1, 1, none⟩) (by show W.heap.size + 1 ≠ W.heap.size + 1 + 1; omega) _)
        have HRR8 : Hid (Rr w8 B g v bs a3) := by rw [← hw8]; exact Lib.hid (hr6.setq bk6 1 _ (by decide) (by decide))
        have HG8 : Hid (W.grownBy w8 (some g)) := by rw [← hw8]; exact Lib.hid (only_set hG6 _ _ (.inr (by show W.heap.size ≤ W.heap.size + 1 + 1; omega)))
        have hsz8 : W.heap.size + 1 + 1 < w8.heap.size := HBK8.out.lt
        clear bk6 bc6 bt6 hG6 hr6 hg6 HN4 HG4 HBK4 HBC4 HBT4 HRR4
        go_wp2_with fail
        refine (HM0.out _).mono ?_
        rintro e w7 ⟨rfl, rfl⟩
        go_wp2_with fail
        clear y1 fy1 hw8 hsz6
--LOOP
        obtain ⟨iW, hiW, hW0, hW1, hW2⟩ := info_parts winInfo
        go_loopw [8] (fun nv wr => ∃ (r : Nat) (l : List Wn) (A : Option Addr) (cap a : Nat), nv = .int .u64 (r : Int) ∧ r < 18446744073709551616 ∧ rdWs bs M a3 [] = rdWs bs r a l ∧ Rr wr B g v bs a ∧ Bk wr (W.heap.size + 1 + 1) 29 #[.string K, .int .i64 (wrap64 (D : Int)), .slice A l.length cap] ∧
            wr.ownsRow W.heap.size 93 9 (.slice A l.length cap) l.length (wcells l) ∧ l.length * 9 ≤ a ∧ (∀ x ∈ l, x.Fit) ∧ W.grownBy wr (some g) ∧ Bk wr W.heap.size 24 #[.int .i64 c.g, .int .i64 c.so, .int .i64 c.k, .int .i64 c.sz, .int .i64 c.sl, .int .i64 c.o, .int .i64 c.ga, .int .i64 c.la, .int .i64 c.ea, .bool c.di] ∧ Bk wr (W.heap.size + 1) 29 #[.string ⟨#[]⟩, .int .i64 0, .slice none 0 0]) (fun nv _ => (intOf nv).toNat)
        case atStart => exact ⟨M, [], none, 0, a3, rfl, hMl, rfl, HRR8.out, HBK8.out, World.ownsRow_nil _ _ _ _, by simp, by simp, HG8.out, HBC8.out, HBT8.out⟩
        case round =>
          obtain ⟨r, l, A, cap, a, rfl, hrl, hws, hra, hbk, hown, hl9, hfit, hG, hbc, hbt⟩ := hrel
          have HWS := Lib.hid hws
          have HRA := Lib.hid hra
          have HBK := Lib.hid hbk
          have HOWN := Lib.hid hown
          have HFA := Lib.hid hfit
          have HG := Lib.hid hG
          have HBC := Lib.hid hbc
          have HBT := Lib.hid hbt
          have hla := hra.le
          have hszr : W.heap.size + 1 + 1 < wr.heap.size := hbk.lt
          obtain ⟨hc1, hc2⟩ : l.length ≤ cap ∧ cap ≤ maxLen := by obtain ⟨_, _, hv, h1, h2⟩ := ownsRow_shape hown; cases hv; exact ⟨h1, h2⟩
          unfold maxLen at hc2
          have z2 : wr.cell? ⟨W.heap.size + 1 + 1, 2, none⟩ = some (.slice A l.length cap) := hbk.cell 2
          by_cases hr0 : r = 0
          · subst hr0
            have c0 : wr.cell? ⟨W.heap.size, 0, none⟩ = some (.int .i64 c.g) := hbc.cell 0
            have c1 : wr.cell? ⟨W.heap.size, 1, none⟩ = some (.int .i64 c.so) := hbc.cell 1
            have c2 : wr.cell? ⟨W.heap.size, 2, none⟩ = some (.int .i64 c.k) := hbc.cell 2
            have c3 : wr.cell? ⟨W.heap.size, 3, none⟩ = some (.int .i64 c.sz) := hbc.cell 3
            have c4 : wr.cell? ⟨W.heap.size, 4, none⟩ = some (.int .i64 c.sl) := hbc.cell 4
            have c5 : wr.cell? ⟨W.heap.size, 5, none⟩ = some (.int .i64 c.o) := hbc.cell 5
            have c6 : wr.cell? ⟨W.heap.size, 6, none⟩ = some (.int .i64 c.ga) := hbc.cell 6
            have c7 : wr.cell? ⟨W.heap.size, 7, none⟩ = some (.int .i64 c.la) := hbc.cell 7
            have c8 : wr.cell? ⟨W.heap.size, 8, none⟩ = some (.int .i64 c.ea) := hbc.cell 8
            have c9 : wr.cell? ⟨W.heap.size, 9, none⟩ = some (.bool c.di) := hbc.cell 9
            have z0 : wr.cell? ⟨W.heap.size + 1 + 1, 0, none⟩ = some (.string K) := hbk.cell 0
            have z1 : wr.cell? ⟨W.heap.size + 1 + 1, 1, none⟩ = some (.int .i64 (wrap64 (D : Int))) := hbk.cell 1
            have hRR : R = if keyB (c.k == 3) ⟨K, wrap64 (D : Int), l⟩ then some (⟨K, wrap64 (D : Int), l⟩, a) else none := by rw [HR3.out, hws, rdWs]
            have HC := Lib.hid (HK.out ⟨K, wrap64 (D : Int), l⟩ _ wr ⟨A, cap, rfl, Rd.of_owns hown⟩)
            clear hws hra hbk hown hfit hG hbc hbt
            obtain ⟨N, hN⟩ : ∃ N, l.length = N := ⟨_, rfl⟩
            simp only [hN] at HC hc1 z2
            have HNL := Lib.hid hN
            clear hN
            cases hkb : keyB (c.k == 3) ⟨K, wrap64 (D : Int), l⟩ with
            | false =>
              rw [hkb] at hRR HC
              simp only [Bool.false_eq_true, if_false] at HC hRR
              have hno : Hid (R = none) := Lib.hid hRR
              have HM := Lib.hid (fun w => must_bad 6 (by omega) w)
              clear hRR hkb
              go_wp2_with fail
              refine HC.out.mono ?_
              rintro e w2 ⟨rfl, hb2⟩
              have HB2 := Lib.hid hb2
              clear hb2
              go_wp2_with fail
              refine (HM.out _).mono ?_
              rintro e w7 ⟨he, rfl⟩
              obtain ⟨zz, rfl⟩ := he
              go_wp2
              obtain rfl := hno.out
              exact ⟨rfl, ReadPost.no (only_step HG.out (below_grown HB2.out (some g)) (fun b e => .inl e)) ⟨zz, rfl⟩⟩
            | true =>
              rw [hkb] at hRR HC
              simp only [if_true] at HC hRR
              have hsome : Hid (R = some (⟨K, wrap64 (D : Int), l⟩, a)) := Lib.hid hRR
              clear hRR hkb
              go_wp2_with fail
              refine HC.out.mono ?_
              rintro e w2 ⟨rfl, hb2⟩
              have bk2 := HBK.out.below hb2
              rw [HNL.out] at bk2
              have bt2 := HBT.out.below hb2
              have y0 : w2.cell? ⟨W.heap.size + 1 + 1, 0, none⟩ = some (.string K) := bk2.cell 0
              have y1 : w2.cell? ⟨W.heap.size + 1 + 1, 1, none⟩ = some (.int .i64 (wrap64 (D : Int))) := bk2.cell 1
              have y2 : w2.cell? ⟨W.heap.size + 1 + 1, 2, none⟩ = some (.slice A N cap) := bk2.cell 2
              have t0 : w2.cell? ⟨W.heap.size + 1, 0, none⟩ = some (.string ⟨#[]⟩) := bt2.cell 0
              have t1 : w2.cell? ⟨W.heap.size + 1, 1, none⟩ = some (.int .i64 0) := bt2.cell 1
              have t2 : w2.cell? ⟨W.heap.size + 1, 2, none⟩ = some (.slice none 0 0) := bt2.cell 2
              have f0 := bt2.frozen 0
              have f1 := bt2.frozen 1
              have f2 := bt2.frozen 2
              have HB2 := Lib.hid hb2
              have HBT2 := Lib.hid bt2
              clear hb2 bk2 bt2
              go_wp2_with fail
              refine (HM0.out _).mono ?_
              rintro e w7 ⟨rfl, rfl⟩
              go_wp2
              have h1 := HBT2.out.set 0 (.string K)
              have h2 := h1.set 1 (.int .i64 (wrap64 (D : Int)))
              have h3 := h2.set 2 (.slice A N cap)
              refine bodyPost_ret (v := .agg #[.string K, .int .i64 (wrap64 (D : Int)), .slice A N cap]) (results_cell_row Try.results37 _ _ (W.heap.size + 1) 29 _ (0, 0) _ rfl h3 Try.underlying29 rfl (by kernel_rfl)) rfl ?_
              obtain rfl := hsome.out
              have hsw := HG.out.size
              have hs2 := HB2.out.size
              refine ⟨only_set (only_set (only_set (only_step HG.out (below_grown HB2.out (some g)) (fun b e => .inl e)) _ _ (.inr ?_)) _ _ (.inr ?_)) _ _ (.inr ?_), ?_, A, cap, ?_, ?_⟩
              · show W.heap.size ≤ W.heap.size + 1; omega
              · show W.heap.size ≤ W.heap.size + 1; omega
              · show W.heap.size ≤ W.heap.size + 1; omega
              · exact (((HRA.out.below HB2.out).setq HBT2.out 0 _ (by decide) (by decide)).setq h1 1 _ (by decide) (by decide)).setq h2 2 _ (by decide) (by decide)
              · show _ = Ending.returned (.agg #[.string K, .int .i64 (wrap64 (D : Int)), .slice A l.length cap])
                rw [HNL.out]
              · exact own_set (own_set (own_set (own_below HOWN.out HB2.out) HBT2.out (by decide) 0 _) h1 (by decide) 1 _) h2 (by decide) 2 _
          · obtain ⟨r, rfl⟩ : ∃ r', r = r' + 1 := ⟨r - 1, by omega⟩
            clear hr0
            /- the last one -/
            obtain ⟨lo, hlo⟩ : ∃ lo : Option Addr, (l.length = 0 ∧ lo = none) ∨ (∃ q0 m, l.length = m + 1 ∧ A = some ⟨q0, 0, none⟩ ∧ lo = some ⟨q0, m * 9, none⟩) := by
              rcases Nat.eq_zero_or_pos l.length with h0 | h0
              · exact ⟨none, .inl ⟨h0, rfl⟩⟩
              · obtain ⟨q0, hA, _⟩ := ownsRow_at hown h0
                exact ⟨some ⟨q0, (l.length - 1) * 9, none⟩, .inr ⟨q0, l.length - 1, by omega, hA, rfl⟩⟩
            have hlast : ∀ w2 : World, (∀ r', (Value.slice A l.length cap).ownBlock = some r' → w2.heap[r']? = wr.heap[r']?) → LastOk w2 (.pointer lo) (lastS l) := fun w2 hk => by
              rcases hlo with ⟨h0, rfl⟩ | ⟨q0, m, hm, rfl, rfl⟩
              · have : l = [] := List.eq_nil_of_length_eq_zero h0
                subst this
                exact .inl ⟨rfl, rfl⟩
              · obtain ⟨y, hy⟩ : ∃ y, l[m]? = some y := ⟨_, List.getElem?_eq_getElem (by omega)⟩
                obtain ⟨q1, h1, _, _, _, _, hcell, _⟩ := ownsRow_at hown (by omega)
                cases h1
                have h2 : lastS l = some y.s := by unfold lastS; rw [List.getLast?_eq_getElem?, show l.length - 1 = m by omega, hy]; rfl
                have h3 := hcell _ _ (wcells_at l m y hy 0 _ rfl)
                refine .inr ⟨q0, m * 9, y.s, rfl, h2, ?_⟩
                have h4 := hk q0 rfl
                simp only [World.cell?, h4]
                exact h3
            have hli : ∀ s, lastS l = some s → In64 s := fun s hs => by
              unfold lastS at hs
              cases hq : l.getLast? with
              | none => rw [hq] at hs; cases hs
              | some y =>
                rw [hq] at hs
                simp only [Option.map_some, Option.some.injEq] at hs
                subst hs
                exact (hfit y (List.mem_of_getLast? hq)).s
            have hws2 : R = (match rdWs bs (r + 1) a l with
              | none => none
              | some (l, a) => if keyB (c.k == 3) ⟨K, wrap64 (D : Int), l⟩ then some (⟨K, wrap64 (D : Int), l⟩, a) else none) := by rw [HR3.out, hws]
            have hno : rdTo bs (lastS l) a 9 = none → R = none := fun h => by rw [hws2, rdWs, h]
            have hyes : ∀ x a', rdTo bs (lastS l) a 9 = some (x, a') → rdWs bs M a3 [] = rdWs bs r a' (l ++ [x]) := fun x a' h => by rw [hws, rdWs, h]
            obtain ⟨last, hlas⟩ : ∃ last, lastS l = last := ⟨_, rfl⟩
            rw [hlas] at hlast hli hno hyes
            have HLAST := Lib.hid hlast
            have HLI := Lib.hid hli
            have HNO := Lib.hid hno
            have HYES := Lib.hid hyes
            have hgne : ∀ r', (Value.slice A l.length cap).ownBlock = some r' → r' ≠ g ∧ r' < wr.heap.size := fun r' h => ⟨fun e => by subst e; exact own_bk_ne hown hra.blk (by decide) h, (hown.lt r' h).2⟩
            have HGNE := Lib.hid hgne
            have hgl2 := hra.blk.lt
            obtain ⟨N, hN⟩ : ∃ N, l.length = N := ⟨_, rfl⟩
            have HNL := Lib.hid hN
            rw [hN] at hlo hc1 hl9 z2 HOWN HBK HGNE HLAST
            clear hws hra hbk hown hfit hG hbc hbt hlast hli hno hyes hws2 hlas hgne hN
            obtain ⟨wo, rfl⟩ : ∃ wo : World, wo = wr := ⟨_, rfl⟩
            go_upto_if 47 with (fail)
            go_cut [10] (fun s10 wx => s10 = .pointer lo ∧ wx = wo.alloc (.cells wn0.arr 93))
            case first =>
              rcases hlo with ⟨rfl, rfl⟩ | ⟨q0, m, rfl, rfl, rfl⟩
              · go_wp2
                go_meet
                exact ⟨rfl, rfl⟩
              · go_wp2
                go_meet
                exact ⟨rfl, rfl⟩
            case rest =>
              obtain ⟨rfl, rfl⟩ := hcut
              skip
              go_wp2_with fail
              refine (fields_any _).mono ?_
              rintro e wf ⟨cc, rfl, hlo9, hF, hbf⟩
              have hszf := hbf.size
              simp only [World.size_alloc] at hszf hlo9
              have hbo := below_trans (below_alloc wo _) hbf
              have HF := Lib.hid hF
              have HLO9 := Lib.hid hlo9
              have HBO := Lib.hid hbo
              have HXF := Lib.hid ((Bk.new wo 93 wn0.arr).below hbf)
              have HRF := Lib.hid (HRA.out.below hbo)
              clear hlo9 hF hbf hbo
              go_wp2_with fail
              go_loopw [54] (fun jv wi => ∃ (j : Nat) (jz : Int) (x : Wn) (a' : Nat), j ≤ 9 ∧ jz = (j : Int) ∧ jv = .int .i64 jz ∧ rdTo bs last a j = some (x, a') ∧ Rr wi B g v bs a' ∧ Bk wi wo.heap.size 93 x.arr ∧ Only (fun r => r = g ∨ r = wo.heap.size) wf wi) (fun jv _ => 9 - (intOf jv).toNat)
              case atStart => exact ⟨0, 0, wn0, a, by omega, rfl, rfl, rfl, HRF.out, HXF.out, Only.refl _ _⟩
              case round =>
                obtain ⟨j, jz, x, a', hj, hjz, rfl, hto, hri, hx, hon⟩ := hrel
                have HTO := Lib.hid hto
                have HRI := Lib.hid hri
                have HX := Lib.hid hx
                have HON := Lib.hid hon
                have hszi := hon.size
                have hla2 := hri.le
                obtain ⟨hfx, -, ha9⟩ := rdTo_facts HLI.out hla j x a' hto
                have HFIT := Lib.hid hfx
                /- what stays -/
                have hst : ∀ r', r' < wo.heap.size → r' ≠ g → wr.heap[r']? = wo.heap[r']? := fun r' h1 h2 => (hon.block r' (by omega) (by omega)).trans (HBO.out.block r' h1)
                have HSTAY := Lib.hid hst
                have hff : Flds wr cc := HF.out.only hon (fun j' hj' h => by have := HLO9.out j' hj'; omega)
                have HFF := Lib.hid hff
                have hlw : ∀ w2, Below wr.heap.size wr w2 → LastOk w2 (.pointer (lo)) last := fun w2 hb => HLAST.out w2 fun r' h => by
                  obtain ⟨h1, h2⟩ := HGNE.out r' h
                  exact (hb.block r' (by omega)).trans (HSTAY.out r' h2 h1)
                have HLW := Lib.hid hlw
                have HGF : Hid (∀ w2, Only (fun r => r = g ∨ r = wo.heap.size) wf w2 → W.grownBy w2 (some g)) := Lib.hid fun w2 h => grown_only (Only.trans (only_grown (only_step HG.out (below_grown HBO.out (some g)) (fun b e => .inl e))) h (fun b hb => by rcases hb with h1 | h1; exact .inl h1; exact .inr (by subst h1; omega)))
                have bk5 : Bk wr (W.heap.size + 1 + 1) 29 #[.string K, .int .i64 (wrap64 (D : Int)), .slice A N cap] := (HSTAY.out _ (by omega) (by omega)).trans HBK.out
                have z5 : wr.cell? ⟨W.heap.size + 1 + 1, 2, none⟩ = some (.slice A N cap) := bk5.cell 2
                have HBK5 := Lib.hid bk5
                clear hto hri hx hon hfx hst hff hlw bk5
                by_cases hj9 : j = 9
                · obtain rfl := hj9
                  obtain rfl : jz = 9 := by omega
                  clear hjz hj
                  have hWn : N < 1125899906842624 := by omega
                  have hgW : W.grownBy wr (some g) := HGF.out _ HON.out
                  have hrow : wr.ownsRow W.heap.size 93 9 (.slice A N cap) N (wcells l) := own_heap HOWN.out (fun r' h' => by obtain ⟨h1, h2⟩ := HGNE.out r' h'; exact HSTAY.out r' h2 h1)
                  have HOA := Lib.hid (hrow.alloc (.cells x.arr 93))
                  have bC5 := (HSTAY.out W.heap.size (by omega) (by omega)).trans HBC.out
                  have bT5 := (HSTAY.out (W.heap.size + 1) (by omega) (by omega)).trans HBT.out
                  have HBC5 : Hid (Bk wr W.heap.size 24 #[.int .i64 c.g, .int .i64 c.so, .int .i64 c.k, .int .i64 c.sz, .int .i64 c.sl, .int .i64 c.o, .int .i64 c.ga, .int .i64 c.la, .int .i64 c.ea, .bool c.di]) := Lib.hid bC5
                  have HBT5 : Hid (Bk wr (W.heap.size + 1) 29 #[.string ⟨#[]⟩, .int .i64 0, .slice none 0 0]) := Lib.hid bT5
                  have HGW := Lib.hid hgW
                  have x0 : wr.cell? ⟨wo.heap.size, 0, none⟩ = some (.int .i64 x.s) := HX.out.cell 0
                  have x1 : wr.cell? ⟨wo.heap.size, 1, none⟩ = some (.int .i64 x.e) := HX.out.cell 1
                  have x2 : wr.cell? ⟨wo.heap.size, 2, none⟩ = some (.int .i64 x.h) := HX.out.cell 2
                  have x3 : wr.cell? ⟨wo.heap.size, 3, none⟩ = some (.int .i64 x.c) := HX.out.cell 3
                  have x4 : wr.cell? ⟨wo.heap.size, 4, none⟩ = some (.int .i64 x.u) := HX.out.cell 4
                  have x5 : wr.cell? ⟨wo.heap.size, 5, none⟩ = some (.int .i64 x.lo) := HX.out.cell 5
                  have x6 : wr.cell? ⟨wo.heap.size, 6, none⟩ = some (.int .i64 x.hi) := HX.out.cell 6
                  have x7 : wr.cell? ⟨wo.heap.size, 7, none⟩ = some (.int .i64 x.si) := HX.out.cell 7
                  have x8 : wr.cell? ⟨wo.heap.size, 8, none⟩ = some (.int .i64 x.pa) := HX.out.cell 8
                  have hlb5 := HBK5.out.lt
                  clear bC5 bT5 hgW hrow
                  go_wp2_with (first
                    | (at_builtin; refine wpList_append_own_at _ rfl (.tmp 65) (.tmp 67) 27 rfl W.heap.size 93 iW _ 9 72 Try.underlying27 hiW hW0 hW1 hW2 rfl (by decide) _ N _ rfl HOA.out ⟨wr.heap.size, 0, none⟩ 1 1 x.cells rfl rfl (news_lit wr x.arr 93 wr.heap.size rfl) (wn_one x) (by simp only [maxLen]; omega) (by omega) (by simp; omega) ?_; intro v7 w7 hown7 hgrow7 _ hat7
                       obtain ⟨A7, cap7, rfl, _, _⟩ := ownsRow_shape hown7
                       have bk7 := (HBK5.out.alloc (.cells x.arr 93)).grownOwn HOA.out (by decide) hgrow7
                       have z7 : w7.cell? ⟨W.heap.size + 1 + 1, 2, none⟩ = some (.slice A N cap) := bk7.cell 2
                       have f7 : w7.frozen? ⟨W.heap.size + 1 + 1, 2, none⟩ = false := bk7.frozen 2
                       have HBK7 := Lib.hid bk7
                       have HO7 := Lib.hid hown7
                       have HG7 := Lib.hid hgrow7
                       clear bk7 hown7 hgrow7 hat7))
                  go_roundw
                  case rel =>
                    have hlen : (l ++ [x]).length = N + 1 := by rw [List.length_append, HNL.out]; rfl
                    have hcel : wcells (l ++ [x]) = wcells l ++ x.cells := by rw [wcells_append]; simp [wcells]
                    refine ⟨r, l ++ [x], A7, cap7, a', rfl, by omega, HYES.out x a' HTO.out, ?_, ?_, ?_, ?_, ?_, ?_, ?_, ?_⟩
                    · have h1 := HRI.out.below (below_alloc wr (.cells x.arr 93))
                      have h2 : Rr w7 B g v bs a' := ⟨h1.blk.grownOwn HOA.out (by decide) HG7.out, h1.own.kept HG7.out (own_own_ne h1.own HOA.out (by decide)), h1.le⟩
                      exact h2.setq HBK7.out 2 _ (by decide) (by decide)
                    · rw [hlen]; exact HBK7.out.set 2 _
                    · rw [hlen, hcel]; exact own_set HO7.out HBK7.out (by decide) 2 _
                    · rw [hlen]; omega
                    · intro y hy
                      rcases List.mem_append.1 hy with h | h
                      · exact HFA.out y h
                      · simp at h; subst h; exact HFIT.out
                    · refine only_set (only_step (only_alloc HGW.out _) HG7.out (fun b e => .inr ?_)) _ _ (.inr (by show W.heap.size ≤ W.heap.size + 1 + 1; omega))
                      exact (HOA.out.lt b e).1
                    · exact ((HBC5.out.alloc (.cells x.arr 93)).grownOwn HOA.out (by decide) HG7.out).far (p := ⟨W.heap.size + 1 + 1, 2, none⟩) (by show W.heap.size ≠ W.heap.size + 1 + 1; omega) _
                    · exact ((HBT5.out.alloc (.cells x.arr 93)).grownOwn HOA.out (by decide) HG7.out).far (p := ⟨W.heap.size + 1 + 1, 2, none⟩) (by show W.heap.size + 1 ≠ W.heap.size + 1 + 1; omega) _
                  case measure => simp [intOf]
                have hj0 : j = 0 ∨ j = 1 ∨ j = 2 ∨ j = 3 ∨ j = 4 ∨ j = 5 ∨ j = 6 ∨ j = 7 ∨ j = 8 := by omega
                rcases hj0 with h | h | h | h | h | h | h | h | h
                · obtain rfl : j = 0 := by omega
                  obtain rfl : jz = 0 := by omega
                  clear hjz h hj9 hj
                  have hix := fld_ix0 cc
                  have HP : Hid (∀ w2, Below wr.heap.size wr w2 → GetsF B g wo.heap.size v (.pointer (lo)) bs a' w2 x last 81 #[.pointer (some ⟨cc 0, 0, none⟩)] 0) := Lib.hid fun w2 hb =>
                    fgot0 (HLW.out w2 hb) HLI.out (HX.out.below hb) HFIT.out.s (HFF.out.below hb) (HRI.out.below hb)
                  unfold GetsF at HP
                  simp only [List.append_toArray, List.cons_append, List.nil_append] at HP
                  have HSU : Hid ((fget bs last x a' 0).2 = 0 → rdTo bs last a 1 = some (x.put 0 (fget bs last x a' 0).1, a' + (rdAt bs a').2.1)) := Lib.hid fun h => rdTo_succ HTO.out h
                  have HST : Hid ((fget bs last x a' 0).2 ≠ 0 → R = none) := Lib.hid fun h => HNO.out (by have := rdTo_stop HTO.out h 8; exact this)
                  obtain ⟨fz, hfz⟩ : ∃ fz, fget bs last x a' 0 = fz := ⟨_, rfl⟩
                  rw [hfz] at HP HSU HST
                  clear hfz
                  obtain ⟨fv, fe⟩ := fz
                  simp only at HP HSU HST
                  go_wp2_with fail
                  refine (HP.out _ (below_alloc wr _)).mono ?_
                  rintro e w6 ⟨rfl, hr6, hb6, ho6⟩
                  have HR6 := Lib.hid hr6
                  have HB6 := Lib.hid hb6
                  have HO6 := Lib.hid (HON.out.then ((Only.of_below (below_alloc wr _)).then ho6))
                  clear hr6 hb6 ho6
                  by_cases hfe : fe = 0
                  · subst hfe
                    go_wp2_with fail
                    refine (HM0.out _).mono ?_
                    rintro e w7 ⟨rfl, rfl⟩
                    go_wp2_with fail
                    go_roundw
                    case rel => exact ⟨1, 1, _, _, by omega, by omega, rfl, HSU.out (by first | rfl | trivial), HR6.out, HB6.out, HO6.out⟩
                    case measure => simp [intOf]
                  · have HM := Lib.hid (fun w => must_bad fe hfe w)
                    have hno := Lib.hid (HST.out hfe)
                    go_wp2_with fail
                    refine (HM.out _).mono ?_
                    rintro e w7 ⟨he, rfl⟩
                    obtain ⟨zz, rfl⟩ := he
                    go_wp2
                    obtain rfl := hno.out
                    exact ⟨rfl, ReadPost.no (HGF.out _ HO6.out) ⟨zz, rfl⟩⟩
                · obtain rfl : j = 1 := by omega
                  obtain rfl : jz = 1 := by omega
                  clear hjz h hj9 hj
                  have hix := fld_ix1 cc
                  have HP : Hid (∀ w2, Below wr.heap.size wr w2 → GetsF B g wo.heap.size v (.pointer (lo)) bs a' w2 x last 84 #[] 1) := Lib.hid fun w2 hb =>
                    fgot1 (HLW.out w2 hb) HLI.out (HX.out.below hb) HFIT.out.s (HFF.out.below hb) (HRI.out.below hb)
                  unfold GetsF at HP
                  simp only [List.append_toArray, List.cons_append, List.nil_append] at HP
                  have HSU : Hid ((fget bs last x a' 1).2 = 0 → rdTo bs last a 2 = some (x.put 1 (fget bs last x a' 1).1, a' + (rdAt bs a').2.1)) := Lib.hid fun h => rdTo_succ HTO.out h
                  have HST : Hid ((fget bs last x a' 1).2 ≠ 0 → R = none) := Lib.hid fun h => HNO.out (by have := rdTo_stop HTO.out h 7; exact this)
                  obtain ⟨fz, hfz⟩ : ∃ fz, fget bs last x a' 1 = fz := ⟨_, rfl⟩
                  rw [hfz] at HP HSU HST
                  clear hfz
                  obtain ⟨fv, fe⟩ := fz
                  simp only at HP HSU HST
                  go_wp2_with fail
                  refine (HP.out _ (below_alloc wr _)).mono ?_
                  rintro e w6 ⟨rfl, hr6, hb6, ho6⟩
                  have HR6 := Lib.hid hr6
                  have HB6 := Lib.hid hb6
                  have HO6 := Lib.hid (HON.out.then ((Only.of_below (below_alloc wr _)).then ho6))
                  clear hr6 hb6 ho6
                  by_cases hfe : fe = 0
                  · subst hfe
                    go_wp2_with fail
                    refine (HM0.out _).mono ?_
                    rintro e w7 ⟨rfl, rfl⟩
                    go_wp2_with fail
                    go_roundw
                    case rel => exact ⟨2, 2, _, _, by omega, by omega, rfl, HSU.out (by first | rfl | trivial), HR6.out, HB6.out, HO6.out⟩
                    case measure => simp [intOf]
                  · have HM := Lib.hid (fun w => must_bad fe hfe w)
                    have hno := Lib.hid (HST.out hfe)
                    go_wp2_with fail
                    refine (HM.out _).mono ?_
                    rintro e w7 ⟨he, rfl⟩
                    obtain ⟨zz, rfl⟩ := he
                    go_wp2
                    obtain rfl := hno.out
                    exact ⟨rfl, ReadPost.no (HGF.out _ HO6.out) ⟨zz, rfl⟩⟩
                · obtain rfl : j = 2 := by omega
                  obtain rfl : jz = 2 := by omega
                  clear hjz h hj9 hj
                  have hix := fld_ix2 cc
                  have HP : Hid (∀ w2, Below wr.heap.size wr w2 → GetsF B g wo.heap.size v (.pointer (lo)) bs a' w2 x last 100 #[.pointer (some ⟨cc 2, 0, none⟩)] 2) := Lib.hid fun w2 hb =>
                    fgot2 (HLW.out w2 hb) HLI.out (HX.out.below hb) HFIT.out.s (HFF.out.below hb) (HRI.out.below hb)
                  unfold GetsF at HP
                  simp only [List.append_toArray, List.cons_append, List.nil_append] at HP
                  have HSU : Hid ((fget bs last x a' 2).2 = 0 → rdTo bs last a 3 = some (x.put 2 (fget bs last x a' 2).1, a' + (rdAt bs a').2.1)) := Lib.hid fun h => rdTo_succ HTO.out h
                  have HST : Hid ((fget bs last x a' 2).2 ≠ 0 → R = none) := Lib.hid fun h => HNO.out (by have := rdTo_stop HTO.out h 6; exact this)
                  obtain ⟨fz, hfz⟩ : ∃ fz, fget bs last x a' 2 = fz := ⟨_, rfl⟩
                  rw [hfz] at HP HSU HST
                  clear hfz
                  obtain ⟨fv, fe⟩ := fz
                  simp only at HP HSU HST
                  go_wp2_with fail
                  refine (HP.out _ (below_alloc wr _)).mono ?_
                  rintro e w6 ⟨rfl, hr6, hb6, ho6⟩
                  have HR6 := Lib.hid hr6
                  have HB6 := Lib.hid hb6
                  have HO6 := Lib.hid (HON.out.then ((Only.of_below (below_alloc wr _)).then ho6))
                  clear hr6 hb6 ho6
                  by_cases hfe : fe = 0
                  · subst hfe
                    go_wp2_with fail
                    refine (HM0.out _).mono ?_
                    rintro e w7 ⟨rfl, rfl⟩
                    go_wp2_with fail
                    go_roundw
                    case rel => exact ⟨3, 3, _, _, by omega, by omega, rfl, HSU.out (by first | rfl | trivial), HR6.out, HB6.out, HO6.out⟩
                    case measure => simp [intOf]
                  · have HM := Lib.hid (fun w => must_bad fe hfe w)
                    have hno := Lib.hid (HST.out hfe)
                    go_wp2_with fail
                    refine (HM.out _).mono ?_
                    rintro e w7 ⟨he, rfl⟩
                    obtain ⟨zz, rfl⟩ := he
                    go_wp2
                    obtain rfl := hno.out
                    exact ⟨rfl, ReadPost.no (HGF.out _ HO6.out) ⟨zz, rfl⟩⟩
                · obtain rfl : j = 3 := by omega
                  obtain rfl : jz = 3 := by omega
                  clear hjz h hj9 hj
                  have hix := fld_ix3 cc
                  have HP : Hid (∀ w2, Below wr.heap.size wr w2 → GetsF B g wo.heap.size v (.pointer (lo)) bs a' w2 x last 103 #[.pointer (some ⟨cc 3, 0, none⟩)] 3) := Lib.hid fun w2 hb =>
                    fgot3 (HLW.out w2 hb) HLI.out (HX.out.below hb) HFIT.out.s (HFF.out.below hb) (HRI.out.below hb)
                  unfold GetsF at HP
                  simp only [List.append_toArray, List.cons_append, List.nil_append] at HP
                  have HSU : Hid ((fget bs last x a' 3).2 = 0 → rdTo bs last a 4 = some (x.put 3 (fget bs last x a' 3).1, a' + (rdAt bs a').2.1)) := Lib.hid fun h => rdTo_succ HTO.out h
                  have HST : Hid ((fget bs last x a' 3).2 ≠ 0 → R = none) := Lib.hid fun h => HNO.out (by have := rdTo_stop HTO.out h 5; exact this)
                  obtain ⟨fz, hfz⟩ : ∃ fz, fget bs last x a' 3 = fz := ⟨_, rfl⟩
                  rw [hfz] at HP HSU HST
                  clear hfz
                  obtain ⟨fv, fe⟩ := fz
                  simp only at HP HSU HST
                  go_wp2_with fail
                  refine (HP.out _ (below_alloc wr _)).mono ?_
                  rintro e w6 ⟨rfl, hr6, hb6, ho6⟩
                  have HR6 := Lib.hid hr6
                  have HB6 := Lib.hid hb6
                  have HO6 := Lib.hid (HON.out.then ((Only.of_below (below_alloc wr _)).then ho6))
                  clear hr6 hb6 ho6
                  by_cases hfe : fe = 0
                  · subst hfe
                    go_wp2_with fail
                    refine (HM0.out _).mono ?_
                    rintro e w7 ⟨rfl, rfl⟩
                    go_wp2_with fail
                    go_roundw
                    case rel => exact ⟨4, 4, _, _, by omega, by omega, rfl, HSU.out (by first | rfl | trivial), HR6.out, HB6.out, HO6.out⟩
                    case measure => simp [intOf]
                  · have HM := Lib.hid (fun w => must_bad fe hfe w)
                    have hno := Lib.hid (HST.out hfe)
                    go_wp2_with fail
                    refine (HM.out _).mono ?_
                    rintro e w7 ⟨he, rfl⟩
                    obtain ⟨zz, rfl⟩ := he
                    go_wp2
                    obtain rfl := hno.out
                    exact ⟨rfl, ReadPost.no (HGF.out _ HO6.out) ⟨zz, rfl⟩⟩
                · obtain rfl : j = 4 := by omega
                  obtain rfl : jz = 4 := by omega
                  clear hjz h hj9 hj
                  have hix := fld_ix4 cc
                  have HP : Hid (∀ w2, Below wr.heap.size wr w2 → GetsF B g wo.heap.size v (.pointer (lo)) bs a' w2 x last 100 #[.pointer (some ⟨cc 4, 0, none⟩)] 4) := Lib.hid fun w2 hb =>
                    fgot4 (HLW.out w2 hb) HLI.out (HX.out.below hb) HFIT.out.s (HFF.out.below hb) (HRI.out.below hb)
                  unfold GetsF at HP
                  simp only [List.append_toArray, List.cons_append, List.nil_append] at HP
                  have HSU : Hid ((fget bs last x a' 4).2 = 0 → rdTo bs last a 5 = some (x.put 4 (fget bs last x a' 4).1, a' + (rdAt bs a').2.1)) := Lib.hid fun h => rdTo_succ HTO.out h
                  have HST : Hid ((fget bs last x a' 4).2 ≠ 0 → R = none) := Lib.hid fun h => HNO.out (by have := rdTo_stop HTO.out h 4; exact this)
                  obtain ⟨fz, hfz⟩ : ∃ fz, fget bs last x a' 4 = fz := ⟨_, rfl⟩
                  rw [hfz] at HP HSU HST
                  clear hfz
                  obtain ⟨fv, fe⟩ := fz
                  simp only at HP HSU HST
                  go_wp2_with fail
                  refine (HP.out _ (below_alloc wr _)).mono ?_
                  rintro e w6 ⟨rfl, hr6, hb6, ho6⟩
                  have HR6 := Lib.hid hr6
                  have HB6 := Lib.hid hb6
                  have HO6 := Lib.hid (HON.out.then ((Only.of_below (below_alloc wr _)).then ho6))
                  clear hr6 hb6 ho6
                  by_cases hfe : fe = 0
                  · subst hfe
                    go_wp2_with fail
                    refine (HM0.out _).mono ?_
                    rintro e w7 ⟨rfl, rfl⟩
                    go_wp2_with fail
                    go_roundw
                    case rel => exact ⟨5, 5, _, _, by omega, by omega, rfl, HSU.out (by first | rfl | trivial), HR6.out, HB6.out, HO6.out⟩
                    case measure => simp [intOf]
                  · have HM := Lib.hid (fun w => must_bad fe hfe w)
                    have hno := Lib.hid (HST.out hfe)
                    go_wp2_with fail
                    refine (HM.out _).mono ?_
                    rintro e w7 ⟨he, rfl⟩
                    obtain ⟨zz, rfl⟩ := he
                    go_wp2
                    obtain rfl := hno.out
                    exact ⟨rfl, ReadPost.no (HGF.out _ HO6.out) ⟨zz, rfl⟩⟩
                · obtain rfl : j = 5 := by omega
                  obtain rfl : jz = 5 := by omega
                  clear hjz h hj9 hj
                  have hix := fld_ix5 cc
                  have HP : Hid (∀ w2, Below wr.heap.size wr w2 → GetsF B g wo.heap.size v (.pointer (lo)) bs a' w2 x last 100 #[.pointer (some ⟨cc 5, 0, none⟩)] 5) := Lib.hid fun w2 hb =>
                    fgot5 (HLW.out w2 hb) HLI.out (HX.out.below hb) HFIT.out.s (HFF.out.below hb) (HRI.out.below hb)
                  unfold GetsF at HP
                  simp only [List.append_toArray, List.cons_append, List.nil_append] at HP
                  have HSU : Hid ((fget bs last x a' 5).2 = 0 → rdTo bs last a 6 = some (x.put 5 (fget bs last x a' 5).1, a' + (rdAt bs a').2.1)) := Lib.hid fun h => rdTo_succ HTO.out h
                  have HST : Hid ((fget bs last x a' 5).2 ≠ 0 → R = none) := Lib.hid fun h => HNO.out (by have := rdTo_stop HTO.out h 3; exact this)
                  obtain ⟨fz, hfz⟩ : ∃ fz, fget bs last x a' 5 = fz := ⟨_, rfl⟩
                  rw [hfz] at HP HSU HST
                  clear hfz
                  obtain ⟨fv, fe⟩ := fz
                  simp only at HP HSU HST
                  go_wp2_with fail
                  refine (HP.out _ (below_alloc wr _)).mono ?_
                  rintro e w6 ⟨rfl, hr6, hb6, ho6⟩
                  have HR6 := Lib.hid hr6
                  have HB6 := Lib.hid hb6
                  have HO6 := Lib.hid (HON.out.then ((Only.of_below (below_alloc wr _)).then ho6))
                  clear hr6 hb6 ho6
                  by_cases hfe : fe = 0
                  · subst hfe
                    go_wp2_with fail
                    refine (HM0.out _).mono ?_
                    rintro e w7 ⟨rfl, rfl⟩
                    go_wp2_with fail
                    go_roundw
                    case rel => exact ⟨6, 6, _, _, by omega, by omega, rfl, HSU.out (by first | rfl | trivial), HR6.out, HB6.out, HO6.out⟩
                    case measure => simp [intOf]
                  · have HM := Lib.hid (fun w => must_bad fe hfe w)
                    have hno := Lib.hid (HST.out hfe)
                    go_wp2_with fail
                    refine (HM.out _).mono ?_
                    rintro e w7 ⟨he, rfl⟩
                    obtain ⟨zz, rfl⟩ := he
                    go_wp2
                    obtain rfl := hno.out
                    exact ⟨rfl, ReadPost.no (HGF.out _ HO6.out) ⟨zz, rfl⟩⟩
                · obtain rfl : j = 6 := by omega
                  obtain rfl : jz = 6 := by omega
                  clear hjz h hj9 hj
                  have hix := fld_ix6 cc
                  have HP : Hid (∀ w2, Below wr.heap.size wr w2 → GetsF B g wo.heap.size v (.pointer (lo)) bs a' w2 x last 100 #[.pointer (some ⟨cc 6, 0, none⟩)] 6) := Lib.hid fun w2 hb =>
                    fgot6 (HLW.out w2 hb) HLI.out (HX.out.below hb) HFIT.out.s (HFF.out.below hb) (HRI.out.below hb)
                  unfold GetsF at HP
                  simp only [List.append_toArray, List.cons_append, List.nil_append] at HP
                  have HSU : Hid ((fget bs last x a' 6).2 = 0 → rdTo bs last a 7 = some (x.put 6 (fget bs last x a' 6).1, a' + (rdAt bs a').2.1)) := Lib.hid fun h => rdTo_succ HTO.out h
                  have HST : Hid ((fget bs last x a' 6).2 ≠ 0 → R = none) := Lib.hid fun h => HNO.out (by have := rdTo_stop HTO.out h 2; exact this)
                  obtain ⟨fz, hfz⟩ : ∃ fz, fget bs last x a' 6 = fz := ⟨_, rfl⟩
                  rw [hfz] at HP HSU HST
                  clear hfz
                  obtain ⟨fv, fe⟩ := fz
                  simp only at HP HSU HST
                  go_wp2_with fail
                  refine (HP.out _ (below_alloc wr _)).mono ?_
                  rintro e w6 ⟨rfl, hr6, hb6, ho6⟩
                  have HR6 := Lib.hid hr6
                  have HB6 := Lib.hid hb6
                  have HO6 := Lib.hid (HON.out.then ((Only.of_below (below_alloc wr _)).then ho6))
                  clear hr6 hb6 ho6
                  by_cases hfe : fe = 0
                  · subst hfe
                    go_wp2_with fail
                    refine (HM0.out _).mono ?_
                    rintro e w7 ⟨rfl, rfl⟩
                    go_wp2_with fail
                    go_roundw
                    case rel => exact ⟨7, 7, _, _, by omega, by omega, rfl, HSU.out (by first | rfl | trivial), HR6.out, HB6.out, HO6.out⟩
                    case measure => simp [intOf]
                  · have HM := Lib.hid (fun w => must_bad fe hfe w)
                    have hno := Lib.hid (HST.out hfe)
                    go_wp2_with fail
                    refine (HM.out _).mono ?_
                    rintro e w7 ⟨he, rfl⟩
                    obtain ⟨zz, rfl⟩ := he
                    go_wp2
                    obtain rfl := hno.out
                    exact ⟨rfl, ReadPost.no (HGF.out _ HO6.out) ⟨zz, rfl⟩⟩
                · obtain rfl : j = 7 := by omega
                  obtain rfl : jz = 7 := by omega
                  clear hjz h hj9 hj
                  have hix := fld_ix7 cc
                  have HP : Hid (∀ w2, Below wr.heap.size wr w2 → GetsF B g wo.heap.size v (.pointer (lo)) bs a' w2 x last 103 #[.pointer (some ⟨cc 7, 0, none⟩)] 7) := Lib.hid fun w2 hb =>
                    fgot7 (HLW.out w2 hb) HLI.out (HX.out.below hb) HFIT.out.s (HFF.out.below hb) (HRI.out.below hb)
                  unfold GetsF at HP
                  simp only [List.append_toArray, List.cons_append, List.nil_append] at HP
                  have HSU : Hid ((fget bs last x a' 7).2 = 0 → rdTo bs last a 8 = some (x.put 7 (fget bs last x a' 7).1, a' + (rdAt bs a').2.1)) := Lib.hid fun h => rdTo_succ HTO.out h
                  have HST : Hid ((fget bs last x a' 7).2 ≠ 0 → R = none) := Lib.hid fun h => HNO.out (by have := rdTo_stop HTO.out h 1; exact this)
                  obtain ⟨fz, hfz⟩ : ∃ fz, fget bs last x a' 7 = fz := ⟨_, rfl⟩
                  rw [hfz] at HP HSU HST
                  clear hfz
                  obtain ⟨fv, fe⟩ := fz
                  simp only at HP HSU HST
                  go_wp2_with fail
                  refine (HP.out _ (below_alloc wr _)).mono ?_
                  rintro e w6 ⟨rfl, hr6, hb6, ho6⟩
                  have HR6 := Lib.hid hr6
                  have HB6 := Lib.hid hb6
                  have HO6 := Lib.hid (HON.out.then ((Only.of_below (below_alloc wr _)).then ho6))
                  clear hr6 hb6 ho6
                  by_cases hfe : fe = 0
                  · subst hfe
                    go_wp2_with fail
                    refine (HM0.out _).mono ?_
                    rintro e w7 ⟨rfl, rfl⟩
                    go_wp2_with fail
                    go_roundw
                    case rel => exact ⟨8, 8, _, _, by omega, by omega, rfl, HSU.out (by first | rfl | trivial), HR6.out, HB6.out, HO6.out⟩
                    case measure => simp [intOf]
                  · have HM := Lib.hid (fun w => must_bad fe hfe w)
                    have hno := Lib.hid (HST.out hfe)
                    go_wp2_with fail
                    refine (HM.out _).mono ?_
                    rintro e w7 ⟨he, rfl⟩
                    obtain ⟨zz, rfl⟩ := he
                    go_wp2
                    obtain rfl := hno.out
                    exact ⟨rfl, ReadPost.no (HGF.out _ HO6.out) ⟨zz, rfl⟩⟩
                · obtain rfl : j = 8 := by omega
                  obtain rfl : jz = 8 := by omega
                  clear hjz h hj9 hj
                  have hix := fld_ix8 cc
                  have HP : Hid (∀ w2, Below wr.heap.size wr w2 → GetsF B g wo.heap.size v (.pointer (lo)) bs a' w2 x last 103 #[.pointer (some ⟨cc 8, 0, none⟩)] 8) := Lib.hid fun w2 hb =>
                    fgot8 (HLW.out w2 hb) HLI.out (HX.out.below hb) HFIT.out.s (HFF.out.below hb) (HRI.out.below hb)
                  unfold GetsF at HP
                  simp only [List.append_toArray, List.cons_append, List.nil_append] at HP
                  have HSU : Hid ((fget bs last x a' 8).2 = 0 → rdTo bs last a 9 = some (x.put 8 (fget bs last x a' 8).1, a' + (rdAt bs a').2.1)) := Lib.hid fun h => rdTo_succ HTO.out h
                  have HST : Hid ((fget bs last x a' 8).2 ≠ 0 → R = none) := Lib.hid fun h => HNO.out (by have := rdTo_stop HTO.out h 0; exact this)
                  obtain ⟨fz, hfz⟩ : ∃ fz, fget bs last x a' 8 = fz := ⟨_, rfl⟩
                  rw [hfz] at HP HSU HST
                  clear hfz
                  obtain ⟨fv, fe⟩ := fz
                  simp only at HP HSU HST
                  go_wp2_with fail
                  refine (HP.out _ (below_alloc wr _)).mono ?_
                  rintro e w6 ⟨rfl, hr6, hb6, ho6⟩
                  have HR6 := Lib.hid hr6
                  have HB6 := Lib.hid hb6
                  have HO6 := Lib.hid (HON.out.then ((Only.of_below (below_alloc wr _)).then ho6))
                  clear hr6 hb6 ho6
                  by_cases hfe : fe = 0
                  · subst hfe
                    go_wp2_with fail
                    refine (HM0.out _).mono ?_
                    rintro e w7 ⟨rfl, rfl⟩
                    go_wp2_with fail
                    go_roundw
                    case rel => exact ⟨9, 9, _, _, by omega, by omega, rfl, HSU.out (by first | rfl | trivial), HR6.out, HB6.out, HO6.out⟩
                    case measure => simp [intOf]
                  · have HM := Lib.hid (fun w => must_bad fe hfe w)
                    have hno := Lib.hid (HST.out hfe)
                    go_wp2_with fail
                    refine (HM.out _).mono ?_
                    rintro e w7 ⟨he, rfl⟩
                    obtain ⟨zz, rfl⟩ := he
                    go_wp2
                    obtain rfl := hno.out
                    exact ⟨rfl, ReadPost.no (HGF.out _ HO6.out) ⟨zz, rfl⟩⟩

--END
      · have hno : Hid (R = none) := Lib.hid (by rw [HR2.out, if_pos hd])
        obtain ⟨z, hz⟩ : ∃ z, (rdAt bs a2).2.2 = z := ⟨_, rfl⟩
        rw [hz] at HN4 hd
        have HM := Lib.hid (fun w => must_bad (z : Int) (by omega) w)
        clear hz HR2
        refine HN4.out.mono ?_
        rintro e w6 ⟨rfl, hr6, hg6⟩
        have HG6 := Lib.hid (only_step HG4.out hg6 (fun b e => .inl e))
        clear hr6 hg6
        go_wp2_with fail
        refine (HM.out _).mono ?_
        rintro e w7 ⟨he, rfl⟩
        obtain ⟨zz, rfl⟩ := he
        go_wp2
        obtain rfl := hno.out
        exact ⟨rfl, ReadPost.no HG6.out ⟨zz, rfl⟩⟩
    · have hno : Hid (R = none) := Lib.hid (by rw [HR1.out, if_pos hd])
      obtain ⟨z, hz⟩ : ∃ z, (rdAt bs a1).2.2 = z := ⟨_, rfl⟩
      rw [hz] at HN2 hd
      have HM := Lib.hid (fun w => must_bad (z : Int) (by omega) w)
      clear hz HR1
      refine HN2.out.mono ?_
      rintro e w4 ⟨rfl, hr4, hg4⟩
      have HG4 := Lib.hid (only_step HG2.out hg4 (fun b e => .inl e))
      clear hr4 hg4
      go_wp2_with fail
      refine (HM.out _).mono ?_
      rintro e w5 ⟨he, rfl⟩
      obtain ⟨zz, rfl⟩ := he
      go_wp2
      obtain rfl := hno.out
      exact ⟨rfl, ReadPost.no HG4.out ⟨zz, rfl⟩⟩
  · have hno : Hid (R = none) := Lib.hid (HR.out.symm.trans (by unfold rdKey; rw [if_pos htx]))
    have HT := Lib.hid (Text_bad B g a0 256 v bs _ HR0.out (by omega) (by omega) htx)
    obtain ⟨z, hz⟩ : ∃ z, txE 256 bs a0 = z := ⟨_, rfl⟩
    rw [hz] at HT htx
    have HM := Lib.hid (fun w => must_bad (z : Int) (by omega) w)
    clear hz
    unfold Cf.val
    go_enter Try.func37, Try.ntmps37
    go_wp2_with fail
    refine HT.out.mono ?_
    rintro e w1 ⟨rfl, hr1, hg1⟩
    have bk1 : Bk w1 (W.heap.size + 1 + 1) 29 #[.string ⟨#[]⟩, .int .i64 0, .slice none 0 0] := (Bk.new' _ _ _ _ (by simp)).grown hg1 (fun e => by have := Option.some.inj e; omega)
    have y0 : w1.cell? ⟨W.heap.size + 1 + 1, 0, none⟩ = some (.string ⟨#[]⟩) := bk1.cell 0
    have fy0 : w1.frozen? ⟨W.heap.size + 1 + 1, 0, none⟩ = false := bk1.frozen 0
    have HG1 := Lib.hid hg1
    have hsz1 := hg1.size
    simp only [World.size_alloc] at hsz1
    clear hr1 hg1 bk1
    go_wp2_with fail
    refine (HM.out _).mono ?_
    rintro e w2 ⟨he, rfl⟩
    obtain ⟨zz, rfl⟩ := he
    go_wp2
    obtain rfl := hno.out
    exact ⟨rfl, ReadPost.no (only_set (only_step (below_grown HBEL.out (some g)) HG1.out (fun b e => .inl e)) _ _ (.inr (by show W.heap.size ≤ W.heap.size + 1 + 1; omega))) ⟨zz, rfl⟩⟩
end Go.Proofs.Ytaechgnjdjijkaa
