/- The document's Read. -/
import Derived.Test.YtaechgnjdjijkaaRefRd
import Derived.Test.YtaechgnjdjijkaaRefW
import Derived.Deep.RegionHeld3
namespace Go.Proofs.Ytaechgnjdjijkaa
open Go.RowKit Go.Lib

theorem results_cell_tmp2 {P : Program} {fn : Func} {p q q2 : Tmp} {ty : TypeId} (h : fn.results = #[.cell p ty, .tmp q, .tmp q2]) (tmps : Array Value) (w : World) (g : Nat) (t : TypeId) (cs : Array Value) (fr : Nat × Nat) (d : TypeDesc)
    (hp : tmps.getD p undef = .pointer (some ⟨g, 0, none⟩)) (hg : w.heap[g]? = some (.cells cs t fr))
    (hu : P.underlying ty = some d) (hd : (match d with | .struct _ | .array _ _ => true | _ => false) = true) (hi : (P.info? ty).map (·.size) = some cs.size) {v v2 : Value} (hq : tmps.getD q undef = v) (hq2 : tmps.getD q2 undef = v2) :
    (results fn tmps).run P w = .ok (.tuple #[.agg cs, v, v2]) w := by
  have hp' : tmps[p]?.getD undef = .pointer (some ⟨g, 0, none⟩) := by simpa using hp
  have hq' : tmps[q]?.getD undef = v := by simpa using hq
  have hq2' : tmps[q2]?.getD undef = v2 := by simpa using hq2
  simp [results, h, hp', hq', hq2', asAddr, run_loadVar_row w g t ty cs fr d hg hu hd hi]
theorem nsAt_ge {bs : List UInt8} {a0 : Nat} (h0 : a0 ≤ bs.length) : ∀ (k : Nat) (l : List Nat) (a : Nat), nsAt bs a0 k = some (l, a) → a0 + k ≤ a
  | 0, l, a, h => by cases h; omega
  | k + 1, l, a, h => by
    rw [nsAt] at h
    cases hk : nsAt bs a0 k with
    | none => rw [hk] at h; cases h
    | some q =>
      obtain ⟨l1, a1⟩ := q
      rw [hk] at h
      simp only at h
      split at h
      · cases h
      · rename_i he
        cases h
        have i1 := nsAt_ge h0 k l1 a1 hk
        obtain ⟨-, i2, -⟩ := nsAt_facts h0 k l1 a1 hk
        have := rdAt_pos i2 (by omega)
        omega
theorem refWin_ge {bs : List UInt8} {last : Int} {first : Bool} {a a' : Nat} {x : Wn} (ha : a ≤ bs.length) (h : refWin bs last first a = some (x, a')) : a + 9 ≤ a' := by
  unfold refWin at h
  cases hn : nsAt bs a 9 with
  | none => rw [hn] at h; cases h
  | some q =>
    obtain ⟨l, a2⟩ := q
    rw [hn] at h
    simp only at h
    have := nsAt_ge ha 9 l a2 hn
    cases hw : refW last first l with
    | none => rw [hw] at h; cases h
    | some y => rw [hw] at h; cases h; exact this
/-- What the document's Read answers. -/
def RefAns (W : World) (r : Option (Kn × Nat)) (e : Ending) (w' : World) : Prop :=
  Below W.heap.size W w' ∧ match r with
    | none => e = .returned (.tuple #[.agg #[.string ⟨#[]⟩, .int .i64 0, .slice none 0 0], .int .i64 0, .int .i64 290])
    | some (k, a) => ∃ A cap, e = .returned (.tuple #[.agg #[.string k.key, .int .i64 k.dr, .slice A k.ws.length cap], .int .i64 (a : Int), .int .i64 0]) ∧ w'.ownsRow W.heap.size 93 9 (.slice A k.ws.length cap) k.ws.length (wcells k.ws)
set_option maxRecDepth 100000 in
theorem refRead_job (c : Cf) (hf : c.Fit) (hj : job c = false) (v : Value) (W : World) : Calls Try.prog 12 #[c.val, v] W fun e w' => e = .returned (.tuple #[.agg #[.string ⟨#[]⟩, .int .i64 0, .slice none 0 0], .int .i64 0, .int .i64 4]) ∧ Below W.heap.size W w' := by
  have HJ := Lib.hid (Job_any c hf)
  rw [hj] at HJ
  clear hj hf
  unfold Cf.val at *
  go_enter Try.func12, Try.ntmps12
  go_wp2_with fail
  refine (HJ.out _).mono ?_
  rintro e w1 ⟨rfl, hb⟩
  have HB : Hid (Below W.heap.size W w1) := Lib.hid (((below_alloc W _).alloc (by simp) _).trans (hb.mono (by simp; omega)))
  have hz : Bk w1 (W.heap.size + 1) 29 #[.string ⟨#[]⟩, .int .i64 0, .slice none 0 0] := (Bk.new' _ _ _ _ (by simp)).below hb
  have HZ := Lib.hid hz
  have q0 : w1.cell? ⟨W.heap.size + 1, 0, none⟩ = some (.string ⟨#[]⟩) := hz.cell 0
  have r0 := hz.frozen 0
  have q1 : w1.cell? ⟨W.heap.size + 1, 1, none⟩ = some (.int .i64 0) := hz.cell 1
  have r1 := hz.frozen 1
  have q2 : w1.cell? ⟨W.heap.size + 1, 2, none⟩ = some (.slice none 0 0) := hz.cell 2
  have r2 := hz.frozen 2
  clear hb hz
  go_wp2
  have hq3 := ((HZ.out.set 0 (.string ⟨#[]⟩)).set 1 (.int .i64 0)).set 2 (.slice none 0 0)
  refine bodyPost_ret (results_cell_tmp2 Try.results12 _ _ (W.heap.size + 1) 29 _ (0, 0) _ rfl hq3 Try.underlying29 rfl (by kernel_rfl) rfl rfl) rfl ?_
  exact ⟨rfl, ((HB.out.setCell (p := ⟨W.heap.size + 1, 0, none⟩) (by show W.heap.size ≤ W.heap.size + 1; omega) _).setCell (p := ⟨W.heap.size + 1, 1, none⟩) (by show W.heap.size ≤ W.heap.size + 1; omega) _).setCell (p := ⟨W.heap.size + 1, 2, none⟩) (by show W.heap.size ≤ W.heap.size + 1; omega) _⟩
set_option maxRecDepth 100000 in
set_option maxHeartbeats 4000000 in
theorem refRead_row (c : Cf) (hf : c.Fit) (hj : job c = true) (A : Option Addr) (m cap : Nat) (bs : List UInt8) (W : World) (hr : Rd W (.slice A m cap) m (bc bs)) (hm : bs.length = m) (hmax : m ≤ 8796093022208) :
    Calls Try.prog 12 #[c.val, .slice A m cap] W (RefAns W (refRd c bs)) := by
  have HJ := Lib.hid (Job_any c hf)
  rw [hj] at HJ
  have HSK : Hid (∀ w, Below W.heap.size W w → Calls Try.prog 13 #[.slice A m cap] w fun e w' => e = .returned (skAns (skTo bs 0)) ∧ Below w.heap.size w w') := Lib.hid fun w hb => refSkip_any A m cap bs w (hr.below hb) hm (by omega)
  have HKE : Hid (∀ (k : Kn) (kv : Value) (w : World), Rk w kv k → Calls Try.prog 46 #[c.val, kv] w fun e w' => e = .returned (.bool (keyB (c.k == 3) k)) ∧ Below w.heap.size w w') := Lib.hid fun k kv w h => refKey_any c k kv w h
  have HCN := Lib.hid refCount_any
  obtain ⟨R, hR⟩ : ∃ R, refRd c bs = R := ⟨_, rfl⟩
  rw [hR]
  have HR := Lib.hid hR
  have HRD := Lib.hid hr
  have HM := Lib.hid hm
  have hcap : m ≤ cap ∧ cap ≤ maxLen := by obtain ⟨_, _, hv, h1, h2, _⟩ := hr; cases hv; exact ⟨h1, h2⟩
  unfold maxLen at hcap
  obtain ⟨hcap1, hcap2⟩ := hcap
  clear hR hr hj hf
  obtain ⟨ses, hses⟩ : ∃ ses, (c.k == 3) = ses := ⟨_, rfl⟩
  have HSES := Lib.hid hses
  rw [hses] at HKE
  clear hses hm
  unfold Cf.val at *
  go_enter Try.func12, Try.ntmps12
  go_wp2_with fail
  refine (HJ.out _).mono ?_
  rintro e w1 ⟨rfl, hb⟩
  have HB1 : Hid (Below W.heap.size W w1) := Lib.hid (((below_alloc W _).alloc (by simp) _).trans (hb.mono (by simp; omega)))
  have HC1 : Hid (Bk w1 W.heap.size 24 #[.int .i64 c.g, .int .i64 c.so, .int .i64 c.k, .int .i64 c.sz, .int .i64 c.sl, .int .i64 c.o, .int .i64 c.ga, .int .i64 c.la, .int .i64 c.ea, .bool c.di] ∧ Bk w1 (W.heap.size + 1) 29 #[.string ⟨#[]⟩, .int .i64 0, .slice none 0 0]) := Lib.hid ⟨((Bk.new W _ _).alloc _).below hb, (Bk.new' _ _ _ _ (by simp)).below hb⟩
  clear hb
  go_wp2_with fail
  refine (HSK.out _ HB1.out).mono ?_
  cases hsk : skTo bs 0 with
  | none =>
    rintro e w2 ⟨rfl, hb2⟩
    have hno : Hid (R = none) := Lib.hid (by rw [← HR.out]; unfold refRd; rw [hsk])
    have HB2 := Lib.hid (below_trans HB1.out hb2)
    have HZ2 := Lib.hid (HC1.out.2.below hb2)
    have hz := HZ2.out
    have q0 : w2.cell? ⟨W.heap.size + 1, 0, none⟩ = some (.string ⟨#[]⟩) := hz.cell 0
    have r0 := hz.frozen 0
    have q1 : w2.cell? ⟨W.heap.size + 1, 1, none⟩ = some (.int .i64 0) := hz.cell 1
    have r1 := hz.frozen 1
    have q2 : w2.cell? ⟨W.heap.size + 1, 2, none⟩ = some (.slice none 0 0) := hz.cell 2
    have r2 := hz.frozen 2
    clear hb2 hz hsk
    unfold skAns
    go_wp2
    have hq3 := ((HZ2.out.set 0 (.string ⟨#[]⟩)).set 1 (.int .i64 0)).set 2 (.slice none 0 0)
    refine bodyPost_ret (results_cell_tmp2 Try.results12 _ _ (W.heap.size + 1) 29 _ (0, 0) _ rfl hq3 Try.underlying29 rfl (by kernel_rfl) rfl rfl) rfl ?_
    obtain rfl := hno.out
    exact ⟨((HB2.out.setCell (p := ⟨W.heap.size + 1, 0, none⟩) (by show W.heap.size ≤ W.heap.size + 1; omega) _).setCell (p := ⟨W.heap.size + 1, 1, none⟩) (by show W.heap.size ≤ W.heap.size + 1; omega) _).setCell (p := ⟨W.heap.size + 1, 2, none⟩) (by show W.heap.size ≤ W.heap.size + 1; omega) _, rfl⟩
  | some kn =>
    obtain ⟨K, N⟩ := kn
    rintro e w2 ⟨rfl, hb2⟩
    obtain ⟨p0, p1, p2, p3⟩ := skTo_parts hsk
    rw [HM.out] at p0 p3
    have HB2 := Lib.hid (below_trans HB1.out hb2)
    have HC2 : Hid (Bk w2 W.heap.size 24 #[.int .i64 c.g, .int .i64 c.so, .int .i64 c.k, .int .i64 c.sz, .int .i64 c.sl, .int .i64 c.o, .int .i64 c.ga, .int .i64 c.la, .int .i64 c.ea, .bool c.di] ∧ Bk w2 (W.heap.size + 1) 29 #[.string ⟨#[]⟩, .int .i64 0, .slice none 0 0]) := Lib.hid ⟨HC1.out.1.below hb2, HC1.out.2.below hb2⟩
    have HSKT := Lib.hid hsk
    clear hb2 hsk HC1 HSK HJ
    unfold skAns
    obtain ⟨a1, ha1⟩ : ∃ a1, 0 + (rdAt bs 0).2.1 + (rdAt bs 0).1 = a1 := ⟨_, rfl⟩
    rw [ha1] at p1 p2
    obtain ⟨a2, ha2⟩ : ∃ a2, a1 + (rdAt bs a1).2.1 = a2 := ⟨_, rfl⟩
    rw [ha2] at p2
    obtain ⟨D, hD⟩ : ∃ D, (rdAt bs a1).1 = D := ⟨_, rfl⟩
    obtain ⟨M, hM⟩ : ∃ M, (rdAt bs a2).1 = M := ⟨_, rfl⟩
    obtain ⟨a3, ha3⟩ : ∃ a3, a2 + (rdAt bs a2).2.1 = a3 := ⟨_, rfl⟩
    have HRR : Hid (R = match refWs bs M a3 [] with | none => none | some (l, _) => if keyB ses ⟨K, cnt D, l⟩ = true ∧ keyBytes ⟨K, cnt D, l⟩ = bs.take N then some (⟨K, cnt D, l⟩, N) else none) := Lib.hid (by
      rw [← HR.out]; unfold refRd; rw [HSKT.out]; simp only [ha1, ha2, hD, hM, ha3, HSES.out]; first | rfl | (split <;> rfl))
    have HDF : Hid (Df w2 (w2.alloc (.cells #[.slice A m cap, .int .i64 0] 82)) w2.heap.size A m cap bs 0) := Lib.hid ⟨Bk.new w2 _ _, HRD.out.below HB2.out, HM.out, Nat.zero_le _, below_alloc w2 _, Nat.le_refl _⟩
    have HT := Lib.hid (dText_ok m (by omega) HDF.out p0)
    simp only [ha1] at HT
    obtain ⟨d, hd⟩ : ∃ d, w2.heap.size = d := ⟨_, rfl⟩
    have HDD := Lib.hid hd
    go_wp2_with fail
    rw [hd] at HT
    clear HDF p0 hd
    refine HT.out.mono ?_
    rintro e w3 ⟨rfl, hr3, -⟩
    have HR3 := Lib.hid hr3
    have hle1 := hr3.le
    clear hr3 HT
    go_wp2_with fail
    have HN3 := Lib.hid (dNumber_g HR3.out)
    have hDl : D < 18446744073709551616 := by rw [← hD]; exact (rdAt_facts bs a1 (by rw [HM.out]; exact hle1)).1
    rw [p1, hD, ha2] at HN3
    refine HN3.out.mono ?_
    rintro e w4 ⟨rfl, hr4, -⟩
    have HR4 := Lib.hid hr4
    have hle2 := hr4.le
    clear hr4 HN3
    go_wp2_with fail
    have HN4 := Lib.hid (dNumber_g HR4.out)
    have hMl : M < 18446744073709551616 := by rw [← hM]; exact (rdAt_facts bs a2 (by rw [HM.out]; exact hle2)).1
    rw [p2, hM, ha3] at HN4
    refine HN4.out.mono ?_
    rintro e w5 ⟨rfl, hr5, -⟩
    have HR5 := Lib.hid hr5
    clear hr5 HN4 p1 p2 ha1 ha2 hD hM ha3
    go_wp2_with (first
      | (go_at_call 44; (with_reducible refine (HCN.out _ _ hDl).mono ?_); rintro e wq ⟨rfl, rfl⟩)
      | fail)
    obtain ⟨iW, hiW, hW0, hW1, hW2⟩ := info_parts winInfo
    have h25 : w2.heap.size ≤ w5.heap.size := HR5.out.bel.size
    have hdlt : d < w5.heap.size := HR5.out.blk.lt
    have hz2 : W.heap.size + 1 < w2.heap.size := HC2.out.2.lt
    have hdd : d = w2.heap.size := HDD.out.symm
    have hdW : W.heap.size + 1 < d := by omega
    have hs0 : Df w2 (w5.alloc (.cells #[.string K, .int .i64 (cnt D), .slice none 0 0] 29)) d A m cap bs a3 := HR5.out.below (below_alloc w5 _)
    have hs1 : Bk (w5.alloc (.cells #[.string K, .int .i64 (cnt D), .slice none 0 0] 29)) w5.heap.size 29 #[.string K, .int .i64 (cnt D), .slice none 0 0] := Bk.new _ _ _
    obtain ⟨kb, hkb⟩ : ∃ kb, w5.heap.size = kb := ⟨_, rfl⟩
    have HS0 := Lib.hid hs0
    have HS1 := Lib.hid hs1
    have HDE := Lib.hid hdd
    simp only [hkb] at HS1 h25 hdlt
    clear hs0 hs1 hdd
    have HKB := Lib.hid hkb
    rw [hkb]
    clear hkb
    go_loopw [16, 17] (fun lv iv wr => ∃ (i : Nat) (l : List Wn) (Al : Option Addr) (cl a : Nat), lv = .int .i64 ((lastS l).getD 0) ∧ iv = .int .u64 (i : Int) ∧ i ≤ M ∧ l.length = i ∧ refWs bs M a3 [] = refWs bs (M - i) a l ∧ Df w2 wr d A m cap bs a ∧ Bk wr kb 29 #[.string K, .int .i64 (cnt D), .slice Al i cl] ∧ wr.ownsRow w2.heap.size 93 9 (.slice Al i cl) i (wcells l) ∧ i * 9 ≤ a ∧ (∀ x ∈ l, x.Fit)) (fun _ iv _ => M - (intOf iv).toNat)
    case atStart => exact ⟨0, [], none, 0, a3, rfl, rfl, Nat.zero_le _, rfl, rfl, HS0.out, HS1.out, World.ownsRow_nil _ _ _ _, by omega, by simp⟩
    case round =>
      obtain ⟨i, l, Al, cl, a, rfl, rfl, hiM, hli, hws, hdf, hbk, hown, hi9, hfit⟩ := hrel
      have HWS := Lib.hid hws
      have HDF := Lib.hid hdf
      have HBK := Lib.hid hbk
      have HOWN := Lib.hid hown
      have HFI := Lib.hid hfit
      have HLI := Lib.hid hli
      have hszr : kb < wr.heap.size := hbk.lt
      have hla := hdf.le
      obtain ⟨hc1, hc2⟩ : i ≤ cl ∧ cl ≤ maxLen := by obtain ⟨_, _, hv, h1, h2⟩ := ownsRow_shape hown; cases hv; exact ⟨h1, h2⟩
      unfold maxLen at hc2
      have HBW : Hid (Below W.heap.size W wr) := Lib.hid (below_trans HB2.out hdf.bel)
      have HCR : Hid (Bk wr W.heap.size 24 #[.int .i64 c.g, .int .i64 c.so, .int .i64 c.k, .int .i64 c.sz, .int .i64 c.sl, .int .i64 c.o, .int .i64 c.ga, .int .i64 c.la, .int .i64 c.ea, .bool c.di]) := Lib.hid (HC2.out.1.below hdf.bel)
      have HZR : Hid (Bk wr (W.heap.size + 1) 29 #[.string ⟨#[]⟩, .int .i64 0, .slice none 0 0]) := Lib.hid (HC2.out.2.below hdf.bel)
      have HIN := Lib.hid (lastS_In hfit)
      have hdk : d ≠ kb := by have := hdf.blk.ne hbk (by decide); exact this
      obtain ⟨ln, hln⟩ : ∃ ln, (lastS l).isNone = ln := ⟨_, rfl⟩
      obtain ⟨lf, hlf⟩ : ∃ lf, (lastS l).getD 0 = lf := ⟨_, rfl⟩
      have hlni : ((i : Int) == 0) = ln := by
        rw [← hln, ← hli]
        cases l with
        | nil => rfl
        | cons y l' =>
          have h1 : ((((y :: l').length : Nat) : Int) == 0) = false := by simp; omega
          have h2 : (lastS (y :: l')).isNone = false := by unfold lastS; simp [List.getLast?_cons]
          rw [h1, h2]
      have HLN := Lib.hid hln
      have HLF := Lib.hid hlf
      rw [hlf] at HIN ⊢
      clear hws hdf hbk hown hfit hli hln hlf
      by_cases hlt : i < M
      · obtain ⟨n, hn⟩ : ∃ n, M - i = n + 1 := ⟨M - i - 1, by omega⟩
        have HWN : Hid (refWs bs M a3 [] = match refWin bs lf ln a with | none => none | some (x, a') => refWs bs n a' (l ++ [x])) := Lib.hid (by rw [HWS.out, hn, refWs, HLF.out, HLN.out]; cases refWin bs lf ln a <;> rfl)
        have HNN := Lib.hid hn
        clear hn HWS
        go_wp2_with fail
        have HWC := Lib.hid (refWin_any lf HIN.out ln HDF.out)
        refine HWC.out.mono ?_
        rintro e w6 hans
        unfold WinAns at hans
        obtain ⟨hg6, hans⟩ := hans
        have hbel6 : Below W.heap.size W w6 := HBW.out.grown hg6 HBW.out.size (fun b e => by cases e; omega)
        have HBW6 := Lib.hid hbel6
        have HG6 := Lib.hid hg6
        have HZ6 : Hid (Bk w6 (W.heap.size + 1) 29 #[.string ⟨#[]⟩, .int .i64 0, .slice none 0 0]) := Lib.hid (HZR.out.grown hg6 (fun e => by cases e; omega))
        have hsz6 : wr.heap.size ≤ w6.heap.size := hg6.size
        have hk6 : kb < w6.heap.size := by omega
        have hW6 : W.heap.size + 1 < w6.heap.size := by omega
        clear hg6 hbel6
        cases hk : refWin bs lf ln a with
        | none =>
          rw [hk] at hans
          simp only at hans
          unfold wn0 Wn.arr at hans
          subst hans
          have hno : Hid (R = none) := Lib.hid (by rw [HRR.out, HWN.out, hk])
          have q0 : w6.cell? ⟨W.heap.size + 1, 0, none⟩ = some (.string ⟨#[]⟩) := HZ6.out.cell 0
          have q1 : w6.cell? ⟨W.heap.size + 1, 1, none⟩ = some (.int .i64 0) := HZ6.out.cell 1
          have q2 : w6.cell? ⟨W.heap.size + 1, 2, none⟩ = some (.slice none 0 0) := HZ6.out.cell 2
          have r0 := HZ6.out.frozen 0
          have r1 := HZ6.out.frozen 1
          have r2 := HZ6.out.frozen 2
          clear hk
          go_wp2
          have hq3 := (((HZ6.out.set 0 (.string ⟨#[]⟩)).set 1 (.int .i64 0)).set 2 (.slice none 0 0)).alloc (.cells wn0.arr 93)
          refine bodyPost_ret (results_cell_tmp2 Try.results12 _ _ (W.heap.size + 1) 29 _ (0, 0) _ rfl hq3 Try.underlying29 rfl (by kernel_rfl) rfl rfl) rfl ?_
          obtain rfl := hno.out
          have hbz := ((HBW6.out.setCell (p := ⟨W.heap.size + 1, 0, none⟩) (by show W.heap.size ≤ W.heap.size + 1; omega) (.string ⟨#[]⟩)).setCell (p := ⟨W.heap.size + 1, 1, none⟩) (by show W.heap.size ≤ W.heap.size + 1; omega) (.int .i64 0)).setCell (p := ⟨W.heap.size + 1, 2, none⟩) (by show W.heap.size ≤ W.heap.size + 1; omega) (.slice none 0 0)
          exact ⟨hbz.alloc hbz.size _, rfl⟩
        | some xa =>
          obtain ⟨x, a'⟩ := xa
          rw [hk] at hans
          simp only at hans
          obtain ⟨he, hdf6⟩ := hans
          have hge := refWin_ge (by rw [HM.out]; exact hla) hk
          have hfx := refWin_facts HIN.out (by rw [HM.out]; exact hla) hk
          have hfx2 := hfx.2
          rw [HM.out] at hfx2
          have HFX := Lib.hid hfx.1
          have HWY : Hid (refWs bs M a3 [] = refWs bs n a' (l ++ [x])) := Lib.hid (by rw [HWN.out, hk])
          have HDF6 := Lib.hid hdf6
          have bk6 : Bk w6 kb 29 #[.string K, .int .i64 (cnt D), .slice Al i cl] := HBK.out.grown HG6.out (fun e => by cases e; exact hdk rfl)
          have ho6 : w6.ownsRow w2.heap.size 93 9 (.slice Al i cl) i (wcells l) := own_heap HOWN.out fun r hr => HG6.out.block r (HOWN.out.lt r hr).2 (fun e => by cases e; exact own_bk_ne HOWN.out HDF.out.blk (by decide) hr)
          have HBK6 := Lib.hid bk6
          have HOA := Lib.hid ((ho6.alloc (.cells x.arr 93)).alloc (.cells x.arr 93))
          have z2 : w6.cell? ⟨kb, 2, none⟩ = some (.slice Al i cl) := bk6.cell 2
          unfold Wn.arr at he
          subst he
          clear hk hdf6 bk6 ho6 hfx
          go_wp2_with (first
            | (at_builtin; refine wpList_append_own_at _ rfl (.tmp 74) (.tmp 76) 27 rfl w2.heap.size 93 iW _ 9 72 Try.underlying27 hiW hW0 hW1 hW2 rfl (by decide) _ i _ rfl HOA.out ⟨w6.heap.size + 1, 0, none⟩ 1 1 x.cells rfl rfl (news_lit (w6.alloc (.cells x.arr 93)) x.arr 93 (w6.heap.size + 1) (by simp)) (wn_one x) (by simp only [maxLen]; omega) (by omega) (by simp; omega) ?_; intro v7 w7 hown7 hgrow7 _ hat7
               obtain ⟨A7, cap7, rfl, _, _⟩ := ownsRow_shape hown7
               have bk7 := ((HBK6.out.alloc (.cells x.arr 93)).alloc (.cells x.arr 93)).grownOwn HOA.out (by decide) hgrow7
               have z7 : w7.cell? ⟨kb, 2, none⟩ = some (.slice Al i cl) := bk7.cell 2
               have f7 : w7.frozen? ⟨kb, 2, none⟩ = false := bk7.frozen 2
               have HBK7 := Lib.hid bk7
               have HO7 := Lib.hid hown7
               have HG7 := Lib.hid hgrow7
               clear bk7 hown7 hgrow7 hat7))
          go_roundw
          case rel =>
            have hlen : (l ++ [x]).length = i + 1 := by rw [List.length_append, HLI.out]; rfl
            have hcel : wcells (l ++ [x]) = wcells l ++ x.cells := by rw [wcells_append]; simp [wcells]
            have hls : (lastS (l ++ [x])).getD 0 = x.s := by unfold lastS; simp
            have hd7 : Df w2 w7 d A m cap bs a' := ((HDF6.out.below (below_alloc w6 (.cells x.arr 93))).below (below_alloc _ (.cells x.arr 93))).grown HG7.out (fun b e => ⟨(HOA.out.lt b e).1, fun e2 => by subst e2; exact own_bk_ne HOWN.out HDF.out.blk (by decide) e⟩)
            refine ⟨i + 1, l ++ [x], A7, cap7, a', by rw [hls], by go_num, by omega, hlen, ?_, hd7.set (p := ⟨kb, 2, none⟩) hdk h25 _, HBK7.out.set 2 _, ?_, by omega, ?_⟩
            · rw [HWY.out, show M - (i + 1) = n by have := HNN.out; omega]
            · rw [hcel]; exact own_set HO7.out HBK7.out (by decide) 2 _
            · intro y hy
              rcases List.mem_append.1 hy with h | h
              · exact HFI.out y h
              · simp at h; subst h; exact HFX.out
          case measure => simp [intOf]; omega
      · have hiM2 : M - i = 0 := by omega
        have HRK : Hid (R = if keyB ses ⟨K, cnt D, l⟩ = true ∧ keyBytes ⟨K, cnt D, l⟩ = bs.take N then some (⟨K, cnt D, l⟩, N) else none) := Lib.hid (by rw [HRR.out, HWS.out, hiM2, refWs])
        have HKX : Hid (∀ w, Below wr.heap.size wr w → Calls Try.prog 46 #[.agg #[.int .i64 c.g, .int .i64 c.so, .int .i64 c.k, .int .i64 c.sz, .int .i64 c.sl, .int .i64 c.o, .int .i64 c.ga, .int .i64 c.la, .int .i64 c.ea, .bool c.di], .agg #[.string K, .int .i64 (cnt D), .slice Al i cl]] w fun e w' => e = .returned (.bool (keyB ses ⟨K, cnt D, l⟩)) ∧ Below w.heap.size w w') := Lib.hid fun w hb => HKE.out ⟨K, cnt D, l⟩ _ w ⟨Al, cl, by show _ = Value.agg #[.string K, .int .i64 (cnt D), .slice Al l.length cl]; rw [HLI.out], by show Rd w (.slice Al l.length cl) l.length (wcells l); rw [HLI.out]; exact (Rd.of_owns HOWN.out).below hb⟩
        have HST : Hid (∀ w, Below wr.heap.size wr w → (w.cell? ⟨W.heap.size, 0, none⟩ = some (.int .i64 c.g) ∧ w.cell? ⟨W.heap.size, 1, none⟩ = some (.int .i64 c.so) ∧ w.cell? ⟨W.heap.size, 2, none⟩ = some (.int .i64 c.k) ∧ w.cell? ⟨W.heap.size, 3, none⟩ = some (.int .i64 c.sz) ∧ w.cell? ⟨W.heap.size, 4, none⟩ = some (.int .i64 c.sl) ∧ w.cell? ⟨W.heap.size, 5, none⟩ = some (.int .i64 c.o) ∧ w.cell? ⟨W.heap.size, 6, none⟩ = some (.int .i64 c.ga) ∧ w.cell? ⟨W.heap.size, 7, none⟩ = some (.int .i64 c.la) ∧ w.cell? ⟨W.heap.size, 8, none⟩ = some (.int .i64 c.ea) ∧ w.cell? ⟨W.heap.size, 9, none⟩ = some (.bool c.di)) ∧ w.cell? ⟨kb, 0, none⟩ = some (.string K) ∧ w.cell? ⟨kb, 1, none⟩ = some (.int .i64 (cnt D)) ∧ w.cell? ⟨kb, 2, none⟩ = some (.slice Al i cl)) := Lib.hid fun w hb => by
          have h1 := HCR.out.below hb
          have h2 := HBK.out.below hb
          exact ⟨⟨h1.cell 0, h1.cell 1, h1.cell 2, h1.cell 3, h1.cell 4, h1.cell 5, h1.cell 6, h1.cell 7, h1.cell 8, h1.cell 9⟩, h2.cell 0, h2.cell 1, h2.cell 2⟩
        clear HWS HRR hiM2
        cases hkb : keyB ses ⟨K, cnt D, l⟩ with
        | false =>
          have hno : Hid (R = none) := Lib.hid (by rw [HRK.out, hkb]; simp)
          rw [hkb] at HKX
          clear hkb
          go_wp2_with fail
          refine wp_region_held_drew (S := (fun w => Below wr.heap.size wr w ∧ (w.cell? ⟨W.heap.size, 0, none⟩ = some (.int .i64 c.g) ∧ w.cell? ⟨W.heap.size, 1, none⟩ = some (.int .i64 c.so) ∧ w.cell? ⟨W.heap.size, 2, none⟩ = some (.int .i64 c.k) ∧ w.cell? ⟨W.heap.size, 3, none⟩ = some (.int .i64 c.sz) ∧ w.cell? ⟨W.heap.size, 4, none⟩ = some (.int .i64 c.sl) ∧ w.cell? ⟨W.heap.size, 5, none⟩ = some (.int .i64 c.o) ∧ w.cell? ⟨W.heap.size, 6, none⟩ = some (.int .i64 c.ga) ∧ w.cell? ⟨W.heap.size, 7, none⟩ = some (.int .i64 c.la) ∧ w.cell? ⟨W.heap.size, 8, none⟩ = some (.int .i64 c.ea) ∧ w.cell? ⟨W.heap.size, 9, none⟩ = some (.bool c.di)) ∧ w.cell? ⟨kb, 0, none⟩ = some (.string K) ∧ w.cell? ⟨kb, 1, none⟩ = some (.int .i64 (cnt D)) ∧ w.cell? ⟨kb, 2, none⟩ = some (.slice Al i cl))) (by kernel_rfl) ⟨below_drew wr, HST.out _ (below_drew wr)⟩ (fun hHeld => ?_)
          refine wpAnyH_take (i := 0) (oi := ⟨some 79, _, _, _, _, _⟩) (v := .agg #[.int .i64 c.g, .int .i64 c.so, .int .i64 c.k, .int .i64 c.sz, .int .i64 c.sl, .int .i64 c.o, .int .i64 c.ga, .int .i64 c.la, .int .i64 c.ea, .bool c.di]) rfl (by kernel_rfl) (by kernel_rfl) (by kernel_rfl) (fun _ _ _ h => h) (Or.inl ⟨by rfl, ?_⟩) (by assumption) ?_
          · (intro w hSw; obtain ⟨-, ⟨c0, c1, c2, c3, c4, c5, c6, c7, c8, c9⟩, k0, k1, k2⟩ := hSw; go_simp)
          try simp only [Act.put, List.setIfInBounds_toArray, List.set_cons_zero, List.set_cons_succ]
          refine wpAnyH_take (i := 1) (oi := ⟨some 80, _, _, _, _, _⟩) (v := .agg #[.string K, .int .i64 (cnt D), .slice Al i cl]) rfl (by kernel_rfl) (by kernel_rfl) (by kernel_rfl) (fun _ _ _ h => h) (Or.inl ⟨by rfl, ?_⟩) (by assumption) ?_
          · (intro w hSw; obtain ⟨-, ⟨c0, c1, c2, c3, c4, c5, c6, c7, c8, c9⟩, k0, k1, k2⟩ := hSw; go_simp)
          try simp only [Act.put, List.setIfInBounds_toArray, List.set_cons_zero, List.set_cons_succ]
          refine wpAnyH_ready (rs := [2]) (by kernel_rfl) (by simp) ?_
          refine AllReadyH.cons rfl (fun K hK => ?_) AllReadyH.nil
          go_simp
          (go_at_call 46; (with_reducible refine (HKX.out _ (below_drew wr)).mono ?_); rintro e w7 ⟨rfl, hb7'⟩; have hb7 : Below wr.heap.size wr w7 := below_trans (below_drew wr) hb7')
          clear hHeld
          refine hK.out _ _ ⟨hb7, HST.out _ hb7⟩ (fun hHeld => ?_)
          clear hK
          try simp only [Act.put, List.setIfInBounds_toArray, List.set_cons_zero, List.set_cons_succ]
          refine wpAnyH_take (i := 3) (oi := ⟨some 82, _, _, _, _, _⟩) (v := .bool true) rfl (by kernel_rfl) (by kernel_rfl) (by kernel_rfl) (fun _ _ _ h => h) (Or.inl ⟨by rfl, ?_⟩) (by assumption) ?_
          · (intro w hSw; obtain ⟨-, ⟨c0, c1, c2, c3, c4, c5, c6, c7, c8, c9⟩, k0, k1, k2⟩ := hSw; go_simp)
          try simp only [Act.put, List.setIfInBounds_toArray, List.set_cons_zero, List.set_cons_succ]
          refine wpAnyH_take (i := 4) (oi := ⟨some 83, _, _, _, _, _⟩) (v := .bool true) rfl (by kernel_rfl) (by kernel_rfl) (by kernel_rfl) (fun _ _ _ h => h) (Or.inl ⟨by rfl, ?_⟩) (by assumption) ?_
          · (intro w hSw; obtain ⟨-, ⟨c0, c1, c2, c3, c4, c5, c6, c7, c8, c9⟩, k0, k1, k2⟩ := hSw; go_simp)
          try simp only [Act.put, List.setIfInBounds_toArray, List.set_cons_zero, List.set_cons_succ]
          refine wpAnyH_take (i := 5) (oi := ⟨some 84, _, _, _, _, _⟩) (v := undef) rfl (by kernel_rfl) (by kernel_rfl) (by kernel_rfl) (fun _ _ _ h => h) (Or.inr ⟨by rfl, rfl⟩) (by assumption) ?_
          try simp only [Act.put, List.setIfInBounds_toArray, List.set_cons_zero, List.set_cons_succ]
          refine wpAnyH_take (i := 6) (oi := ⟨some 85, _, _, _, _, _⟩) (v := undef) rfl (by kernel_rfl) (by kernel_rfl) (by kernel_rfl) (fun _ _ _ h => h) (Or.inr ⟨by rfl, rfl⟩) (by assumption) ?_
          try simp only [Act.put, List.setIfInBounds_toArray, List.set_cons_zero, List.set_cons_succ]
          refine wpAnyH_take (i := 7) (oi := ⟨some 86, _, _, _, _, _⟩) (v := undef) rfl (by kernel_rfl) (by kernel_rfl) (by kernel_rfl) (fun _ _ _ h => h) (Or.inr ⟨by rfl, rfl⟩) (by assumption) ?_
          try simp only [Act.put, List.setIfInBounds_toArray, List.set_cons_zero, List.set_cons_succ]
          refine wpAnyH_take (i := 8) (oi := ⟨some 87, _, _, _, _, _⟩) (v := undef) rfl (by kernel_rfl) (by kernel_rfl) (by kernel_rfl) (fun _ _ _ h => h) (Or.inr ⟨by rfl, rfl⟩) (by assumption) ?_
          try simp only [Act.put, List.setIfInBounds_toArray, List.set_cons_zero, List.set_cons_succ]
          refine wpAnyH_take (i := 9) (oi := ⟨some 88, _, _, _, _, _⟩) (v := undef) rfl (by kernel_rfl) (by kernel_rfl) (by kernel_rfl) (fun _ _ _ h => h) (Or.inr ⟨by rfl, rfl⟩) (by assumption) ?_
          try simp only [Act.put, List.setIfInBounds_toArray, List.set_cons_zero, List.set_cons_succ]
          refine wpAnyH_take (i := 10) (oi := ⟨some 89, _, _, _, _, _⟩) (v := undef) rfl (by kernel_rfl) (by kernel_rfl) (by kernel_rfl) (fun _ _ _ h => h) (Or.inr ⟨by rfl, rfl⟩) (by assumption) ?_
          try simp only [Act.put, List.setIfInBounds_toArray, List.set_cons_zero, List.set_cons_succ]
          refine wpAnyH_take (i := 11) (oi := ⟨some 90, _, _, _, _, _⟩) (v := undef) rfl (by kernel_rfl) (by kernel_rfl) (by kernel_rfl) (fun _ _ _ h => h) (Or.inr ⟨by rfl, rfl⟩) (by assumption) ?_
          try simp only [Act.put, List.setIfInBounds_toArray, List.set_cons_zero, List.set_cons_succ]
          refine wpAnyH_take (i := 12) (oi := ⟨some 91, _, _, _, _, _⟩) (v := .bool true) rfl (by kernel_rfl) (by kernel_rfl) (by kernel_rfl) (fun _ _ _ h => h) (Or.inl ⟨by rfl, ?_⟩) (by assumption) ?_
          · (intro w hSw; obtain ⟨-, ⟨c0, c1, c2, c3, c4, c5, c6, c7, c8, c9⟩, k0, k1, k2⟩ := hSw; go_simp)
          try simp only [Act.put, List.setIfInBounds_toArray, List.set_cons_zero, List.set_cons_succ]
          refine wpAnyH_done (by kernel_rfl) ?_ _
          have HB7 := Lib.hid hb7
          have bz7 := HZR.out.below hb7
          have q0 : w7.cell? ⟨W.heap.size + 1, 0, none⟩ = some (.string ⟨#[]⟩) := bz7.cell 0
          have q1 : w7.cell? ⟨W.heap.size + 1, 1, none⟩ = some (.int .i64 0) := bz7.cell 1
          have q2 : w7.cell? ⟨W.heap.size + 1, 2, none⟩ = some (.slice none 0 0) := bz7.cell 2
          have r0 := bz7.frozen 0
          have r1 := bz7.frozen 1
          have r2 := bz7.frozen 2
          have HZ7 := Lib.hid bz7
          clear bz7 hb7 hb7'
          go_wp2
          have hq3 := ((HZ7.out.set 0 (.string ⟨#[]⟩)).set 1 (.int .i64 0)).set 2 (.slice none 0 0)
          refine bodyPost_ret (results_cell_tmp2 Try.results12 _ _ (W.heap.size + 1) 29 _ (0, 0) _ rfl hq3 Try.underlying29 rfl (by kernel_rfl) rfl rfl) rfl ?_
          obtain rfl := hno.out
          have hbw := below_trans HBW.out HB7.out
          exact ⟨((hbw.setCell (p := ⟨W.heap.size + 1, 0, none⟩) (by show W.heap.size ≤ W.heap.size + 1; omega) _).setCell (p := ⟨W.heap.size + 1, 1, none⟩) (by show W.heap.size ≤ W.heap.size + 1; omega) _).setCell (p := ⟨W.heap.size + 1, 2, none⟩) (by show W.heap.size ≤ W.heap.size + 1; omega) _, rfl⟩
        | true =>
          rw [hkb] at HKX
          have hkp := keyB_iff.1 hkb
          have HBY : Hid (∀ w, Below wr.heap.size wr w → Calls Try.prog 48 #[.agg #[.string K, .int .i64 (cnt D), .slice Al i cl]] w fun e w' => ∃ v', e = .returned v' ∧ Below w.heap.size w w' ∧ w'.ownsRow w.heap.size 5 1 v' (keyBytes ⟨K, cnt D, l⟩).length (bc (keyBytes ⟨K, cnt D, l⟩))) := Lib.hid fun w hb => refBytes_any ⟨K, cnt D, l⟩ _ w ⟨Al, cl, by show _ = Value.agg #[.string K, .int .i64 (cnt D), .slice Al l.length cl]; rw [HLI.out], by show Rd w (.slice Al l.length cl) l.length (wcells l); rw [HLI.out]; exact (Rd.of_owns HOWN.out).below hb⟩ ⟨by show In64 (cnt D); unfold cnt In64; split <;> omega, HFI.out⟩ ses hkp (by have h1 := hkp.1; show K.size + 90 * l.length + 200 ≤ _; rw [HLI.out]; have h2 : K.size ≤ 256 := h1; omega)
          have HRK2 : Hid (R = if keyBytes ⟨K, cnt D, l⟩ = bs.take N then some (⟨K, cnt D, l⟩, N) else none) := Lib.hid (by rw [HRK.out, hkb]; simp)
          obtain ⟨KB, hKB⟩ : ∃ KB, keyBytes ⟨K, cnt D, l⟩ = KB := ⟨_, rfl⟩
          rw [hKB] at HBY HRK2
          obtain ⟨As, cs, hruns, hrds⟩ := run_rd_front (HRD.out.below HBW.out) N p3
          have HRS := Lib.hid hrds
          have HSM : Hid (∀ (Ab : Option Addr) (nb cb : Nat) (w : World), Rd w (.slice Ab nb cb) nb (bc KB) → KB.length = nb → Below wr.heap.size wr w → Calls Try.prog 47 #[.slice Ab nb cb, .slice As N cs] w fun e w' => e = .returned (.bool (KB == bs.take N)) ∧ w = w') := Lib.hid fun Ab nb cb w h1 h2 hb => Same_any w Ab As nb N cb cs KB (bs.take N) h1 h2 (HRS.out.below hb) (by rw [List.length_take, HM.out]; omega)
          obtain ⟨nb, hnb⟩ : ∃ nb, KB.length = nb := ⟨_, rfl⟩
          have HNB := Lib.hid hnb
          rw [hnb] at HBY
          have HSB : Hid ((KB == bs.take N) = true → R = some (⟨K, cnt D, l⟩, N)) := Lib.hid fun h => by rw [HRK2.out, if_pos (by simpa using h)]
          have HSN : Hid ((KB == bs.take N) = false → R = none) := Lib.hid fun h => by rw [HRK2.out, if_neg (by simpa using h)]
          obtain ⟨sb, hsb⟩ : ∃ sb, (KB == bs.take N) = sb := ⟨_, rfl⟩
          rw [hsb] at HSM HSB HSN
          have hp0 : (0 : Int) ≤ (N : Int) := by omega
          have hp1 : (N : Int) ≤ (m : Int) := by omega
          clear hrds hkb hKB hnb hsb HRK HRK2 hkp
          go_wp2_with fail
          go_region_held3 (fun w => Below wr.heap.size wr w ∧ (w.cell? ⟨W.heap.size, 0, none⟩ = some (.int .i64 c.g) ∧ w.cell? ⟨W.heap.size, 1, none⟩ = some (.int .i64 c.so) ∧ w.cell? ⟨W.heap.size, 2, none⟩ = some (.int .i64 c.k) ∧ w.cell? ⟨W.heap.size, 3, none⟩ = some (.int .i64 c.sz) ∧ w.cell? ⟨W.heap.size, 4, none⟩ = some (.int .i64 c.sl) ∧ w.cell? ⟨W.heap.size, 5, none⟩ = some (.int .i64 c.o) ∧ w.cell? ⟨W.heap.size, 6, none⟩ = some (.int .i64 c.ga) ∧ w.cell? ⟨W.heap.size, 7, none⟩ = some (.int .i64 c.la) ∧ w.cell? ⟨W.heap.size, 8, none⟩ = some (.int .i64 c.ea) ∧ w.cell? ⟨W.heap.size, 9, none⟩ = some (.bool c.di)) ∧ w.cell? ⟨kb, 0, none⟩ = some (.string K) ∧ w.cell? ⟨kb, 1, none⟩ = some (.int .i64 (cnt D)) ∧ w.cell? ⟨kb, 2, none⟩ = some (.slice Al i cl))
            (first
              | exact ⟨below_drew wr, HST.out _ (below_drew wr)⟩
              | exact ⟨hb7, HST.out _ hb7⟩
              | exact ⟨hb8, HST.out _ hb8⟩)
            ((first
              | (go_at_call 46; (with_reducible refine (HKX.out _ (below_drew wr)).mono ?_); rintro e w7 ⟨rfl, hb7'⟩; have hb7 : Below wr.heap.size wr w7 := below_trans (below_drew wr) hb7')
              | (go_at_call 48; (with_reducible refine (HBY.out _ hb7).mono ?_); rintro e w8 ⟨v8, rfl, hb8', ho8⟩; have hb8 : Below wr.heap.size wr w8 := below_trans hb7 hb8'; obtain ⟨A8, c8, rfl, -, -⟩ := ownsRow_shape ho8; have HO8 := Lib.hid ho8; clear ho8)
              | (go_at_call 47; (with_reducible refine (HSM.out _ _ _ _ (Rd.of_owns HO8.out) HNB.out hb8).mono ?_); rintro e w9 ⟨rfl, rfl⟩)))
          have HB8 := Lib.hid hb8
          have bz8 := HZR.out.below hb8
          have q0 : w8.cell? ⟨W.heap.size + 1, 0, none⟩ = some (.string ⟨#[]⟩) := bz8.cell 0
          have q1 : w8.cell? ⟨W.heap.size + 1, 1, none⟩ = some (.int .i64 0) := bz8.cell 1
          have q2 : w8.cell? ⟨W.heap.size + 1, 2, none⟩ = some (.slice none 0 0) := bz8.cell 2
          have r0 := bz8.frozen 0
          have r1 := bz8.frozen 1
          have r2 := bz8.frozen 2
          have HZ8 := Lib.hid bz8
          obtain ⟨-, k0, k1, k2⟩ := HST.out _ hb8
          have HRD8 : Hid (Rd w8 (.slice Al i cl) i (wcells l)) := Lib.hid ((Rd.of_owns HOWN.out).below hb8)
          clear bz8 hb8 hb8' hb7 hb7' hruns
          cases sb with
          | true =>
            go_wp2
            have hq3 := ((HZ8.out.set 0 (.string K)).set 1 (.int .i64 (cnt D))).set 2 (.slice Al i cl)
            refine bodyPost_ret (results_cell_tmp2 Try.results12 _ _ (W.heap.size + 1) 29 _ (0, 0) _ rfl hq3 Try.underlying29 rfl (by kernel_rfl) rfl rfl) rfl ?_
            obtain rfl := HSB.out (by first | rfl | trivial)
            have hbw := below_trans HBW.out HB8.out
            refine ⟨((hbw.setCell (p := ⟨W.heap.size + 1, 0, none⟩) (by show W.heap.size ≤ W.heap.size + 1; omega) _).setCell (p := ⟨W.heap.size + 1, 1, none⟩) (by show W.heap.size ≤ W.heap.size + 1; omega) _).setCell (p := ⟨W.heap.size + 1, 2, none⟩) (by show W.heap.size ≤ W.heap.size + 1; omega) _, Al, cl, ?_, ?_⟩
            · show _ = Ending.returned (.tuple #[.agg #[.string K, .int .i64 (cnt D), .slice Al l.length cl], .int .i64 (N : Int), .int .i64 0])
              rw [HLI.out]
              rfl
            · show World.ownsRow _ W.heap.size 93 9 (.slice Al l.length cl) l.length (wcells l)
              rw [HLI.out]
              exact own_mono (base' := W.heap.size) (base := w2.heap.size) (own_set (own_set (own_set ((own_below HOWN.out HB8.out)) HZ8.out (by decide) 0 _) (HZ8.out.set 0 _) (by decide) 1 _) ((HZ8.out.set 0 _).set 1 _) (by decide) 2 _) HB2.out.size
          | false =>
            go_wp2
            have hq3 := ((HZ8.out.set 0 (.string ⟨#[]⟩)).set 1 (.int .i64 0)).set 2 (.slice none 0 0)
            refine bodyPost_ret (results_cell_tmp2 Try.results12 _ _ (W.heap.size + 1) 29 _ (0, 0) _ rfl hq3 Try.underlying29 rfl (by kernel_rfl) rfl rfl) rfl ?_
            obtain rfl := HSN.out (by first | rfl | trivial)
            have hbw := below_trans HBW.out HB8.out
            exact ⟨((hbw.setCell (p := ⟨W.heap.size + 1, 0, none⟩) (by show W.heap.size ≤ W.heap.size + 1; omega) _).setCell (p := ⟨W.heap.size + 1, 1, none⟩) (by show W.heap.size ≤ W.heap.size + 1; omega) _).setCell (p := ⟨W.heap.size + 1, 2, none⟩) (by show W.heap.size ≤ W.heap.size + 1; omega) _, rfl⟩
end Go.Proofs.Ytaechgnjdjijkaa
