/- Reads0: Read2, Read3. -/
import Derived.Test.YtaechgnjdjijkaaGets
import Derived.Test.YtaechgnjdjijkaaWire2
import Derived.Test.YtaechgnjdjijkaaWire
import Derived.Test.YtaechgnjdjijkaaRead
import Derived.Defers
import Derived.Recover
import Derived.StillTailTactics
/- schema.Read: what is refused comes back as an error. -/
namespace Go.Proofs.Ytaechgnjdjijkaa
open Go.RowKit Go.Lib

theorem wp_frame {P : Program} {c : Code} {Q : Exit → Act → World → Prop} {a : Act} {w : World} (T' : Array Value) (h : a.tmps = T') (hd : a.defers = []) (k : c.wp P Q { tmps := T', defers := [] } w) : c.wp P Q a w := by
  cases a
  simp only at h hd
  subst h hd
  exact k
set_option maxRecDepth 100000 in
set_option maxHeartbeats 1000000 in
theorem catch_panicking (bk bn be : Nat) (z n0 e0 : Int) (_ks : Value) (d0 : Int) (v0 : Value) (s0 : ByteArray) (older : List PanicEntry) (w : World) (hk : Bk w bk 29 #[.string s0, .int .i64 d0, v0]) (hn : Bk w bn 3 #[.int .i64 n0]) (he : Bk w be 30 #[.int .i64 e0]) :
    CallsD Try.prog 35 #[.pointer (some ⟨bk, 0, none⟩), .pointer (some ⟨bn, 0, none⟩), .pointer (some ⟨be, 0, none⟩)] (.panicking ({ v := .iface 68 (.agg #[.int .i64 z]), recovered := false } :: older)) w fun e u' w' =>
      e = .returned (.tuple #[]) ∧ u' = .panicking ({ v := .iface 68 (.agg #[.int .i64 z]), recovered := true } :: older) ∧ Bk w' bk 29 #[.string ⟨#[]⟩, .int .i64 0, .slice none 0 0] ∧ Bk w' bn 3 #[.int .i64 0] ∧ Bk w' be 30 #[.int .i64 290] ∧ Only (fun r => r = bk ∨ r = bn ∨ r = be) w w' := by
  refine callsD_of_wpS Try.func35 rfl fun c₀ cs hu => ?_
  apply wpS_seq
  apply wpS_region
  simp [wpOpsS, go_sem, recoverD, hu, Try.ntmps35, Exit.thenS]
  apply wpS_seq
  apply wpS_region
  simp [wpOpsS, go_sem, Exit.thenS]
  refine wpS_cond (t := true) (by simp [Act.eval, Array.replicate]) ?_
  simp only [if_true]
  refine wpS_of_wp ?_
  refine wp_frame #[.pointer (some ⟨bk, 0, none⟩), .pointer (some ⟨bn, 0, none⟩), .pointer (some ⟨be, 0, none⟩), .iface 68 (.agg #[.int .i64 z]), undef, undef, .iface 68 (.agg #[.int .i64 z]), .iface 68 (.agg #[.int .i64 z]), .bool true, undef, undef, undef, undef, undef, undef, undef, undef, undef] (by rfl) (by rfl) ?_
  have k0 : w.cell? ⟨bk, 0, none⟩ = some (.string s0) := hk.cell 0
  have k1 : w.cell? ⟨bk, 1, none⟩ = some (.int .i64 d0) := hk.cell 1
  have k2 : w.cell? ⟨bk, 2, none⟩ = some v0 := hk.cell 2
  have n0' : w.cell? ⟨bn, 0, none⟩ = some (.int .i64 n0) := hn.cell 0
  have e0' : w.cell? ⟨be, 0, none⟩ = some (.int .i64 e0) := he.cell 0
  have fk0 := hk.frozen 0
  have fk1 := hk.frozen 1
  have fk2 := hk.frozen 2
  have fn0 := hn.frozen 0
  have fe0 := he.frozen 0
  have hta : ∀ w, (Instr.typeAssert (.iface 68 (.agg #[.int .i64 z])) 20 68 true).run Try.prog w = .ok (.tuple #[.agg #[.int .i64 z], .bool true]) w := fun w => by kernel_rfl
  have n1 : ¬ bn = bk := hn.ne hk (by decide)
  have n2 : ¬ be = bk := he.ne hk (by decide)
  have n3 : ¬ be = bn := he.ne hn (by decide)
  have n4 : ¬ bk = bn := hk.ne hn (by decide)
  have n5 : ¬ bk = be := hk.ne he (by decide)
  have n6 : ¬ bn = be := hn.ne he (by decide)
  have lk := hk.lt
  have ln := hn.lt
  have le := he.lt
  go_wp2
  generalize hWW : World.alloc _ _ = WW
  simp [bodyPostS, results, Try.results35]
  subst hWW
  have h1 := ((hk.set 0 (.string ⟨#[]⟩)).set 1 (.int .i64 0)).set 2 (.slice none 0 0)
  have h2 := ((hn.far (p := ⟨bk, 0, none⟩) n1 (.string ⟨#[]⟩)).far (p := ⟨bk, 1, none⟩) n1 (.int .i64 0)).far (p := ⟨bk, 2, none⟩) n1 (.slice none 0 0)
  have h3 := ((he.far (p := ⟨bk, 0, none⟩) n2 (.string ⟨#[]⟩)).far (p := ⟨bk, 1, none⟩) n2 (.int .i64 0)).far (p := ⟨bk, 2, none⟩) n2 (.slice none 0 0)
  refine ⟨((h1.far (p := ⟨bn, 0, none⟩) n4 _).far (p := ⟨be, 0, none⟩) n5 _).alloc _, ((h2.set 0 _).far (p := ⟨be, 0, none⟩) n6 _).alloc _, ((h3.far (p := ⟨bn, 0, none⟩) n3 _).set 0 _).alloc _, ?_⟩
  exact (((((Only.set ⟨bk, 0, none⟩ _ (.inl rfl) _).then (Only.set ⟨bk, 1, none⟩ _ (.inl rfl) _)).then (Only.set ⟨bk, 2, none⟩ _ (.inl rfl) _)).then (Only.set ⟨bn, 0, none⟩ _ (.inr (.inl rfl)) _)).then (Only.set ⟨be, 0, none⟩ _ (.inr (.inr rfl)) _)).then (Only.of_below (below_alloc _ _))
theorem catch_idle (bk bn be : Addr) (w : World) :
    CallsD Try.prog 35 #[.pointer (some bk), .pointer (some bn), .pointer (some be)] .returning w fun e u' w' => e = .returned (.tuple #[]) ∧ u' = .returning ∧ w' = w := by
  refine callsD_of_wpS Try.func35 rfl fun c₀ cs hu => ?_
  apply wpS_seq
  apply wpS_region
  simp [wpOpsS, go_sem, recoverD, hu, Try.ntmps35, Exit.thenS]
  apply wpS_seq
  apply wpS_region
  simp [wpOpsS, go_sem, Exit.thenS]
  refine wpS_cond (t := false) (by simp [Act.eval, Array.replicate]) ?_
  simp only [Bool.false_eq_true, if_false]
  refine wpS_of_wp (wp_skip ?_)
  cases c₀
  simp_all [bodyPostS, results, Try.results35]
end Go.Proofs.Ytaechgnjdjijkaa

/- schema.Read. -/
namespace Go.Proofs.Ytaechgnjdjijkaa
open Go.RowKit Go.Lib

theorem bk_drew {w : World} {g : Nat} {t : TypeId} {cs : Array Value} (h : Bk w g t cs) : Bk w.drew g t cs := h
/-- Its three named results, out of memory. -/
theorem read_results {tmps : Array Value} {w : World} {bk bn be : Nat} {s : ByteArray} {d n z : Int} {v : Value} (h4 : tmps.getD 4 undef = .pointer (some ⟨bk, 0, none⟩)) (h5 : tmps.getD 5 undef = .pointer (some ⟨bn, 0, none⟩)) (h6 : tmps.getD 6 undef = .pointer (some ⟨be, 0, none⟩))
    (hk : Bk w bk 29 #[.string s, .int .i64 d, v]) (hn : Bk w bn 3 #[.int .i64 n]) (he : Bk w be 30 #[.int .i64 z]) :
    (results Try.f10 tmps).run Try.prog w = .ok (.tuple #[.agg #[.string s, .int .i64 d, v], .int .i64 n, .int .i64 z]) w := by
  have k0 : w.cell? ⟨bk, 0, none⟩ = some (.string s) := hk.cell 0
  have k1 : w.cell? ⟨bk, 1, none⟩ = some (.int .i64 d) := hk.cell 1
  have k2 : w.cell? ⟨bk, 2, none⟩ = some v := hk.cell 2
  have n0 : w.cell? ⟨bn, 0, none⟩ = some (.int .i64 n) := hn.cell 0
  have e0 : w.cell? ⟨be, 0, none⟩ = some (.int .i64 z) := he.cell 0
  have g4 : tmps[4]?.getD undef = .pointer (some ⟨bk, 0, none⟩) := by simpa using h4
  have g5 : tmps[5]?.getD undef = .pointer (some ⟨bn, 0, none⟩) := by simpa using h5
  have g6 : tmps[6]?.getD undef = .pointer (some ⟨be, 0, none⟩) := by simpa using h6
  simp [results, Try.results10, go_sem, g4, g5, g6, k0, k1, k2, n0, e0]
set_option maxRecDepth 100000 in
set_option maxHeartbeats 1000000 in
theorem Read_job (c : Cf) (hf : c.Fit) (hj : job c = false) (v : Value) (_hv : v.oneCell' = true) (W : World) : Calls Try.prog 10 #[c.val, v] W fun e w' => e = .returned (.tuple #[.agg #[.string ⟨#[]⟩, .int .i64 0, .slice none 0 0], .int .i64 0, .int .i64 4]) ∧ Below W.heap.size W w' := by
  have hc := Check_any c hf
  rw [hj] at hc
  have HC := Lib.hid hc
  clear hc hj hf
  unfold Cf.val at HC ⊢
  obtain ⟨g, so, k, sz, sl, o, ga, la, ea, di⟩ := c
  simp only [Bool.false_eq_true, if_false] at HC ⊢
  have hmf : ∀ (fn : Fn) (first cap : Array Value) (w : World), (Instr.makeFunc fn first cap).run Try.prog w = .ok (.func fn first cap) w := fun _ _ _ _ => rfl
  have HB0 : Hid (Below W.heap.size W ((((W.alloc (.cells #[.int .i64 g, .int .i64 so, .int .i64 k, .int .i64 sz, .int .i64 sl, .int .i64 o, .int .i64 ga, .int .i64 la, .int .i64 ea, .bool di] 24)).alloc (.cells #[.string ⟨#[]⟩, .int .i64 0, .slice none 0 0] 29)).alloc (.cells #[.int .i64 0] 3)).alloc (.cells #[.int .i64 0] 30))) := Lib.hid ((((below_alloc W _).alloc (by simp) _).alloc (by simp; omega) _).alloc (by simp; omega) _)
  go_enter_defers Try.func10, Try.ntmps10
  go_wp2_with (first
    | (go_at_call 34; (with_reducible refine (HC.out _).mono ?_); rintro e w1 ⟨rfl, hb⟩
       have bk := (Bk.new' _ 29 #[.string ⟨#[]⟩, .int .i64 0, .slice none 0 0] (W.heap.size + 1) (by simp)).alloc (.cells #[.int .i64 0] 3) |>.alloc (.cells #[.int .i64 0] 30) |>.below hb
       have bn := (Bk.new' _ 3 #[.int .i64 0] (W.heap.size + 1 + 1) (by simp)).alloc (.cells #[.int .i64 0] 30) |>.below hb
       have be := (Bk.new' _ 30 #[.int .i64 0] (W.heap.size + 1 + 1 + 1) (by simp)).below hb
       have k0 : w1.cell? ⟨W.heap.size + 1, 0, none⟩ = some (.string ⟨#[]⟩) := bk.cell 0
       have k1 : w1.cell? ⟨W.heap.size + 1, 1, none⟩ = some (.int .i64 0) := bk.cell 1
       have k2 : w1.cell? ⟨W.heap.size + 1, 2, none⟩ = some (.slice none 0 0) := bk.cell 2
       have n0 : w1.cell? ⟨W.heap.size + 1 + 1, 0, none⟩ = some (.int .i64 0) := bn.cell 0
       have e0 : w1.cell? ⟨W.heap.size + 1 + 1 + 1, 0, none⟩ = some (.int .i64 0) := be.cell 0
       have fk0 := bk.frozen 0
       have fk1 := bk.frozen 1
       have fk2 := bk.frozen 2
       have fn0 := bn.frozen 0
       have fe0 := be.frozen 0
       have HB := Lib.hid (HB0.out.trans (hb.mono (by simp; omega)))
       have HBK := Lib.hid bk
       have HBN := Lib.hid bn
       have HBE := Lib.hid be
       have hsz := hb.size
       simp only [World.size_alloc] at hsz
       clear hb bk bn be))
  have n1 : ¬ (W.heap.size + 1 + 1 = W.heap.size + 1) := by omega
  have h1 := ((HBK.out.set 0 (.string ⟨#[]⟩)).set 1 (.int .i64 0)).set 2 (.slice none 0 0)
  have h2 := ((HBN.out.far (p := ⟨W.heap.size + 1, 0, none⟩) (by show W.heap.size + 1 + 1 ≠ W.heap.size + 1; omega) (.string ⟨#[]⟩)).far (p := ⟨W.heap.size + 1, 1, none⟩) (by show W.heap.size + 1 + 1 ≠ W.heap.size + 1; omega) (.int .i64 0)).far (p := ⟨W.heap.size + 1, 2, none⟩) (by show W.heap.size + 1 + 1 ≠ W.heap.size + 1; omega) (.slice none 0 0)
  have h3 := ((HBE.out.far (p := ⟨W.heap.size + 1, 0, none⟩) (by show W.heap.size + 1 + 1 + 1 ≠ W.heap.size + 1; omega) (.string ⟨#[]⟩)).far (p := ⟨W.heap.size + 1, 1, none⟩) (by show W.heap.size + 1 + 1 + 1 ≠ W.heap.size + 1; omega) (.int .i64 0)).far (p := ⟨W.heap.size + 1, 2, none⟩) (by show W.heap.size + 1 + 1 + 1 ≠ W.heap.size + 1; omega) (.slice none 0 0)
  refine ⟨_, read_results rfl rfl rfl ((h1.far (p := ⟨W.heap.size + 1 + 1, 0, none⟩) (by show W.heap.size + 1 ≠ W.heap.size + 1 + 1; omega) _).far (p := ⟨W.heap.size + 1 + 1 + 1, 0, none⟩) (by show W.heap.size + 1 ≠ W.heap.size + 1 + 1 + 1; omega) _)
    ((h2.set 0 _).far (p := ⟨W.heap.size + 1 + 1 + 1, 0, none⟩) (by show W.heap.size + 1 + 1 ≠ W.heap.size + 1 + 1 + 1; omega) _) ((h3.far (p := ⟨W.heap.size + 1 + 1, 0, none⟩) (by show W.heap.size + 1 + 1 + 1 ≠ W.heap.size + 1 + 1; omega) _).set 0 _), rfl, ?_⟩
  exact ((((HB.out.setCell (p := ⟨W.heap.size + 1, 0, none⟩) (by show W.heap.size ≤ W.heap.size + 1; omega) _).setCell (p := ⟨W.heap.size + 1, 1, none⟩) (by show W.heap.size ≤ W.heap.size + 1; omega) _).setCell (p := ⟨W.heap.size + 1, 2, none⟩) (by show W.heap.size ≤ W.heap.size + 1; omega) _).setCell (p := ⟨W.heap.size + 1 + 1, 0, none⟩) (by show W.heap.size ≤ W.heap.size + 1 + 1; omega) _).setCell (p := ⟨W.heap.size + 1 + 1 + 1, 0, none⟩) (by show W.heap.size ≤ W.heap.size + 1 + 1 + 1; omega) _
/-- What Read answers. -/
def ReadAns (W : World) (r : Option (Kn × Nat)) (e : Ending) (w' : World) : Prop :=
  Below W.heap.size W w' ∧ match r with
    | none => e = .returned (.tuple #[.agg #[.string ⟨#[]⟩, .int .i64 0, .slice none 0 0], .int .i64 0, .int .i64 290])
    | some (k, a) => ∃ A cap, e = .returned (.tuple #[.agg #[.string k.key, .int .i64 k.dr, .slice A k.ws.length cap], .int .i64 (a : Int), .int .i64 0]) ∧ w'.ownsRow W.heap.size 93 9 (.slice A k.ws.length cap) k.ws.length (wcells k.ws)
set_option maxRecDepth 100000 in
set_option maxHeartbeats 1000000 in
theorem Read_any (c : Cf) (hf : c.Fit) (hj : job c = true) (A : Option Addr) (m cap : Nat) (bs : List UInt8) (W : World) (hr : Rd W (.slice A m cap) m (bc bs)) (hm : bs.length = m) (hmax : m ≤ 8796093022208) :
    Calls Try.prog 10 #[c.val, .slice A m cap] W (ReadAns W (rdKey c bs 0)) := by
  have hc := Check_any c hf
  rw [hj] at hc
  have HC := Lib.hid hc
  obtain ⟨R, hR⟩ : ∃ R, rdKey c bs 0 = R := ⟨_, rfl⟩
  have HRD : Hid (∀ B g v w, Rr w B g v bs 0 → Calls Try.prog 37 #[c.val, .pointer (some ⟨g, 0, none⟩)] w (ReadPost w B g v bs R)) := Lib.hid fun B g v w h => by
    have := read_any B g 0 v bs c hf hj w h (by omega)
    rwa [hR] at this
  have HNR : Hid (∀ w, Below W.heap.size W w → Calls Try.prog 36 #[.slice A m cap] w fun e w' => ∃ g v, e = .returned (.pointer (some ⟨g, 0, none⟩)) ∧ Below w.heap.size w w' ∧ w.heap.size ≤ g ∧ Rr w' w.heap.size g v bs 0) := Lib.hid fun w hb => NewReader_any A m cap bs w (hr.below hb) hm (by omega)
  rw [hR]
  clear hc hj hf hR hr
  unfold Cf.val at HC HRD ⊢
  obtain ⟨g, so, k, sz, sl, o, ga, la, ea, di⟩ := c
  simp only [if_true] at HC HRD ⊢
  have hmf : ∀ (fn : Fn) (first cap : Array Value) (w : World), (Instr.makeFunc fn first cap).run Try.prog w = .ok (.func fn first cap) w := fun _ _ _ _ => rfl
  have HB0 : Hid (Below W.heap.size W ((((W.alloc (.cells #[.int .i64 g, .int .i64 so, .int .i64 k, .int .i64 sz, .int .i64 sl, .int .i64 o, .int .i64 ga, .int .i64 la, .int .i64 ea, .bool di] 24)).alloc (.cells #[.string ⟨#[]⟩, .int .i64 0, .slice none 0 0] 29)).alloc (.cells #[.int .i64 0] 3)).alloc (.cells #[.int .i64 0] 30))) := Lib.hid ((((below_alloc W _).alloc (by simp) _).alloc (by simp; omega) _).alloc (by simp; omega) _)
  go_enter_defers Try.func10, Try.ntmps10
  go_wp2_with fail
  refine (HC.out _).mono ?_
  rintro e w1 ⟨rfl, hb⟩
  have bk := (Bk.new' _ 29 #[.string ⟨#[]⟩, .int .i64 0, .slice none 0 0] (W.heap.size + 1) (by simp)).alloc (.cells #[.int .i64 0] 3) |>.alloc (.cells #[.int .i64 0] 30) |>.below hb
  have bn := (Bk.new' _ 3 #[.int .i64 0] (W.heap.size + 1 + 1) (by simp)).alloc (.cells #[.int .i64 0] 30) |>.below hb
  have be := (Bk.new' _ 30 #[.int .i64 0] (W.heap.size + 1 + 1 + 1) (by simp)).below hb
  have bc := ((((Bk.new W 24 #[.int .i64 g, .int .i64 so, .int .i64 k, .int .i64 sz, .int .i64 sl, .int .i64 o, .int .i64 ga, .int .i64 la, .int .i64 ea, .bool di]).alloc (.cells #[.string ⟨#[]⟩, .int .i64 0, .slice none 0 0] 29)).alloc (.cells #[.int .i64 0] 3)).alloc (.cells #[.int .i64 0] 30)).below hb
  have HB1 := Lib.hid (HB0.out.trans (hb.mono (by simp; omega)))
  have hsz := hb.size
  simp only [World.size_alloc] at hsz
  clear hb
  go_wp2_with fail
  refine (HNR.out _ HB1.out).mono ?_
  rintro e w2 ⟨gr, v, rfl, hb2, hgr, hrr⟩
  have bk2 := bk.below hb2
  have bn2 := bn.below hb2
  have be2 := be.below hb2
  have bc2 := bc.below hb2
  have c0 := bc2.cell 0
  have c1 := bc2.cell 1
  have c2 := bc2.cell 2
  have c3 := bc2.cell 3
  have c4 := bc2.cell 4
  have c5 := bc2.cell 5
  have c6 := bc2.cell 6
  have c7 := bc2.cell 7
  have c8 := bc2.cell 8
  have c9 := bc2.cell 9
  have HB2 := Lib.hid (HB1.out.trans (hb2.mono (by omega)))
  have HBK := Lib.hid bk2
  have HBN := Lib.hid bn2
  have HBE := Lib.hid be2
  have hsz2 := hb2.size
  have HRR := Lib.hid hrr
  clear hb2 bk bn be bc bk2 bn2 be2 hrr bc2
  go_wp2_with fail
  refine (HRD.out _ _ _ _ HRR.out).mono ?_
  intro e w3 hpost
  have hne : ∀ r, r < w1.heap.size → some gr ≠ some r := fun r h e => by have := Option.some.inj e; omega
  have hg3 : w2.grownBy w3 (some gr) := hpost.1
  have HBK3 := Lib.hid (HBK.out.grown hg3 (hne _ (by omega)))
  have HBN3 := Lib.hid (HBN.out.grown hg3 (hne _ (by omega)))
  have HBE3 := Lib.hid (HBE.out.grown hg3 (hne _ (by omega)))
  have HB3 : Hid (Below W.heap.size W w3) := Lib.hid (HB2.out.trans (only_below hg3 (by omega) (fun b e => by cases e; omega)))
  have hsz3 := hg3.size
  clear hg3 hne c0 c1 c2 c3 c4 c5 c6 c7 c8 c9
  cases R with
  | none =>
    obtain ⟨hg3, zz, rfl⟩ := hpost
    clear hg3
    go_wp2
    refine leaves_cons (f := 35) (args := #[.pointer (some ⟨W.heap.size + 1, 0, none⟩), .pointer (some ⟨W.heap.size + 1 + 1, 0, none⟩), .pointer (some ⟨W.heap.size + 1 + 1 + 1, 0, none⟩)]) (by simp) (by simp [go_sem]) ?_
    refine (catch_panicking (W.heap.size + 1) (W.heap.size + 1 + 1) (W.heap.size + 1 + 1 + 1) zz 0 0 undef 0 (.slice none 0 0) ⟨#[]⟩ [] w3 HBK3.out HBN3.out HBE3.out).mono ?_
    rintro e u' w4 ⟨rfl, rfl, h1, h2, h3, ho⟩
    refine ⟨_, read_results rfl rfl rfl h1 h2 h3, ?_⟩
    exact ⟨HB3.out.trans (ho.below (fun b hb => by rcases hb with rfl | rfl | rfl <;> omega) (by omega)), rfl⟩
  | some r =>
    obtain ⟨kk, a⟩ := r
    obtain ⟨hg3, hr3, A3, cap3, rfl, ho3⟩ := hpost
    obtain ⟨S, D, ws⟩ := kk
    simp only at ho3 ⊢
    obtain ⟨N, hN⟩ : ∃ N, ws.length = N := ⟨_, rfl⟩
    rw [hN] at ho3 ⊢
    have HNL := Lib.hid hN
    have k0 : w3.cell? ⟨W.heap.size + 1, 0, none⟩ = some (.string ⟨#[]⟩) := HBK3.out.cell 0
    have k1 : w3.cell? ⟨W.heap.size + 1, 1, none⟩ = some (.int .i64 0) := HBK3.out.cell 1
    have k2 : w3.cell? ⟨W.heap.size + 1, 2, none⟩ = some (.slice none 0 0) := HBK3.out.cell 2
    have fk0 := HBK3.out.frozen 0
    have fk1 := HBK3.out.frozen 1
    have fk2 := HBK3.out.frozen 2
    have h1 := ((HBK3.out.set 0 (.string S)).set 1 (.int .i64 D)).set 2 (.slice A3 N cap3)
    obtain ⟨w4, hw4⟩ : ∃ w4, ((w3.setCell ⟨W.heap.size + 1, 0, none⟩ (.string S)).setCell ⟨W.heap.size + 1, 1, none⟩ (.int .i64 D)).setCell ⟨W.heap.size + 1, 2, none⟩ (.slice A3 N cap3) = w4 := ⟨_, rfl⟩
    have HB4 : Hid (Below W.heap.size W w4) := by
      rw [← hw4]
      exact Lib.hid (((HB3.out.setCell (p := ⟨W.heap.size + 1, 0, none⟩) (by show W.heap.size ≤ W.heap.size + 1; omega) _).setCell (p := ⟨W.heap.size + 1, 1, none⟩) (by show W.heap.size ≤ W.heap.size + 1; omega) _).setCell (p := ⟨W.heap.size + 1, 2, none⟩) (by show W.heap.size ≤ W.heap.size + 1; omega) _)
    have HBK4 : Hid (Bk w4 (W.heap.size + 1) 29 #[.string S, .int .i64 D, .slice A3 N cap3]) := by rw [← hw4]; exact Lib.hid h1
    have n1 : W.heap.size + 1 + 1 ≠ W.heap.size + 1 := by omega
    have n2 : W.heap.size + 1 + 1 + 1 ≠ W.heap.size + 1 := by omega
    have HBN4 : Hid (Bk w4 (W.heap.size + 1 + 1) 3 #[.int .i64 0]) := by rw [← hw4]; exact Lib.hid (((HBN3.out.far (p := ⟨W.heap.size + 1, 0, none⟩) n1 _).far (p := ⟨W.heap.size + 1, 1, none⟩) n1 _).far (p := ⟨W.heap.size + 1, 2, none⟩) n1 _)
    have HBE4 : Hid (Bk w4 (W.heap.size + 1 + 1 + 1) 30 #[.int .i64 0]) := by rw [← hw4]; exact Lib.hid (((HBE3.out.far (p := ⟨W.heap.size + 1, 0, none⟩) n2 _).far (p := ⟨W.heap.size + 1, 1, none⟩) n2 _).far (p := ⟨W.heap.size + 1, 2, none⟩) n2 _)
    have HR4 : Hid (Rr w4 w1.heap.size gr v bs a) := by rw [← hw4]; exact Lib.hid (((hr3.setq HBK3.out 0 _ (by decide) (by decide)).setq (HBK3.out.set 0 _) 1 _ (by decide) (by decide)).setq ((HBK3.out.set 0 _).set 1 _) 2 _ (by decide) (by decide))
    have HO4 : Hid (w4.ownsRow w2.heap.size 93 9 (.slice A3 N cap3) N (wcells ws)) := by rw [← hw4]; exact Lib.hid (own_set (own_set (own_set ho3 HBK3.out (by decide) 0 _) (HBK3.out.set 0 _) (by decide) 1 _) ((HBK3.out.set 0 _).set 1 _) (by decide) 2 _)
    clear hg3 hr3 ho3 h1 hN
    go_wp2_with fail
    have y0 : w4.cell? ⟨W.heap.size + 1, 0, none⟩ = some (.string S) := HBK4.out.cell 0
    have y1 : w4.cell? ⟨W.heap.size + 1, 1, none⟩ = some (.int .i64 D) := HBK4.out.cell 1
    have y2 : w4.cell? ⟨W.heap.size + 1, 2, none⟩ = some (.slice A3 N cap3) := HBK4.out.cell 2
    have gy0 := HBK4.out.frozen 0
    have gy1 := HBK4.out.frozen 1
    have gy2 := HBK4.out.frozen 2
    have yn : w4.cell? ⟨W.heap.size + 1 + 1, 0, none⟩ = some (.int .i64 0) := HBN4.out.cell 0
    have gyn := HBN4.out.frozen 0
    have ye : w4.cell? ⟨W.heap.size + 1 + 1 + 1, 0, none⟩ = some (.int .i64 0) := HBE4.out.cell 0
    have gye := HBE4.out.frozen 0
    have HPL : Hid (∀ w, w.heap = w4.heap → Calls Try.prog 38 #[.pointer (some ⟨gr, 0, none⟩)] w fun e w' => e = .returned (.int .i64 (a : Int)) ∧ w' = w) := Lib.hid fun w hb => by
      have hrw : Rr w w1.heap.size gr v bs a := ⟨by have := HR4.out.blk; unfold Bk at this ⊢; rw [hb]; exact this, by have := HR4.out.own; unfold World.ownsRow at this ⊢; rw [hb]; exact this, HR4.out.le⟩
      exact (Place_any _ gr a v bs w hrw).mono fun e w' ⟨h1, h2⟩ => ⟨h1, h2.symm⟩
    clear k0 k1 k2 fk0 fk1 fk2 n1 n2 hw4
    refine wp_region_still_tail 3 (by kernel_rfl) (by kernel_rfl) ?_
    simp only [List.take_succ_cons, List.take_zero, List.drop_succ_cons, List.drop_zero]
    still_step
    still_step
    still_call (HPL.out _ rfl)
    refine wpStill_nil ?_
    change wpList _ _ _ _ _ (World.drew w4)
    go_wp2
    refine leaves_cons (f := 35) (args := #[.pointer (some ⟨W.heap.size + 1, 0, none⟩), .pointer (some ⟨W.heap.size + 1 + 1, 0, none⟩), .pointer (some ⟨W.heap.size + 1 + 1 + 1, 0, none⟩)]) (by simp) (by simp [go_sem]) ?_
    refine (catch_idle _ _ _ _).mono ?_
    rintro e u' w6 ⟨rfl, rfl, rfl⟩
    have n1 : W.heap.size + 1 + 1 ≠ W.heap.size + 1 := by omega
    have n2 : W.heap.size + 1 + 1 + 1 ≠ W.heap.size + 1 := by omega
    have n3 : W.heap.size + 1 + 1 + 1 ≠ W.heap.size + 1 + 1 := by omega
    have h1 := ((HBK4.out.set 0 (.string S)).set 1 (.int .i64 D)).set 2 (.slice A3 N cap3)
    have g1 := (h1.far (p := ⟨W.heap.size + 1 + 1, 0, none⟩) n1.symm (.int .i64 (a : Int))).far (p := ⟨W.heap.size + 1 + 1 + 1, 0, none⟩) n2.symm (.int .i64 0)
    have h2 := ((HBN4.out.far (p := ⟨W.heap.size + 1, 0, none⟩) n1 (.string S)).far (p := ⟨W.heap.size + 1, 1, none⟩) n1 (.int .i64 D)).far (p := ⟨W.heap.size + 1, 2, none⟩) n1 (.slice A3 N cap3)
    have g2 := (h2.set 0 (.int .i64 (a : Int))).far (p := ⟨W.heap.size + 1 + 1 + 1, 0, none⟩) n3.symm (.int .i64 0)
    have h3 := ((HBE4.out.far (p := ⟨W.heap.size + 1, 0, none⟩) n2 (.string S)).far (p := ⟨W.heap.size + 1, 1, none⟩) n2 (.int .i64 D)).far (p := ⟨W.heap.size + 1, 2, none⟩) n2 (.slice A3 N cap3)
    have g3 := (h3.far (p := ⟨W.heap.size + 1 + 1, 0, none⟩) n3 (.int .i64 (a : Int))).set 0 (.int .i64 0)
    refine ⟨_, read_results (s := S) (d := D) (n := (a : Int)) (z := 0) (v := .slice A3 N cap3) rfl rfl rfl (bk_drew g1) (bk_drew g2) (bk_drew g3), ?_, A3, cap3, ?_, ?_⟩
    · exact (((((HB4.out.setCell (p := ⟨W.heap.size + 1, 0, none⟩) (by show W.heap.size ≤ W.heap.size + 1; omega) _).setCell (p := ⟨W.heap.size + 1, 1, none⟩) (by show W.heap.size ≤ W.heap.size + 1; omega) _).setCell (p := ⟨W.heap.size + 1, 2, none⟩) (by show W.heap.size ≤ W.heap.size + 1; omega) _).setCell (p := ⟨W.heap.size + 1 + 1, 0, none⟩) (by show W.heap.size ≤ W.heap.size + 1 + 1; omega) _).setCell (p := ⟨W.heap.size + 1 + 1 + 1, 0, none⟩) (by show W.heap.size ≤ W.heap.size + 1 + 1 + 1; omega) _).drew
    · show _ = Ending.returned (.tuple #[.agg #[.string S, .int .i64 D, .slice A3 ws.length cap3], .int .i64 (a : Int), .int .i64 0])
      rw [HNL.out]
    · show World.ownsRow _ _ _ _ (.slice A3 ws.length cap3) ws.length _
      rw [HNL.out]
      have k1 := own_set (own_set (own_set HO4.out HBK4.out (by decide) 0 (.string S)) (HBK4.out.set 0 (.string S)) (by decide) 1 (.int .i64 D)) ((HBK4.out.set 0 (.string S)).set 1 (.int .i64 D)) (by decide) 2 (.slice A3 N cap3)
      have k2 := own_set (own_set k1 h2 (by decide) 0 (.int .i64 (a : Int))) (h3.far (p := ⟨W.heap.size + 1 + 1, 0, none⟩) n3 (.int .i64 (a : Int))) (by decide) 0 (.int .i64 0)
      exact own_mono (ownsRow_drew k2) (by omega)
end Go.Proofs.Ytaechgnjdjijkaa
