/- schema.Read: what is refused comes back as an error. -/
import Derived.Test.YtaechgnjdjijkaaGet
import Derived.Test.YtaechgnjdjijkaaText
import Derived.Test.YtaechgnjdjijkaaRdr
import Derived.Defers
import Derived.Recover
namespace Go.Proofs.Ytaechgnjdjijkaa
open Go.RowKit Go.Lib

theorem wp_frame {P : Program} {c : Code} {Q : Exit → Act → World → Prop} {a : Act} {w : World} (T' : Array Value) (h : a.tmps = T') (hd : a.defers = []) (k : c.wp P Q { tmps := T', defers := [] } w) : c.wp P Q a w := by
  cases a
  simp only at h hd
  subst h hd
  exact k
set_option maxRecDepth 100000 in
set_option maxHeartbeats 1000000 in
theorem catch_panicking (bk bn be : Nat) (z n0 e0 : Int) (_ks : Value) (d0 : Int) (v0 : Value) (s0 : ByteArray) (older : List PanicEntry) (w : World) (hk : Bk w bk 29 #[.string s0, .int .i64 d0, v0]) (hn : Bk w bn 3 #[.int .i64 n0]) (he : Bk w be 30 #[.int .i64 e0]) :
    CallsD Try.prog 35 #[.pointer (some ⟨bk, 0, none⟩), .pointer (some ⟨bn, 0, none⟩), .pointer (some ⟨be, 0, none⟩)] (.panicking ({ v := .iface 68 (.agg #[.int .i64 z]), recovered := false } :: older)) w fun e u' w' =>
      e = .returned (.tuple #[]) ∧ u' = .panicking ({ v := .iface 68 (.agg #[.int .i64 z]), recovered := true } :: older) ∧ Bk w' bk 29 #[.string ⟨#[]⟩, .int .i64 0, .slice none 0 0] ∧ Bk w' bn 3 #[.int .i64 0] ∧ Bk w' be 30 #[.int .i64 290] ∧ Only (fun r => r = bk ∨ r = bn ∨ r = be) w w' := by
  refine callsD_of_wpS Try.func35 rfl fun c₀ cs hu => ?_
  apply wpS_seq
  apply wpS_region
  simp [wpOpsS, go_sem, recoverD, hu, Try.ntmps35, Exit.thenS]
  apply wpS_seq
  apply wpS_region
  simp [wpOpsS, go_sem, Exit.thenS]
  refine wpS_cond (t := true) (by simp [Act.eval, Array.replicate]) ?_
  simp only [if_true]
  refine wpS_of_wp ?_
  refine wp_frame #[.pointer (some ⟨bk, 0, none⟩), .pointer (some ⟨bn, 0, none⟩), .pointer (some ⟨be, 0, none⟩), .iface 68 (.agg #[.int .i64 z]), undef, undef, .iface 68 (.agg #[.int .i64 z]), .iface 68 (.agg #[.int .i64 z]), .bool true, undef, undef, undef, undef, undef, undef, undef, undef, undef] (by rfl) (by rfl) ?_
  have k0 : w.cell? ⟨bk, 0, none⟩ = some (.string s0) := hk.cell 0
  have k1 : w.cell? ⟨bk, 1, none⟩ = some (.int .i64 d0) := hk.cell 1
  have k2 : w.cell? ⟨bk, 2, none⟩ = some v0 := hk.cell 2
  have n0' : w.cell? ⟨bn, 0, none⟩ = some (.int .i64 n0) := hn.cell 0
  have e0' : w.cell? ⟨be, 0, none⟩ = some (.int .i64 e0) := he.cell 0
  have fk0 := hk.frozen 0
  have fk1 := hk.frozen 1
  have fk2 := hk.frozen 2
  have fn0 := hn.frozen 0
  have fe0 := he.frozen 0
  have hta : ∀ w, (Instr.typeAssert (.iface 68 (.agg #[.int .i64 z])) 20 68 true).run Try.prog w = .ok (.tuple #[.agg #[.int .i64 z], .bool true]) w := fun w => by kernel_rfl
  have n1 : ¬ bn = bk := hn.ne hk (by decide)
  have n2 : ¬ be = bk := he.ne hk (by decide)
  have n3 : ¬ be = bn := he.ne hn (by decide)
  have n4 : ¬ bk = bn := hk.ne hn (by decide)
  have n5 : ¬ bk = be := hk.ne he (by decide)
  have n6 : ¬ bn = be := hn.ne he (by decide)
  have lk := hk.lt
  have ln := hn.lt
  have le := he.lt
  go_wp2
  generalize hWW : World.alloc _ _ = WW
  simp [bodyPostS, results, Try.results35]
  subst hWW
  have h1 := ((hk.set 0 (.string ⟨#[]⟩)).set 1 (.int .i64 0)).set 2 (.slice none 0 0)
  have h2 := ((hn.far (p := ⟨bk, 0, none⟩) n1 (.string ⟨#[]⟩)).far (p := ⟨bk, 1, none⟩) n1 (.int .i64 0)).far (p := ⟨bk, 2, none⟩) n1 (.slice none 0 0)
  have h3 := ((he.far (p := ⟨bk, 0, none⟩) n2 (.string ⟨#[]⟩)).far (p := ⟨bk, 1, none⟩) n2 (.int .i64 0)).far (p := ⟨bk, 2, none⟩) n2 (.slice none 0 0)
  refine ⟨((h1.far (p := ⟨bn, 0, none⟩) n4 _).far (p := ⟨be, 0, none⟩) n5 _).alloc _, ((h2.set 0 _).far (p := ⟨be, 0, none⟩) n6 _).alloc _, ((h3.far (p := ⟨bn, 0, none⟩) n3 _).set 0 _).alloc _, ?_⟩
  exact (((((Only.set ⟨bk, 0, none⟩ _ (.inl rfl) _).then (Only.set ⟨bk, 1, none⟩ _ (.inl rfl) _)).then (Only.set ⟨bk, 2, none⟩ _ (.inl rfl) _)).then (Only.set ⟨bn, 0, none⟩ _ (.inr (.inl rfl)) _)).then (Only.set ⟨be, 0, none⟩ _ (.inr (.inr rfl)) _)).then (Only.of_below (below_alloc _ _))
theorem catch_idle (bk bn be : Addr) (w : World) :
    CallsD Try.prog 35 #[.pointer (some bk), .pointer (some bn), .pointer (some be)] .returning w fun e u' w' => e = .returned (.tuple #[]) ∧ u' = .returning ∧ w' = w := by
  refine callsD_of_wpS Try.func35 rfl fun c₀ cs hu => ?_
  apply wpS_seq
  apply wpS_region
  simp [wpOpsS, go_sem, recoverD, hu, Try.ntmps35, Exit.thenS]
  apply wpS_seq
  apply wpS_region
  simp [wpOpsS, go_sem, Exit.thenS]
  refine wpS_cond (t := false) (by simp [Act.eval, Array.replicate]) ?_
  simp only [Bool.false_eq_true, if_false]
  refine wpS_of_wp (wp_skip ?_)
  cases c₀
  simp_all [bodyPostS, results, Try.results35]
end Go.Proofs.Ytaechgnjdjijkaa
