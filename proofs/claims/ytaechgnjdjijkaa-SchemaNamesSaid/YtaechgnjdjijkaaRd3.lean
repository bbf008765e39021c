/- The reader's Raw. -/
import Derived.Test.YtaechgnjdjijkaaRd2
namespace Go.Proofs.Ytaechgnjdjijkaa
open Go.RowKit Go.Lib

set_option maxRecDepth 100000 in
theorem Raw_neg (o : Addr) (n : Int) (hn : n < 0) (w : World) : Calls Try.prog 64 #[.pointer (some o), .int .i64 n] w fun e w' => e = .returned (.tuple #[.slice none 0 0, .int .i64 2]) ∧ w = w' := by
  have h1 : decide (n < 0) = true := by simp; omega
  go_enter Try.func64, Try.ntmps64
  go_wp2
  go_ret2
  exact ⟨rfl, rfl⟩
set_option maxRecDepth 100000 in
theorem Raw_more (B g at_ : Nat) (n : Int) (v : Value) (bs : List UInt8) (w : World) (h : Rr w B g v bs at_) (hn : ((bs.length - at_ : Nat) : Int) < n) : Calls Try.prog 64 #[.pointer (some ⟨g, 0, none⟩), .int .i64 n] w fun e w' => e = .returned (.tuple #[.slice none 0 0, .int .i64 110]) ∧ Below w.heap.size w w' := by
  have HL := Lib.hid (Left_any B g at_ v bs w h)
  have h1 : decide (n < 0) = false := by simp; omega
  have h2 : decide (((bs.length - at_ : Nat) : Int) < n) = true := by simp; omega
  clear h hn
  generalize bs.length - at_ = k at *
  go_enter Try.func64, Try.ntmps64
  go_wp2_with (first
    | (go_at_call 63; (with_reducible refine HL.out.mono ?_); rintro e w1 ⟨rfl, hb⟩; have HB := Lib.hid hb; clear hb))
  go_ret2
  exact ⟨rfl, HB.out⟩
set_option maxRecDepth 100000 in
theorem Raw_ok (B g at_ n : Nat) (v : Value) (bs : List UInt8) (w : World) (h : Rr w B g v bs at_) (hn : at_ + n ≤ bs.length) (hmax : bs.length ≤ 140737488355328) : Calls Try.prog 64 #[.pointer (some ⟨g, 0, none⟩), .int .i64 (n : Int)] w fun e w' =>
    ∃ v', e = .returned (.tuple #[v', .int .i64 0]) ∧ Rr w' B g v bs (at_ + n) ∧ w.grownBy w' (some g) ∧ w'.ownsRow w.heap.size 5 1 v' n (bc ((bs.take (at_ + n)).drop at_)) := by
  have HL := Lib.hid (Left_any B g at_ v bs w h)
  have HH := Lib.hid h
  obtain ⟨a, c, rfl, hc, hm⟩ := ownsRow_shape h.own
  have h1 : decide ((n : Int) < 0) = false := by simp
  have h2 : decide (bs.length - at_ < n) = false := by simp; omega
  have HN := Lib.hid hn
  have HM := Lib.hid hmax
  have hnat : at_ + n ≤ 140737488355328 := by omega
  clear h
  generalize hk : bs.length - at_ = k at *
  have HK := Lib.hid hk
  clear hk hmax hn
  obtain ⟨m, hmm⟩ : ∃ m, bs.length = m := ⟨_, rfl⟩
  rw [hmm] at hc
  have HMM := Lib.hid hmm
  clear hmm
  go_enter Try.func64, Try.ntmps64
  go_wp2_with (first
    | (go_at_call 63; (with_reducible refine HL.out.mono ?_); rintro e w1 ⟨rfl, hb⟩
       have HB := Lib.hid hb
       have hh1 := HH.out.below hb
       have x1 : w1.cell? ⟨g, 1, none⟩ = some (.int .i64 (at_ : Int)) := hh1.blk.cell 1
       have f1 := hh1.blk.frozen 1
       have hh2 := hh1.step (at_ + n) HN.out
       have x0 : (w1.setCell ⟨g, 1, none⟩ (.int .i64 ((at_ + n : Nat) : Int))).cell? ⟨g, 0, none⟩ = some (.slice a bs.length c) := hh2.blk.cell 0
       have HH2 := Lib.hid hh2
       clear hb hh1 hh2))
  have e2 : ((at_ + n : Nat) : Int) = (at_ : Int) + (n : Int) := by omega
  have hh2 := HH2.out
  have hsz : w.heap.size ≤ (w1.setCell ⟨g, 1, none⟩ (.int .i64 ((at_ + n : Nat) : Int))).heap.size := Nat.le_trans HB.out.size ((Below.refl 0 w1).setCell (p := ⟨g, 1, none⟩) (Nat.zero_le _) _).size
  have hgr : w.grownBy (w1.setCell ⟨g, 1, none⟩ (.int .i64 ((at_ + n : Nat) : Int))) (some g) := only_set (only_of_below HB.out (some g)) ⟨g, 1, none⟩ _ (.inl rfl)
  rw [e2] at hh2 hgr hsz
  clear x0 x1 f1 HH2
  generalize w1.setCell ⟨g, 1, none⟩ (.int .i64 ((at_ : Int) + (n : Int))) = W2 at *
  have HG2 := Lib.hid hgr
  have HZ2 := Lib.hid hsz
  have x0 : W2.cell? ⟨g, 0, none⟩ = some (.slice a bs.length c) := hh2.blk.cell 0
  have x1 : W2.cell? ⟨g, 1, none⟩ = some (.int .i64 ((at_ + n : Nat) : Int)) := hh2.blk.cell 1
  rw [e2] at x1
  rw [HMM.out] at x0
  have hrd := Rd.of_owns hh2.own
  rw [HMM.out] at hrd
  obtain ⟨A, c2, hsl, hrd2⟩ := run_rd_part hrd at_ (at_ + n) (Nat.le_add_right _ _) (by have := HN.out; have := HMM.out; omega)
  rw [e2, show at_ + n - at_ = n by omega] at hsl
  rw [show at_ + n - at_ = n by omega] at hrd2
  have hsub : (at_ : Int) + (n : Int) - (n : Int) = (at_ : Int) := by omega
  have hwr : IntKind.i64.wrap ((at_ : Int) + (n : Int) - (n : Int)) = (at_ : Int) := by rw [hsub]; exact IntWalk.i64_in _ (by omega)
  have hwr2 : IntKind.i64.wrap (at_ : Int) = (at_ : Int) := IntWalk.i64_in _ (by omega)
  have HC := Lib.hid (Clone_any A n c2 ((bs.take (at_ + n)).drop at_) W2.drew hrd2 (by have := HN.out; simp; omega) (by omega))
  have HH3 := Lib.hid hh2
  have HLT : Hid (g < W2.drew.heap.size) := hh2.blk.lt
  clear hgr hsz hh2 hrd hrd2 e2
  go_region_held3 (fun W1 => W1.cell? ⟨g, 0, none⟩ = some (.slice a m c) ∧ W1.cell? ⟨g, 1, none⟩ = some (.int .i64 ((at_ : Int) + (n : Int))))
    (first
      | exact ⟨x0, x1⟩
      | exact ⟨((bcell HB3.out).1 _ _ HLT.out).trans x0, ((bcell HB3.out).1 _ _ HLT.out).trans x1⟩)
    ((first
      | (go_at_call 58; (with_reducible refine HC.out.mono ?_); rintro e w3 ⟨v3, rfl, hb3, ho3⟩; have HB3 := Lib.hid hb3; have HO3 := Lib.hid ho3; clear hb3 ho3)))
  go_wp2
  go_ret2
  have hbb : Below W2.heap.size W2 w3 := below_trans (below_drew W2) HB3.out
  exact ⟨v3, rfl, HH3.out.below hbb, only_step HG2.out (below_grown hbb none) (fun b e => by cases e), own_mono HO3.out HZ2.out⟩
end Go.Proofs.Ytaechgnjdjijkaa
