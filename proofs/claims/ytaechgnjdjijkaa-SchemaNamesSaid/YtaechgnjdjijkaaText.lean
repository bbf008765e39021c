/- The reader's Text. -/
import Derived.Test.YtaechgnjdjijkaaTry
namespace Go.Proofs.Ytaechgnjdjijkaa
open Go.RowKit Go.Lib

theorem Bk.ne {w : World} {g g' : Nat} {t t' : TypeId} {cs cs' : Array Value} (h : Bk w g t cs) (h' : Bk w g' t' cs') (hne : t ≠ t') : g ≠ g' := by
  intro e
  subst e
  have := h.symm.trans h'
  simp only [Option.some.injEq, Obj.cells.injEq] at this
  exact hne this.2.1
/-- The bytes from here, so many. -/
def cut (bs : List UInt8) (at_ n : Nat) : List UInt8 := (bs.take (at_ + n)).drop at_
theorem cut_length (bs : List UInt8) (at_ n : Nat) (h : at_ + n ≤ bs.length) : (cut bs at_ n).length = n := by unfold cut; simp; omega
set_option maxRecDepth 100000 in
theorem Text1_more (B g at_ x c1 c2 : Nat) (v : Value) (bs : List UInt8) (w : World) (h : Rr w B g v bs at_) (hp : Bk w c1 70 #[.pointer (some ⟨g, 0, none⟩)]) (hx : bs.length - at_ < x) (hmax : bs.length ≤ 140737488355328) :
    Calls Try.prog 62 #[.int .u64 (x : Int), .pointer (some ⟨c1, 0, none⟩), .pointer (some ⟨c2, 0, none⟩)] w fun e w' => e = .returned (.int .i64 110) ∧ Below w.heap.size w w' := by
  have HL := Lib.hid (Left_any B g at_ v bs w h)
  have x0 : w.cell? ⟨c1, 0, none⟩ = some (.pointer (some ⟨g, 0, none⟩)) := hp.cell 0
  have hwr : IntKind.u64.wrap ((bs.length - at_ : Nat) : Int) = ((bs.length - at_ : Nat) : Int) := IntWalk.u64_in _ (by omega)
  have h2 : decide (bs.length - at_ < x) = true := by simpa using hx
  clear h hp hx hmax
  generalize bs.length - at_ = k at *
  go_enter Try.func62, Try.ntmps62
  go_wp2_with (first
    | (go_at_call 63; (with_reducible refine HL.out.mono ?_); rintro e w1 ⟨rfl, hb⟩; have HB := Lib.hid hb; clear hb))
  go_ret
  exact ⟨rfl, HB.out⟩
set_option maxRecDepth 100000 in
theorem Text1_ok (W0 : World) (B g at_ x c1 c2 : Nat) (v q0 : Value) (bs : List UInt8) (w : World) (h : Rr w B g v bs at_) (hp : Bk w c1 70 #[.pointer (some ⟨g, 0, none⟩)]) (hq : Bk w c2 25 #[q0]) (hx : at_ + x ≤ bs.length) (hmax : bs.length ≤ 140737488355328)
    (hg0 : W0.grownBy w (some g)) (hc2 : W0.heap.size ≤ c2) :
    Calls Try.prog 62 #[.int .u64 (x : Int), .pointer (some ⟨c1, 0, none⟩), .pointer (some ⟨c2, 0, none⟩)] w fun e w' => e = .returned (.int .i64 0) ∧ Rr w' B g v bs (at_ + x) ∧ W0.grownBy w' (some g) ∧ ∃ v', Bk w' c2 25 #[v'] ∧ w'.ownsRow w.heap.size 5 1 v' x (bc (cut bs at_ x)) := by
  have HL := Lib.hid (Left_any B g at_ v bs w h)
  have HR := Lib.hid h
  have HP := Lib.hid hp
  have HQ := Lib.hid hq
  have HG0 := Lib.hid hg0
  have HC2 := Lib.hid hc2
  have x0 : w.cell? ⟨c1, 0, none⟩ = some (.pointer (some ⟨g, 0, none⟩)) := hp.cell 0
  have hwr : IntKind.u64.wrap ((bs.length - at_ : Nat) : Int) = ((bs.length - at_ : Nat) : Int) := IntWalk.u64_in _ (by omega)
  have hwx : IntKind.i64.wrap (x : Int) = (x : Int) := IntWalk.i64_in _ (by omega)
  have h2 : decide (bs.length - at_ < x) = false := by simp; omega
  have HRAW := Lib.hid (fun w1 (hr : Rr w1 B g v bs at_) => Raw_ok B g at_ x v bs w1 hr hx hmax)
  clear h hp hq hx hmax hg0 hc2
  generalize bs.length - at_ = k at *
  go_enter Try.func62, Try.ntmps62
  go_wp2_with (first
    | (go_at_call 63; (with_reducible refine HL.out.mono ?_); rintro e w1 ⟨rfl, hb⟩
       have y0 : w1.cell? ⟨c1, 0, none⟩ = some (.pointer (some ⟨g, 0, none⟩)) := (HP.out.below hb).cell 0
       have HB := Lib.hid hb; clear hb)
    | (go_at_call 64; (with_reducible refine (HRAW.out _ (HR.out.below HB.out)).mono ?_); rintro e w2 ⟨v2, rfl, hr2, hg2, ho2⟩
       have hq2 := (HQ.out.below HB.out).grown hg2 (fun e => by cases e; exact HR.out.blk.ne HQ.out (by decide) rfl)
       have z0 : w2.cell? ⟨c2, 0, none⟩ = some q0 := hq2.cell 0
       have f0 := hq2.frozen 0
       obtain ⟨a2, k2, rfl, _, _⟩ := ownsRow_shape ho2
       have HR2 := Lib.hid hr2
       have HG2 := Lib.hid hg2
       have HO2 := Lib.hid ho2
       have HQ2 := Lib.hid hq2
       clear hr2 hg2 ho2 hq2))
  go_ret
  have hne : g ≠ c2 := HR.out.blk.ne HQ.out (by decide)
  refine ⟨rfl, ⟨HR2.out.blk.far (p := ⟨c2, 0, none⟩) hne _, own_set HR2.out.own HQ2.out (by decide) 0 _, HR2.out.le⟩, only_set (only_step (only_step HG0.out (below_grown HB.out none) (fun b e => by cases e)) HG2.out (fun b e => by cases e; exact .inl rfl)) ⟨c2, 0, none⟩ _ (.inr HC2.out), _, HQ2.out.set 0 _, own_mono (own_set HO2.out HQ2.out (by decide) 0 _) HB.out.size⟩
/-- With which error a text is refused, 0 if it is not. -/
def txE (m : Nat) (bs : List UInt8) (at_ : Nat) : Nat := if hdE m (rdAt bs at_) = 0 then (if bs.length - (at_ + (rdAt bs at_).2.1) < (rdAt bs at_).1 then 110 else 0) else hdE m (rdAt bs at_)
theorem bk_two (w : World) (g : Nat) : ∀ w2, w2 = (w.alloc (.cells #[.pointer (some ⟨g, 0, none⟩)] 70)).alloc (.cells #[.slice none 0 0] 25) → Bk w2 w.heap.size 70 #[.pointer (some ⟨g, 0, none⟩)] ∧ Bk w2 (w.heap.size + 1) 25 #[.slice none 0 0] ∧ Below w.heap.size w w2 := by
  rintro w2 rfl
  have hs : (w.alloc (.cells #[.pointer (some ⟨g, 0, none⟩)] 70)).heap.size = w.heap.size + 1 := by simp
  exact ⟨(Bk.new w _ _).alloc _, Bk.new' _ _ _ _ hs, (below_alloc w _).trans ((below_alloc _ _).mono (by rw [hs]; omega))⟩
set_option maxRecDepth 100000 in
theorem Text_neg (g : Nat) (n : Int) (hn : n < 0) (w : World) : Calls Try.prog 39 #[.pointer (some ⟨g, 0, none⟩), .int .i64 n] w fun e w' => e = .returned (.tuple #[.string ⟨#[]⟩, .int .i64 2]) ∧ Below w.heap.size w w' := by
  have HT := Lib.hid (fun o F w => try_neg o n hn F w)
  have HB := Lib.hid (bk_two w g)
  clear hn
  go_enter Try.func39, Try.ntmps39
  go_wp2_with (first
    | (go_at_call 61; (with_reducible refine (HT.out _ _ _).mono ?_); rintro e w1 ⟨rfl, rfl⟩))
  go_ret2
  exact ⟨rfl, (HB.out _ rfl).2.2⟩
set_option maxRecDepth 100000 in
theorem Text_bad (B g at_ m : Nat) (v : Value) (bs : List UInt8) (w : World) (h : Rr w B g v bs at_) (hm : m ≤ 9223372036854775807) (hmax : bs.length ≤ 140737488355328) (he : txE m bs at_ ≠ 0) :
    Calls Try.prog 39 #[.pointer (some ⟨g, 0, none⟩), .int .i64 (m : Int)] w fun e w' => e = .returned (.tuple #[.string ⟨#[]⟩, .int .i64 (txE m bs at_ : Int)]) ∧ Rr w' B g v bs at_ ∧ w.grownBy w' (some g) := by
  have HB := Lib.hid (bk_two w g)
  have hT : ∀ w2, w2 = (w.alloc (.cells #[.pointer (some ⟨g, 0, none⟩)] 70)).alloc (.cells #[.slice none 0 0] 25) → Calls Try.prog 61 #[.pointer (some ⟨g, 0, none⟩), .int .i64 (m : Int), .func (.func 62) #[] #[.pointer (some ⟨w.heap.size, 0, none⟩), .pointer (some ⟨w.heap.size + 1, 0, none⟩)]] w2 fun e w' => e = .returned (.int .i64 (txE m bs at_ : Int)) ∧ Rr w' B g v bs at_ ∧ w.grownBy w' (some g) := by
    intro w2 hw2
    obtain ⟨b1, b2, b3⟩ := HB.out w2 hw2
    have h2 := h.below b3
    unfold txE at he ⊢
    by_cases h0 : hdE m (rdAt bs at_) = 0
    · rw [if_pos h0] at he ⊢
      have hx : bs.length - (at_ + (rdAt bs at_).2.1) < (rdAt bs at_).1 := by
        rcases Nat.lt_or_ge (bs.length - (at_ + (rdAt bs at_).2.1)) (rdAt bs at_).1 with h | h
        · exact h
        · exact absurd (if_neg (by omega)) he
      rw [if_pos hx]
      refine (try_Text B g at_ m v _ _ bs w2 h2 hm h0 110 (fun w' => Rr w' B g v bs (at_ + (rdAt bs at_).2.1) ∧ w.grownBy w' (some g)) (fun w' hk => ⟨_, hk.1⟩) (fun w1 hr1 hg1 => (Text1_more B g _ _ w.heap.size (w.heap.size + 1) v bs w1 hr1 (b1.grown hg1 (fun e => by cases e; exact h2.blk.ne b1 (by decide) rfl)) hx hmax).mono ?_)).mono ?_
      · rintro e w' ⟨rfl, hb⟩
        exact ⟨rfl, hr1.below hb, only_step (only_step (only_of_below b3 (some g)) hg1 (fun b e => by cases e; exact .inl rfl)) (below_grown hb none) (fun b e => by cases e)⟩
      · rintro e w' ⟨rfl, w3, hk, hw⟩
        rcases hw with ⟨hw, _⟩ | ⟨_, rfl⟩
        · cases hw
        · exact ⟨rfl, hk.1.step at_ h.le, only_set hk.2 ⟨g, 1, none⟩ _ (.inl rfl)⟩
    · rw [if_neg h0]
      exact (try_head B g at_ m v bs _ w2 h2 hm h0).mono (by rintro e w' ⟨rfl, hr, hg⟩; exact ⟨rfl, hr, only_step (only_of_below b3 (some g)) hg (fun b e => by cases e; exact .inl rfl)⟩)
  have HT := Lib.hid hT
  have h1 : ((txE m bs at_ : Int) == 0) = false := by simp; omega
  have h2 : ((txE m bs at_ : Int) != 0) = true := by simp; omega
  clear h hT he hm hmax
  generalize txE m bs at_ = E at *
  go_enter Try.func39, Try.ntmps39
  go_wp2_with (first
    | (go_at_call 61; (with_reducible refine (HT.out _ rfl).mono ?_); rintro e w1 ⟨rfl, hr, hg⟩; have HR := Lib.hid hr; have HG := Lib.hid hg; clear hr hg))
  go_ret2
  exact ⟨rfl, HR.out, HG.out⟩
set_option maxRecDepth 100000 in
theorem Text_ok (B g at_ m : Nat) (v : Value) (bs : List UInt8) (w : World) (h : Rr w B g v bs at_) (hm : m ≤ 9223372036854775807) (hmax : bs.length ≤ 140737488355328) (he : txE m bs at_ = 0) :
    Calls Try.prog 39 #[.pointer (some ⟨g, 0, none⟩), .int .i64 (m : Int)] w fun e w' => e = .returned (.tuple #[.string ⟨(cut bs (at_ + (rdAt bs at_).2.1) (rdAt bs at_).1).toArray⟩, .int .i64 0]) ∧ Rr w' B g v bs (at_ + (rdAt bs at_).2.1 + (rdAt bs at_).1) ∧ w.grownBy w' (some g) := by
  have HB := Lib.hid (bk_two w g)
  have hfa := (rdAt_facts bs at_ h.le).2.1
  have hT : (at_ + (rdAt bs at_).2.1 + (rdAt bs at_).1 ≤ bs.length) ∧ ∀ w2, w2 = (w.alloc (.cells #[.pointer (some ⟨g, 0, none⟩)] 70)).alloc (.cells #[.slice none 0 0] 25) → Calls Try.prog 61 #[.pointer (some ⟨g, 0, none⟩), .int .i64 (m : Int), .func (.func 62) #[] #[.pointer (some ⟨w.heap.size, 0, none⟩), .pointer (some ⟨w.heap.size + 1, 0, none⟩)]] w2 fun e w' => e = .returned (.int .i64 0) ∧ Rr w' B g v bs (at_ + (rdAt bs at_).2.1 + (rdAt bs at_).1) ∧ w.grownBy w' (some g) ∧ ∃ v', Bk w' (w.heap.size + 1) 25 #[v'] ∧ w'.ownsRow 0 5 1 v' (rdAt bs at_).1 (bc (cut bs (at_ + (rdAt bs at_).2.1) (rdAt bs at_).1)) := by
    unfold txE at he
    have h0 : hdE m (rdAt bs at_) = 0 := by
      rcases Nat.decEq (hdE m (rdAt bs at_)) 0 with h | h
      · rw [if_neg h] at he; exact he
      · exact h
    rw [if_pos h0] at he
    have hx : at_ + (rdAt bs at_).2.1 + (rdAt bs at_).1 ≤ bs.length := by
      rcases Nat.lt_or_ge (bs.length - (at_ + (rdAt bs at_).2.1)) (rdAt bs at_).1 with h | h
      · rw [if_pos h] at he; cases he
      · omega
    refine ⟨hx, fun w2 hw2 => ?_⟩
    obtain ⟨b1, b2, b3⟩ := HB.out w2 hw2
    have h2 := h.below b3
    refine (try_Text B g at_ m v _ _ bs w2 h2 hm h0 0 (fun w' => Rr w' B g v bs (at_ + (rdAt bs at_).2.1 + (rdAt bs at_).1) ∧ w.grownBy w' (some g) ∧ ∃ v', Bk w' (w.heap.size + 1) 25 #[v'] ∧ w'.ownsRow 0 5 1 v' (rdAt bs at_).1 (bc (cut bs (at_ + (rdAt bs at_).2.1) (rdAt bs at_).1))) (fun w' hk => ⟨_, hk.1⟩) (fun w1 hr1 hg1 => (Text1_ok w B g _ _ w.heap.size (w.heap.size + 1) v _ bs w1 hr1 (b1.grown hg1 (fun e => by cases e; exact h2.blk.ne b1 (by decide) rfl)) (b2.grown hg1 (fun e => by cases e; exact h2.blk.ne b2 (by decide) rfl)) hx hmax (only_step (only_of_below b3 (some g)) hg1 (fun b e => by cases e; exact .inl rfl)) (by omega)).mono ?_)).mono ?_
    · rintro e w' ⟨rfl, k1, k2, v', k3, k4⟩
      exact ⟨rfl, k1, k2, v', k3, own_mono k4 (Nat.zero_le _)⟩
    · rintro e w' ⟨rfl, w3, hk, hw⟩
      rcases hw with ⟨_, rfl⟩ | ⟨hw, _⟩
      · exact ⟨rfl, hk⟩
      · exact absurd rfl hw
  have HT := Lib.hid hT.2
  have HL : Hid ((cut bs (at_ + (rdAt bs at_).2.1) (rdAt bs at_).1).length = (rdAt bs at_).1) := cut_length _ _ _ hT.1
  clear h hT he hm hmax hfa
  generalize cut bs (at_ + (rdAt bs at_).2.1) (rdAt bs at_).1 = cs at *
  generalize at_ + (rdAt bs at_).2.1 + (rdAt bs at_).1 = k at *
  generalize (rdAt bs at_).1 = x at *
  go_enter Try.func39, Try.ntmps39
  go_wp2_with (first
    | (go_at_call 61; (with_reducible refine (HT.out _ rfl).mono ?_); rintro e w1 ⟨rfl, hr, hg, v1, hk, ho⟩
       have hrd := Rd.of_owns ho
       obtain ⟨a1, c1, rfl, _, _⟩ := ownsRow_shape ho
       have x1 : w1.cell? ⟨w.heap.size + 1, 0, none⟩ = some (.slice a1 x c1) := hk.cell 0
       have hcv := conv_rd w1 a1 x c1 cs hrd HL.out
       have HR := Lib.hid hr; have HG := Lib.hid hg; clear hr hg hk ho hrd))
  go_ret2
  exact ⟨rfl, HR.out, HG.out⟩
end Go.Proofs.Ytaechgnjdjijkaa
