/- Wire2: Rd1, Rd2, Rd3, Rd4, Try, Text, Ris1, Plain, Plain2, App, Lent, Front, Ref, Known. -/
import Derived.Test.YtaechgnjdjijkaaWire
/- The reader's Number and Signed, as what they leave. -/
namespace Go.Proofs.Ytaechgnjdjijkaa
open Go.RowKit Go.Lib

theorem rdN_facts : ∀ (l : List UInt8) (i x : Nat), i ≤ 9 → x < 128 ^ i → (rdN i x l).1 < 18446744073709551616 ∧ ((rdN i x l).2.2 = 0 → i < (rdN i x l).2.1 ∧ (rdN i x l).2.1 ≤ i + l.length) ∧ ((rdN i x l).2.2 ≠ 0 → (rdN i x l).1 = 0 ∧ (rdN i x l).2.1 = 0)
  | [], i, x, hi, hx => by
    unfold rdN
    exact ⟨by decide, fun h => (by cases h), fun _ => ⟨rfl, rfl⟩⟩
  | b :: r, i, x, hi, hx => by
    unfold rdN
    split
    · exact ⟨by decide, fun h => (by cases h), fun _ => ⟨rfl, rfl⟩⟩
    · rename_i h9
      split
      · rename_i hb
        have hi9 : i < 9 := by
          rcases Nat.lt_or_ge i 9 with h | h
          · exact h
          · exact absurd ⟨by omega, by omega⟩ h9
        obtain ⟨k1, k2, k3⟩ := rdN_facts r (i + 1) (x + b.toNat % 128 * 128 ^ i) (by omega) (or_grow hx)
        refine ⟨k1, fun h => ?_, k3⟩
        have := k2 h
        simp only [List.length_cons]
        omega
      · split
        · exact ⟨by decide, fun h => (by cases h), fun _ => ⟨rfl, rfl⟩⟩
        · refine ⟨?_, fun _ => ⟨by show i < i + 1; omega, by show i + 1 ≤ _; simp⟩, fun h => absurd rfl h⟩
          show x + b.toNat % 128 * 128 ^ i < _
          rcases Nat.lt_or_ge i 9 with h | h
          · have h1 := or_grow (y := b.toNat) hx
            have h2 := pow128_le (i := i + 1) (by omega)
            omega
          · have e9 : i = 9 := by omega
            subst e9
            have e1 : b.toNat = 1 := by
              rcases Nat.decEq b.toNat 1 with h | h
              · exact absurd ⟨rfl, h⟩ h9
              · exact h
            rw [e1]
            have : (128 : Nat) ^ 9 = 9223372036854775808 := by decide
            omega
/-- The number with which what is left begins. -/
def rdAt (bs : List UInt8) (at_ : Nat) : Nat × Nat × Nat := rdN 0 0 (bs.drop at_)
theorem rdAt_facts (bs : List UInt8) (at_ : Nat) (h : at_ ≤ bs.length) : (rdAt bs at_).1 < 18446744073709551616 ∧ at_ + (rdAt bs at_).2.1 ≤ bs.length ∧ ((rdAt bs at_).2.2 = 0 → 0 < (rdAt bs at_).2.1) ∧ ((rdAt bs at_).2.2 ≠ 0 → (rdAt bs at_).1 = 0 ∧ (rdAt bs at_).2.1 = 0) := by
  obtain ⟨k1, k2, k3⟩ := rdN_facts (bs.drop at_) 0 0 (by decide) (by decide)
  refine ⟨k1, ?_, fun h => (k2 h).1, k3⟩
  by_cases hz : (rdAt bs at_).2.2 = 0
  · have := (k2 hz).2
    rw [List.length_drop] at this
    unfold rdAt
    omega
  · have := (k3 hz).2
    unfold rdAt
    omega

theorem Rr.step {w : World} {B g at_ : Nat} {v : Value} {bs : List UInt8} (h : Rr w B g v bs at_) (n : Nat) (hn : n ≤ bs.length) : Rr (w.setCell ⟨g, 1, none⟩ (.int .i64 (n : Int))) B g v bs n :=
  ⟨h.blk.set 1 _, own_set h.own h.blk (by decide) 1 _, hn⟩
theorem RNumber_g (B g at_ : Nat) (v : Value) (bs : List UInt8) (w : World) (h : Rr w B g v bs at_) :
    Calls Try.prog 40 #[.pointer (some ⟨g, 0, none⟩)] w fun e w' => e = .returned (.tuple #[.int .u64 ((rdAt bs at_).1 : Int), .int .i64 ((rdAt bs at_).2.2 : Int)]) ∧ Rr w' B g v bs (at_ + (rdAt bs at_).2.1) ∧ w.grownBy w' (some g) := by
  refine (RNumber_any B g at_ v bs w h).mono ?_
  rintro e w' ⟨k1, k2⟩
  obtain ⟨_, h2, _, h4⟩ := rdAt_facts bs at_ h.le
  by_cases hz : (rdAt bs at_).2.2 = 0
  · obtain ⟨rfl, rfl⟩ := k1 hz
    rw [hz]
    exact ⟨rfl, h.step _ h2, grownBy_set w ⟨g, 1, none⟩ _⟩
  · obtain ⟨rfl, rfl⟩ := k2 hz
    rw [(h4 hz).1, (h4 hz).2]
    exact ⟨rfl, h, only_refl w _⟩
/-- The number with its sign with which what is left begins. -/
def sgAt (bs : List UInt8) (at_ : Nat) : Int := if (rdAt bs at_).2.2 = 0 then unz (rdAt bs at_).1 else 0
set_option maxRecDepth 100000 in
theorem RSigned_g (B g at_ : Nat) (v : Value) (bs : List UInt8) (w : World) (h : Rr w B g v bs at_) :
    Calls Try.prog 101 #[.pointer (some ⟨g, 0, none⟩)] w fun e w' => e = .returned (.tuple #[.int .i64 (sgAt bs at_), .int .i64 ((rdAt bs at_).2.2 : Int)]) ∧ Rr w' B g v bs (at_ + (rdAt bs at_).2.1) ∧ w.grownBy w' (some g) := by
  have HN := Lib.hid (RNumber_g B g at_ v bs w h)
  have hlt := (rdAt_facts bs at_ h.le).1
  have HU := Lib.hid (fun w => unfold_any (rdAt bs at_).1 w hlt)
  have HSG : Hid (sgAt bs at_ = if (rdAt bs at_).2.2 = 0 then unz (rdAt bs at_).1 else 0) := rfl
  clear h hlt
  generalize rdAt bs at_ = R at *
  obtain ⟨x, n, z⟩ := R
  generalize sgAt bs at_ = s at *
  by_cases hz : z = 0
  · have hz1 : ((z : Int) == 0) = true := by simp [hz]
    have hz2 : ((z : Int) != 0) = false := by simp [hz]
    have hs : s = unz x := by rw [HSG.out, if_pos hz]
    subst hs
    go_enter Try.func101, Try.ntmps101
    go_wp2_with (first
      | (go_at_call 40; (with_reducible refine HN.out.mono ?_); rintro e w1 ⟨rfl, h1, h2⟩; have H1 := Lib.hid h1; have H2 := Lib.hid h2; clear h1 h2)
      | (go_at_call 105; (with_reducible refine (HU.out _).mono ?_); rintro e w2 ⟨rfl, rfl⟩))
    go_ret2
    exact ⟨by subst hz; rfl, H1.out, H2.out⟩
  · have hz1 : ((z : Int) == 0) = false := by simp; omega
    have hz2 : ((z : Int) != 0) = true := by simp; omega
    have hs : s = 0 := by rw [HSG.out, if_neg hz]
    subst hs
    go_enter Try.func101, Try.ntmps101
    go_wp2_with (first
      | (go_at_call 40; (with_reducible refine HN.out.mono ?_); rintro e w1 ⟨rfl, h1, h2⟩; have H1 := Lib.hid h1; have H2 := Lib.hid h2; clear h1 h2))
    go_ret2
    exact ⟨rfl, H1.out, H2.out⟩
end Go.Proofs.Ytaechgnjdjijkaa

/- Cuts of bytes. -/
namespace Go.Proofs.Ytaechgnjdjijkaa
open Go.RowKit Go.Lib

theorem u8Sl : Try.prog.underlying 25 = some (.slice (Try.prog.elem 25)) := by kernel_rfl
theorem u8Sz (W : World) : (sizeOf (Try.prog.elem 25)).run Try.prog W = .ok 1 W := by kernel_rfl
theorem bc_drop_take (l : List UInt8) (f z : Nat) : bc ((l.take z).drop f) = ((bc l).take z).drop f := by simp [bc, List.map_drop, List.map_take]
theorem rd_part {w : World} {a : Option Addr} {m cap : Nat} {l : List UInt8} (h : Rd w (.slice a m cap) m (bc l)) (f z : Nat) (hfz : f ≤ z) (hz : z ≤ m) :
    Rd w (sliced a f z cap 1) (z - f) (bc ((l.take z).drop f)) := by
  obtain ⟨a', cap', hv, h1, h2, h3⟩ := h
  cases hv
  unfold sliced
  refine ⟨_, _, rfl, by omega, by omega, fun hn => ?_⟩
  obtain ⟨g, off, rfl, hg, hx⟩ := h3 (by omega)
  rw [if_neg (by omega)]
  refine ⟨g, off + f * 1, by simp [addr_add], hg, fun k x hk => ?_⟩
  rw [bc_drop_take, List.getElem?_drop] at hk
  have hlt : f + k < z := by
    rcases Nat.lt_or_ge (f + k) z with h | h
    · exact h
    · rw [List.getElem?_take_eq_none h] at hk; cases hk
  rw [List.getElem?_take_of_lt hlt] at hk
  have := hx (f + k) x hk
  rw [show off + (f + k) = off + f * 1 + k by omega] at this
  exact this
/-- A cut of bytes, run. -/
theorem run_rd_part {w : World} {a : Option Addr} {m cap : Nat} {l : List UInt8} (h : Rd w (.slice a m cap) m (bc l)) (f z : Nat) (hfz : f ≤ z) (hz : z ≤ m) :
    ∃ A c, (∀ W : World, (Instr.sliceAt 25 (.slice a m cap) (some (.int .i64 (f : Int))) (some (.int .i64 (z : Int))) none).run Try.prog W = .ok (.slice A (z - f) c) W) ∧ Rd w (.slice A (z - f) c) (z - f) (bc ((l.take z).drop f)) := by
  have hp := rd_part h f z hfz hz
  obtain ⟨_, _, hv, h1, h2, _⟩ := h
  cases hv
  refine ⟨_, _, fun W => ?_, hp⟩
  rw [run_sliceAt_slice _ _ _ _ _ _ u8Sl, run_slice_lh _ _ _ _ _ u8Sl _ _ _ _ (by omega) (by omega) (by omega)]
  simp only [Int.toNat_natCast, u8Sz, Result.andThen_ok]
  rfl
end Go.Proofs.Ytaechgnjdjijkaa

/- The reader's Raw. -/
namespace Go.Proofs.Ytaechgnjdjijkaa
open Go.RowKit Go.Lib

set_option maxRecDepth 100000 in
theorem Raw_neg (o : Addr) (n : Int) (hn : n < 0) (w : World) : Calls Try.prog 64 #[.pointer (some o), .int .i64 n] w fun e w' => e = .returned (.tuple #[.slice none 0 0, .int .i64 2]) ∧ w = w' := by
  have h1 : decide (n < 0) = true := by simp; omega
  go_enter Try.func64, Try.ntmps64
  go_wp2
  go_ret2
  exact ⟨rfl, rfl⟩
set_option maxRecDepth 100000 in
theorem Raw_more (B g at_ : Nat) (n : Int) (v : Value) (bs : List UInt8) (w : World) (h : Rr w B g v bs at_) (hn : ((bs.length - at_ : Nat) : Int) < n) : Calls Try.prog 64 #[.pointer (some ⟨g, 0, none⟩), .int .i64 n] w fun e w' => e = .returned (.tuple #[.slice none 0 0, .int .i64 110]) ∧ Below w.heap.size w w' := by
  have HL := Lib.hid (Left_any B g at_ v bs w h)
  have h1 : decide (n < 0) = false := by simp; omega
  have h2 : decide (((bs.length - at_ : Nat) : Int) < n) = true := by simp; omega
  clear h hn
  generalize bs.length - at_ = k at *
  go_enter Try.func64, Try.ntmps64
  go_wp2_with (first
    | (go_at_call 63; (with_reducible refine HL.out.mono ?_); rintro e w1 ⟨rfl, hb⟩; have HB := Lib.hid hb; clear hb))
  go_ret2
  exact ⟨rfl, HB.out⟩
set_option maxRecDepth 100000 in
theorem Raw_ok (B g at_ n : Nat) (v : Value) (bs : List UInt8) (w : World) (h : Rr w B g v bs at_) (hn : at_ + n ≤ bs.length) (hmax : bs.length ≤ 140737488355328) : Calls Try.prog 64 #[.pointer (some ⟨g, 0, none⟩), .int .i64 (n : Int)] w fun e w' =>
    ∃ v', e = .returned (.tuple #[v', .int .i64 0]) ∧ Rr w' B g v bs (at_ + n) ∧ w.grownBy w' (some g) ∧ w'.ownsRow w.heap.size 5 1 v' n (bc ((bs.take (at_ + n)).drop at_)) := by
  have HL := Lib.hid (Left_any B g at_ v bs w h)
  have HH := Lib.hid h
  obtain ⟨a, c, rfl, hc, hm⟩ := ownsRow_shape h.own
  have h1 : decide ((n : Int) < 0) = false := by simp
  have h2 : decide (bs.length - at_ < n) = false := by simp; omega
  have HN := Lib.hid hn
  have HM := Lib.hid hmax
  have hnat : at_ + n ≤ 140737488355328 := by omega
  clear h
  generalize hk : bs.length - at_ = k at *
  have HK := Lib.hid hk
  clear hk hmax hn
  obtain ⟨m, hmm⟩ : ∃ m, bs.length = m := ⟨_, rfl⟩
  rw [hmm] at hc
  have HMM := Lib.hid hmm
  clear hmm
  go_enter Try.func64, Try.ntmps64
  go_wp2_with (first
    | (go_at_call 63; (with_reducible refine HL.out.mono ?_); rintro e w1 ⟨rfl, hb⟩
       have HB := Lib.hid hb
       have hh1 := HH.out.below hb
       have x1 : w1.cell? ⟨g, 1, none⟩ = some (.int .i64 (at_ : Int)) := hh1.blk.cell 1
       have f1 := hh1.blk.frozen 1
       have hh2 := hh1.step (at_ + n) HN.out
       have x0 : (w1.setCell ⟨g, 1, none⟩ (.int .i64 ((at_ + n : Nat) : Int))).cell? ⟨g, 0, none⟩ = some (.slice a bs.length c) := hh2.blk.cell 0
       have HH2 := Lib.hid hh2
       clear hb hh1 hh2))
  have e2 : ((at_ + n : Nat) : Int) = (at_ : Int) + (n : Int) := by omega
  have hh2 := HH2.out
  have hsz : w.heap.size ≤ (w1.setCell ⟨g, 1, none⟩ (.int .i64 ((at_ + n : Nat) : Int))).heap.size := Nat.le_trans HB.out.size ((Below.refl 0 w1).setCell (p := ⟨g, 1, none⟩) (Nat.zero_le _) _).size
  have hgr : w.grownBy (w1.setCell ⟨g, 1, none⟩ (.int .i64 ((at_ + n : Nat) : Int))) (some g) := only_set (only_of_below HB.out (some g)) ⟨g, 1, none⟩ _ (.inl rfl)
  rw [e2] at hh2 hgr hsz
  clear x0 x1 f1 HH2
  generalize w1.setCell ⟨g, 1, none⟩ (.int .i64 ((at_ : Int) + (n : Int))) = W2 at *
  have HG2 := Lib.hid hgr
  have HZ2 := Lib.hid hsz
  have x0 : W2.cell? ⟨g, 0, none⟩ = some (.slice a bs.length c) := hh2.blk.cell 0
  have x1 : W2.cell? ⟨g, 1, none⟩ = some (.int .i64 ((at_ + n : Nat) : Int)) := hh2.blk.cell 1
  rw [e2] at x1
  rw [HMM.out] at x0
  have hrd := Rd.of_owns hh2.own
  rw [HMM.out] at hrd
  obtain ⟨A, c2, hsl, hrd2⟩ := run_rd_part hrd at_ (at_ + n) (Nat.le_add_right _ _) (by have := HN.out; have := HMM.out; omega)
  rw [e2, show at_ + n - at_ = n by omega] at hsl
  rw [show at_ + n - at_ = n by omega] at hrd2
  have hsub : (at_ : Int) + (n : Int) - (n : Int) = (at_ : Int) := by omega
  have hwr : IntKind.i64.wrap ((at_ : Int) + (n : Int) - (n : Int)) = (at_ : Int) := by rw [hsub]; exact IntWalk.i64_in _ (by omega)
  have hwr2 : IntKind.i64.wrap (at_ : Int) = (at_ : Int) := IntWalk.i64_in _ (by omega)
  have HC := Lib.hid (Clone_any A n c2 ((bs.take (at_ + n)).drop at_) W2.drew hrd2 (by have := HN.out; simp; omega) (by omega))
  have HH3 := Lib.hid hh2
  have HLT : Hid (g < W2.drew.heap.size) := hh2.blk.lt
  clear hgr hsz hh2 hrd hrd2 e2
  go_region_held3 (fun W1 => W1.cell? ⟨g, 0, none⟩ = some (.slice a m c) ∧ W1.cell? ⟨g, 1, none⟩ = some (.int .i64 ((at_ : Int) + (n : Int))))
    (first
      | exact ⟨x0, x1⟩
      | exact ⟨((bcell HB3.out).1 _ _ HLT.out).trans x0, ((bcell HB3.out).1 _ _ HLT.out).trans x1⟩)
    ((first
      | (go_at_call 58; (with_reducible refine HC.out.mono ?_); rintro e w3 ⟨v3, rfl, hb3, ho3⟩; have HB3 := Lib.hid hb3; have HO3 := Lib.hid ho3; clear hb3 ho3)))
  go_wp2
  go_ret2
  have hbb : Below W2.heap.size W2 w3 := below_trans (below_drew W2) HB3.out
  exact ⟨v3, rfl, HH3.out.below hbb, only_step HG2.out (below_grown hbb none) (fun b e => by cases e), own_mono HO3.out HZ2.out⟩
end Go.Proofs.Ytaechgnjdjijkaa

/- The reader's Byte and Fixed. -/
namespace Go.Proofs.Ytaechgnjdjijkaa
open Go.RowKit Go.Lib

theorem Raw_okz (B g at_ n : Nat) (v : Value) (bs : List UInt8) (w : World) (h : Rr w B g v bs at_) (z : Int) (hz : z = (n : Int)) (hn : at_ + n ≤ bs.length) (hmax : bs.length ≤ 140737488355328) : Calls Try.prog 64 #[.pointer (some ⟨g, 0, none⟩), .int .i64 z] w fun e w' =>
    ∃ v', e = .returned (.tuple #[v', .int .i64 0]) ∧ Rr w' B g v bs (at_ + n) ∧ w.grownBy w' (some g) ∧ w'.ownsRow w.heap.size 5 1 v' n (bc ((bs.take (at_ + n)).drop at_)) := by
  subst hz
  exact Raw_ok B g at_ n v bs w h hn hmax
end Go.Proofs.Ytaechgnjdjijkaa

/- The walk of the reader's try. -/
namespace Go.Proofs.Ytaechgnjdjijkaa
open Go.RowKit Go.Lib

/-- With which error a text's or a list's length is refused, 0 if it is not. -/
def hdE (m : Nat) (R : Nat × Nat × Nat) : Nat := if R.2.2 = 0 then (if m < R.1 then 3 else 0) else R.2.2
/-- What try leaves of what its reader leaves. -/
def Tried (K : World → Prop) (y : Int) (g at_ : Nat) (w' : World) : Prop := ∃ w2, K w2 ∧ ((y = 0 ∧ w' = w2) ∨ (y ≠ 0 ∧ w' = w2.setCell ⟨g, 1, none⟩ (.int .i64 (at_ : Int))))
theorem Tried.ok {K : World → Prop} {y : Int} {g at_ : Nat} {w : World} (h : K w) (hy : y = 0) : Tried K y g at_ w := ⟨w, h, .inl ⟨hy, rfl⟩⟩
theorem Tried.bad {K : World → Prop} {y : Int} {g at_ : Nat} {w : World} (h : K w) (hy : y ≠ 0) : Tried K y g at_ (w.setCell ⟨g, 1, none⟩ (.int .i64 (at_ : Int))) := ⟨w, h, .inr ⟨hy, rfl⟩⟩
theorem try_neg (o : Addr) (n : Int) (hn : n < 0) (F : Value) (w : World) : Calls Try.prog 61 #[.pointer (some o), .int .i64 n, F] w fun e w' => e = .returned (.int .i64 2) ∧ w = w' := by
  have h1 : decide (n < 0) = true := by simp; omega
  go_enter Try.func61, Try.ntmps61
  go_wp2
  go_ret
  exact ⟨rfl, rfl⟩
set_option maxRecDepth 100000 in
theorem try_head (B g at_ m : Nat) (v : Value) (bs : List UInt8) (F : Value) (w : World) (h : Rr w B g v bs at_) (hm : m ≤ 9223372036854775807) (hh : hdE m (rdAt bs at_) ≠ 0) :
    Calls Try.prog 61 #[.pointer (some ⟨g, 0, none⟩), .int .i64 (m : Int), F] w fun e w' => e = .returned (.int .i64 (hdE m (rdAt bs at_) : Int)) ∧ Rr w' B g v bs at_ ∧ w.grownBy w' (some g) := by
  have HN := Lib.hid (RNumber_g B g at_ v bs w h)
  have HL : Hid (at_ ≤ bs.length) := h.le
  have x1 : w.cell? ⟨g, 1, none⟩ = some (.int .i64 (at_ : Int)) := h.blk.cell 1
  have hwr : IntKind.u64.wrap (m : Int) = (m : Int) := IntWalk.u64_in _ (by omega)
  have h0 : decide ((m : Int) < 0) = false := by simp
  have HE : Hid (∀ e, e = hdE m (rdAt bs at_) → e ≠ 0 → (e : Int) ≠ 0) := fun e _ h => by omega
  clear h
  have HD : Hid (hdE m (rdAt bs at_) = (if (rdAt bs at_).2.2 = 0 then (if m < (rdAt bs at_).1 then 3 else 0) else (rdAt bs at_).2.2)) := rfl
  generalize hdE m (rdAt bs at_) = E at *
  generalize rdAt bs at_ = R at *
  obtain ⟨x, n, z⟩ := R
  have hgo : ∀ w1, Rr w1 B g v bs (at_ + n) → w.grownBy w1 (some g) → Rr (w1.setCell ⟨g, 1, none⟩ (.int .i64 (at_ : Int))) B g v bs at_ ∧ w.grownBy (w1.setCell ⟨g, 1, none⟩ (.int .i64 (at_ : Int))) (some g) := fun w1 h1 h2 => ⟨h1.step at_ HL.out, only_set h2 ⟨g, 1, none⟩ _ (.inl rfl)⟩
  have HGO := Lib.hid hgo
  clear hgo
  by_cases hz : z = 0
  · subst hz
    have hx : m < x := by
      rcases Nat.lt_or_ge m x with h | h
      · exact h
      · exact absurd (by rw [HD.out]; simp; omega) hh
    have hE : E = 3 := by rw [HD.out]; simp [hx]
    subst hE
    have h2 : decide (m < x) = true := by simp [hx]
    clear HD hh hx HE
    go_enter Try.func61, Try.ntmps61
    go_wp2_with (first
      | (go_at_call 40; (with_reducible refine HN.out.mono ?_); rintro e w1 ⟨rfl, hr1, hg1⟩; have y1 : w1.cell? ⟨g, 1, none⟩ = some (.int .i64 ((at_ + n : Nat) : Int)) := hr1.blk.cell 1; have f1 := hr1.blk.frozen 1; have HR1 := Lib.hid hr1; have HG1 := Lib.hid hg1; clear hr1 hg1))
    go_ret
    exact ⟨rfl, HGO.out _ HR1.out HG1.out⟩
  · have hE : E = z := by rw [HD.out]; simp [hz]
    subst hE
    have h3 : ((E : Int) == 0) = false := by simp; omega
    have h4 : ((E : Int) != 0) = true := by simp; omega
    clear HD hh hz HE
    go_enter Try.func61, Try.ntmps61
    go_wp2_with (first
      | (go_at_call 40; (with_reducible refine HN.out.mono ?_); rintro e w1 ⟨rfl, hr1, hg1⟩; have y1 : w1.cell? ⟨g, 1, none⟩ = some (.int .i64 ((at_ + n : Nat) : Int)) := hr1.blk.cell 1; have f1 := hr1.blk.frozen 1; have HR1 := Lib.hid hr1; have HG1 := Lib.hid hg1; clear hr1 hg1))
    go_ret
    exact ⟨rfl, HGO.out _ HR1.out HG1.out⟩
set_option maxRecDepth 100000 in
theorem try_Text (B g at_ m : Nat) (v p q : Value) (bs : List UInt8) (w : World) (h : Rr w B g v bs at_) (hm : m ≤ 9223372036854775807) (hh : hdE m (rdAt bs at_) = 0) (y : Int) (K : World → Prop)
    (hK : ∀ w2, K w2 → ∃ k, Rr w2 B g v bs k)
    (hF : ∀ w1, Rr w1 B g v bs (at_ + (rdAt bs at_).2.1) → w.grownBy w1 (some g) → Calls Try.prog 62 #[.int .u64 ((rdAt bs at_).1 : Int), p, q] w1 fun e w2 => e = .returned (.int .i64 y) ∧ K w2) :
    Calls Try.prog 61 #[.pointer (some ⟨g, 0, none⟩), .int .i64 (m : Int), .func (.func 62) #[] #[p, q]] w fun e w' => e = .returned (.int .i64 y) ∧ Tried K y g at_ w' := by
  have HN := Lib.hid (RNumber_g B g at_ v bs w h)
  have x1 : w.cell? ⟨g, 1, none⟩ = some (.int .i64 (at_ : Int)) := h.blk.cell 1
  have hwr : IntKind.u64.wrap (m : Int) = (m : Int) := IntWalk.u64_in _ (by omega)
  have h0 : decide ((m : Int) < 0) = false := by simp
  have HF := Lib.hid hF
  have HK := Lib.hid hK
  clear h hF hK
  unfold hdE at hh
  generalize rdAt bs at_ = R at *
  obtain ⟨x, n, z⟩ := R
  obtain ⟨hz, hx⟩ : z = 0 ∧ ¬ m < x := by
    rcases Nat.decEq z 0 with h | h
    · simp only [h, ↓reduceIte] at hh
    · subst h
      refine ⟨rfl, fun hx => ?_⟩
      simp [hx] at hh
  subst hz
  have h2 : decide (m < x) = false := by simp; omega
  clear hh hx
  by_cases hy : y = 0
  · subst hy
    go_enter Try.func61, Try.ntmps61
    go_wp2_with (first
      | (go_at_call 40; (with_reducible refine HN.out.mono ?_); rintro e w1 ⟨rfl, hr1, hg1⟩; have HR1 := Lib.hid hr1; have HG1 := Lib.hid hg1; clear hr1 hg1)
      | (go_at_call 62; (with_reducible refine (HF.out w1 HR1.out HG1.out).mono ?_); rintro e w2 ⟨rfl, hk⟩; have HKK := Lib.hid hk; clear hk))
    go_ret
    exact ⟨rfl, Tried.ok HKK.out rfl⟩
  · have h3 : (y == 0) = false := by simpa using hy
    have h4 : (y != 0) = true := by simpa using hy
    have HY := Lib.hid hy
    clear hy
    go_enter Try.func61, Try.ntmps61
    go_wp2_with (first
      | (go_at_call 40; (with_reducible refine HN.out.mono ?_); rintro e w1 ⟨rfl, hr1, hg1⟩; have HR1 := Lib.hid hr1; have HG1 := Lib.hid hg1; clear hr1 hg1)
      | (go_at_call 62; (with_reducible refine (HF.out w1 HR1.out HG1.out).mono ?_); rintro e w2 ⟨rfl, hk⟩
         obtain ⟨k, hr2⟩ := HK.out w2 hk
         have y1 : w2.cell? ⟨g, 1, none⟩ = some (.int .i64 (k : Int)) := hr2.blk.cell 1
         have f1 := hr2.blk.frozen 1
         have HKK := Lib.hid hk
         clear hk hr2))
    go_ret
    exact ⟨rfl, Tried.bad HKK.out HY.out⟩
end Go.Proofs.Ytaechgnjdjijkaa

/- The reader's Text. -/
namespace Go.Proofs.Ytaechgnjdjijkaa
open Go.RowKit Go.Lib

theorem Bk.ne {w : World} {g g' : Nat} {t t' : TypeId} {cs cs' : Array Value} (h : Bk w g t cs) (h' : Bk w g' t' cs') (hne : t ≠ t') : g ≠ g' := by
  intro e
  subst e
  have := h.symm.trans h'
  simp only [Option.some.injEq, Obj.cells.injEq] at this
  exact hne this.2.1
/-- The bytes from here, so many. -/
def cut (bs : List UInt8) (at_ n : Nat) : List UInt8 := (bs.take (at_ + n)).drop at_
theorem cut_length (bs : List UInt8) (at_ n : Nat) (h : at_ + n ≤ bs.length) : (cut bs at_ n).length = n := by unfold cut; simp; omega
set_option maxRecDepth 100000 in
theorem Text1_more (B g at_ x c1 c2 : Nat) (v : Value) (bs : List UInt8) (w : World) (h : Rr w B g v bs at_) (hp : Bk w c1 70 #[.pointer (some ⟨g, 0, none⟩)]) (hx : bs.length - at_ < x) (hmax : bs.length ≤ 140737488355328) :
    Calls Try.prog 62 #[.int .u64 (x : Int), .pointer (some ⟨c1, 0, none⟩), .pointer (some ⟨c2, 0, none⟩)] w fun e w' => e = .returned (.int .i64 110) ∧ Below w.heap.size w w' := by
  have HL := Lib.hid (Left_any B g at_ v bs w h)
  have x0 : w.cell? ⟨c1, 0, none⟩ = some (.pointer (some ⟨g, 0, none⟩)) := hp.cell 0
  have hwr : IntKind.u64.wrap ((bs.length - at_ : Nat) : Int) = ((bs.length - at_ : Nat) : Int) := IntWalk.u64_in _ (by omega)
  have h2 : decide (bs.length - at_ < x) = true := by simpa using hx
  clear h hp hx hmax
  generalize bs.length - at_ = k at *
  go_enter Try.func62, Try.ntmps62
  go_wp2_with (first
    | (go_at_call 63; (with_reducible refine HL.out.mono ?_); rintro e w1 ⟨rfl, hb⟩; have HB := Lib.hid hb; clear hb))
  go_ret
  exact ⟨rfl, HB.out⟩
set_option maxRecDepth 100000 in
theorem Text1_ok (W0 : World) (B g at_ x c1 c2 : Nat) (v q0 : Value) (bs : List UInt8) (w : World) (h : Rr w B g v bs at_) (hp : Bk w c1 70 #[.pointer (some ⟨g, 0, none⟩)]) (hq : Bk w c2 25 #[q0]) (hx : at_ + x ≤ bs.length) (hmax : bs.length ≤ 140737488355328)
    (hg0 : W0.grownBy w (some g)) (hc2 : W0.heap.size ≤ c2) :
    Calls Try.prog 62 #[.int .u64 (x : Int), .pointer (some ⟨c1, 0, none⟩), .pointer (some ⟨c2, 0, none⟩)] w fun e w' => e = .returned (.int .i64 0) ∧ Rr w' B g v bs (at_ + x) ∧ W0.grownBy w' (some g) ∧ ∃ v', Bk w' c2 25 #[v'] ∧ w'.ownsRow w.heap.size 5 1 v' x (bc (cut bs at_ x)) := by
  have HL := Lib.hid (Left_any B g at_ v bs w h)
  have HR := Lib.hid h
  have HP := Lib.hid hp
  have HQ := Lib.hid hq
  have HG0 := Lib.hid hg0
  have HC2 := Lib.hid hc2
  have x0 : w.cell? ⟨c1, 0, none⟩ = some (.pointer (some ⟨g, 0, none⟩)) := hp.cell 0
  have hwr : IntKind.u64.wrap ((bs.length - at_ : Nat) : Int) = ((bs.length - at_ : Nat) : Int) := IntWalk.u64_in _ (by omega)
  have hwx : IntKind.i64.wrap (x : Int) = (x : Int) := IntWalk.i64_in _ (by omega)
  have h2 : decide (bs.length - at_ < x) = false := by simp; omega
  have HRAW := Lib.hid (fun w1 (hr : Rr w1 B g v bs at_) => Raw_ok B g at_ x v bs w1 hr hx hmax)
  clear h hp hq hx hmax hg0 hc2
  generalize bs.length - at_ = k at *
  go_enter Try.func62, Try.ntmps62
  go_wp2_with (first
    | (go_at_call 63; (with_reducible refine HL.out.mono ?_); rintro e w1 ⟨rfl, hb⟩
       have y0 : w1.cell? ⟨c1, 0, none⟩ = some (.pointer (some ⟨g, 0, none⟩)) := (HP.out.below hb).cell 0
       have HB := Lib.hid hb; clear hb)
    | (go_at_call 64; (with_reducible refine (HRAW.out _ (HR.out.below HB.out)).mono ?_); rintro e w2 ⟨v2, rfl, hr2, hg2, ho2⟩
       have hq2 := (HQ.out.below HB.out).grown hg2 (fun e => by cases e; exact HR.out.blk.ne HQ.out (by decide) rfl)
       have z0 : w2.cell? ⟨c2, 0, none⟩ = some q0 := hq2.cell 0
       have f0 := hq2.frozen 0
       obtain ⟨a2, k2, rfl, _, _⟩ := ownsRow_shape ho2
       have HR2 := Lib.hid hr2
       have HG2 := Lib.hid hg2
       have HO2 := Lib.hid ho2
       have HQ2 := Lib.hid hq2
       clear hr2 hg2 ho2 hq2))
  go_ret
  have hne : g ≠ c2 := HR.out.blk.ne HQ.out (by decide)
  refine ⟨rfl, ⟨HR2.out.blk.far (p := ⟨c2, 0, none⟩) hne _, own_set HR2.out.own HQ2.out (by decide) 0 _, HR2.out.le⟩, only_set (only_step (only_step HG0.out (below_grown HB.out none) (fun b e => by cases e)) HG2.out (fun b e => by cases e; exact .inl rfl)) ⟨c2, 0, none⟩ _ (.inr HC2.out), _, HQ2.out.set 0 _, own_mono (own_set HO2.out HQ2.out (by decide) 0 _) HB.out.size⟩
/-- With which error a text is refused, 0 if it is not. -/
def txE (m : Nat) (bs : List UInt8) (at_ : Nat) : Nat := if hdE m (rdAt bs at_) = 0 then (if bs.length - (at_ + (rdAt bs at_).2.1) < (rdAt bs at_).1 then 110 else 0) else hdE m (rdAt bs at_)
theorem bk_two (w : World) (g : Nat) : ∀ w2, w2 = (w.alloc (.cells #[.pointer (some ⟨g, 0, none⟩)] 70)).alloc (.cells #[.slice none 0 0] 25) → Bk w2 w.heap.size 70 #[.pointer (some ⟨g, 0, none⟩)] ∧ Bk w2 (w.heap.size + 1) 25 #[.slice none 0 0] ∧ Below w.heap.size w w2 := by
  rintro w2 rfl
  have hs : (w.alloc (.cells #[.pointer (some ⟨g, 0, none⟩)] 70)).heap.size = w.heap.size + 1 := by simp
  exact ⟨(Bk.new w _ _).alloc _, Bk.new' _ _ _ _ hs, (below_alloc w _).trans ((below_alloc _ _).mono (by rw [hs]; omega))⟩
set_option maxRecDepth 100000 in
theorem Text_neg (g : Nat) (n : Int) (hn : n < 0) (w : World) : Calls Try.prog 39 #[.pointer (some ⟨g, 0, none⟩), .int .i64 n] w fun e w' => e = .returned (.tuple #[.string ⟨#[]⟩, .int .i64 2]) ∧ Below w.heap.size w w' := by
  have HT := Lib.hid (fun o F w => try_neg o n hn F w)
  have HB := Lib.hid (bk_two w g)
  clear hn
  go_enter Try.func39, Try.ntmps39
  go_wp2_with (first
    | (go_at_call 61; (with_reducible refine (HT.out _ _ _).mono ?_); rintro e w1 ⟨rfl, rfl⟩))
  go_ret2
  exact ⟨rfl, (HB.out _ rfl).2.2⟩
set_option maxRecDepth 100000 in
theorem Text_bad (B g at_ m : Nat) (v : Value) (bs : List UInt8) (w : World) (h : Rr w B g v bs at_) (hm : m ≤ 9223372036854775807) (hmax : bs.length ≤ 140737488355328) (he : txE m bs at_ ≠ 0) :
    Calls Try.prog 39 #[.pointer (some ⟨g, 0, none⟩), .int .i64 (m : Int)] w fun e w' => e = .returned (.tuple #[.string ⟨#[]⟩, .int .i64 (txE m bs at_ : Int)]) ∧ Rr w' B g v bs at_ ∧ w.grownBy w' (some g) := by
  have HB := Lib.hid (bk_two w g)
  have hT : ∀ w2, w2 = (w.alloc (.cells #[.pointer (some ⟨g, 0, none⟩)] 70)).alloc (.cells #[.slice none 0 0] 25) → Calls Try.prog 61 #[.pointer (some ⟨g, 0, none⟩), .int .i64 (m : Int), .func (.func 62) #[] #[.pointer (some ⟨w.heap.size, 0, none⟩), .pointer (some ⟨w.heap.size + 1, 0, none⟩)]] w2 fun e w' => e = .returned (.int .i64 (txE m bs at_ : Int)) ∧ Rr w' B g v bs at_ ∧ w.grownBy w' (some g) := by
    intro w2 hw2
    obtain ⟨b1, b2, b3⟩ := HB.out w2 hw2
    have h2 := h.below b3
    unfold txE at he ⊢
    by_cases h0 : hdE m (rdAt bs at_) = 0
    · rw [if_pos h0] at he ⊢
      have hx : bs.length - (at_ + (rdAt bs at_).2.1) < (rdAt bs at_).1 := by
        rcases Nat.lt_or_ge (bs.length - (at_ + (rdAt bs at_).2.1)) (rdAt bs at_).1 with h | h
        · exact h
        · exact absurd (if_neg (by omega)) he
      rw [if_pos hx]
      refine (try_Text B g at_ m v _ _ bs w2 h2 hm h0 110 (fun w' => Rr w' B g v bs (at_ + (rdAt bs at_).2.1) ∧ w.grownBy w' (some g)) (fun w' hk => ⟨_, hk.1⟩) (fun w1 hr1 hg1 => (Text1_more B g _ _ w.heap.size (w.heap.size + 1) v bs w1 hr1 (b1.grown hg1 (fun e => by cases e; exact h2.blk.ne b1 (by decide) rfl)) hx hmax).mono ?_)).mono ?_
      · rintro e w' ⟨rfl, hb⟩
        exact ⟨rfl, hr1.below hb, only_step (only_step (only_of_below b3 (some g)) hg1 (fun b e => by cases e; exact .inl rfl)) (below_grown hb none) (fun b e => by cases e)⟩
      · rintro e w' ⟨rfl, w3, hk, hw⟩
        rcases hw with ⟨hw, _⟩ | ⟨_, rfl⟩
        · cases hw
        · exact ⟨rfl, hk.1.step at_ h.le, only_set hk.2 ⟨g, 1, none⟩ _ (.inl rfl)⟩
    · rw [if_neg h0]
      exact (try_head B g at_ m v bs _ w2 h2 hm h0).mono (by rintro e w' ⟨rfl, hr, hg⟩; exact ⟨rfl, hr, only_step (only_of_below b3 (some g)) hg (fun b e => by cases e; exact .inl rfl)⟩)
  have HT := Lib.hid hT
  have h1 : ((txE m bs at_ : Int) == 0) = false := by simp; omega
  have h2 : ((txE m bs at_ : Int) != 0) = true := by simp; omega
  clear h hT he hm hmax
  generalize txE m bs at_ = E at *
  go_enter Try.func39, Try.ntmps39
  go_wp2_with (first
    | (go_at_call 61; (with_reducible refine (HT.out _ rfl).mono ?_); rintro e w1 ⟨rfl, hr, hg⟩; have HR := Lib.hid hr; have HG := Lib.hid hg; clear hr hg))
  go_ret2
  exact ⟨rfl, HR.out, HG.out⟩
set_option maxRecDepth 100000 in
theorem Text_ok (B g at_ m : Nat) (v : Value) (bs : List UInt8) (w : World) (h : Rr w B g v bs at_) (hm : m ≤ 9223372036854775807) (hmax : bs.length ≤ 140737488355328) (he : txE m bs at_ = 0) :
    Calls Try.prog 39 #[.pointer (some ⟨g, 0, none⟩), .int .i64 (m : Int)] w fun e w' => e = .returned (.tuple #[.string ⟨(cut bs (at_ + (rdAt bs at_).2.1) (rdAt bs at_).1).toArray⟩, .int .i64 0]) ∧ Rr w' B g v bs (at_ + (rdAt bs at_).2.1 + (rdAt bs at_).1) ∧ w.grownBy w' (some g) := by
  have HB := Lib.hid (bk_two w g)
  have hfa := (rdAt_facts bs at_ h.le).2.1
  have hT : (at_ + (rdAt bs at_).2.1 + (rdAt bs at_).1 ≤ bs.length) ∧ ∀ w2, w2 = (w.alloc (.cells #[.pointer (some ⟨g, 0, none⟩)] 70)).alloc (.cells #[.slice none 0 0] 25) → Calls Try.prog 61 #[.pointer (some ⟨g, 0, none⟩), .int .i64 (m : Int), .func (.func 62) #[] #[.pointer (some ⟨w.heap.size, 0, none⟩), .pointer (some ⟨w.heap.size + 1, 0, none⟩)]] w2 fun e w' => e = .returned (.int .i64 0) ∧ Rr w' B g v bs (at_ + (rdAt bs at_).2.1 + (rdAt bs at_).1) ∧ w.grownBy w' (some g) ∧ ∃ v', Bk w' (w.heap.size + 1) 25 #[v'] ∧ w'.ownsRow 0 5 1 v' (rdAt bs at_).1 (bc (cut bs (at_ + (rdAt bs at_).2.1) (rdAt bs at_).1)) := by
    unfold txE at he
    have h0 : hdE m (rdAt bs at_) = 0 := by
      rcases Nat.decEq (hdE m (rdAt bs at_)) 0 with h | h
      · rw [if_neg h] at he; exact he
      · exact h
    rw [if_pos h0] at he
    have hx : at_ + (rdAt bs at_).2.1 + (rdAt bs at_).1 ≤ bs.length := by
      rcases Nat.lt_or_ge (bs.length - (at_ + (rdAt bs at_).2.1)) (rdAt bs at_).1 with h | h
      · rw [if_pos h] at he; cases he
      · omega
    refine ⟨hx, fun w2 hw2 => ?_⟩
    obtain ⟨b1, b2, b3⟩ := HB.out w2 hw2
    have h2 := h.below b3
    refine (try_Text B g at_ m v _ _ bs w2 h2 hm h0 0 (fun w' => Rr w' B g v bs (at_ + (rdAt bs at_).2.1 + (rdAt bs at_).1) ∧ w.grownBy w' (some g) ∧ ∃ v', Bk w' (w.heap.size + 1) 25 #[v'] ∧ w'.ownsRow 0 5 1 v' (rdAt bs at_).1 (bc (cut bs (at_ + (rdAt bs at_).2.1) (rdAt bs at_).1))) (fun w' hk => ⟨_, hk.1⟩) (fun w1 hr1 hg1 => (Text1_ok w B g _ _ w.heap.size (w.heap.size + 1) v _ bs w1 hr1 (b1.grown hg1 (fun e => by cases e; exact h2.blk.ne b1 (by decide) rfl)) (b2.grown hg1 (fun e => by cases e; exact h2.blk.ne b2 (by decide) rfl)) hx hmax (only_step (only_of_below b3 (some g)) hg1 (fun b e => by cases e; exact .inl rfl)) (by omega)).mono ?_)).mono ?_
    · rintro e w' ⟨rfl, k1, k2, v', k3, k4⟩
      exact ⟨rfl, k1, k2, v', k3, own_mono k4 (Nat.zero_le _)⟩
    · rintro e w' ⟨rfl, w3, hk, hw⟩
      rcases hw with ⟨_, rfl⟩ | ⟨hw, _⟩
      · exact ⟨rfl, hk⟩
      · exact absurd rfl hw
  have HT := Lib.hid hT.2
  have HL : Hid ((cut bs (at_ + (rdAt bs at_).2.1) (rdAt bs at_).1).length = (rdAt bs at_).1) := cut_length _ _ _ hT.1
  clear h hT he hm hmax hfa
  generalize cut bs (at_ + (rdAt bs at_).2.1) (rdAt bs at_).1 = cs at *
  generalize at_ + (rdAt bs at_).2.1 + (rdAt bs at_).1 = k at *
  generalize (rdAt bs at_).1 = x at *
  go_enter Try.func39, Try.ntmps39
  go_wp2_with (first
    | (go_at_call 61; (with_reducible refine (HT.out _ rfl).mono ?_); rintro e w1 ⟨rfl, hr, hg, v1, hk, ho⟩
       have hrd := Rd.of_owns ho
       obtain ⟨a1, c1, rfl, _, _⟩ := ownsRow_shape ho
       have x1 : w1.cell? ⟨w.heap.size + 1, 0, none⟩ = some (.slice a1 x c1) := hk.cell 0
       have hcv := conv_rd w1 a1 x c1 cs hrd HL.out
       have HR := Lib.hid hr; have HG := Lib.hid hg; clear hr hg hk ho hrd))
  go_ret2
  exact ⟨rfl, HR.out, HG.out⟩
end Go.Proofs.Ytaechgnjdjijkaa

/- The reader's Rising: what its closure reads. -/
namespace Go.Proofs.Ytaechgnjdjijkaa
open Go.RowKit Go.Lib

theorem i64Info : (Try.prog.info? 2).map (fun i => (i.zero, i.size, i.bytes)) = some (some (.int .i64 0), 1, 8) := by kernel_rfl
/-- The list that is read: so many numbers to come, from here, behind these: the list, the place behind it, the error. -/
def rgL (bs : List UInt8) : Nat → Nat → List Int → List Int × Nat × Nat
  | 0, at_, out => (out, at_, 0)
  | n + 1, at_, out =>
    if (rdAt bs at_).2.2 ≠ 0 then (out, at_, (rdAt bs at_).2.2)
    else if out.length = 0 then rgL bs n (at_ + (rdAt bs at_).2.1) (out ++ [unz (rdAt bs at_).1])
    else if 9223372036854775807 ≤ out.getD (out.length - 1) 0 + (rdAt bs at_).1 then (out, at_, 112)
    else rgL bs n (at_ + (rdAt bs at_).2.1) (out ++ [out.getD (out.length - 1) 0 + (rdAt bs at_).1 + 1])
theorem unz_I64 {x : Nat} (h : x < 18446744073709551616) : I64 (unz x) := by
  unfold unz I64
  split <;> omega
theorem Rr.grew {w w' : World} {B B' g at_ n : Nat} {v q q' : Value} {bs : List UInt8} {e : TypeId} {size : Nat} {xs : List Value} (h : Rr w B g v bs at_) (ho : w.ownsRow B' e size q n xs) (hg : Grew w w' q q') (h1 : e ≠ 110) (h2 : 5 ≠ e) : Rr w' B g v bs at_ :=
  ⟨h.blk.grew hg (own_bk_ne ho h.blk h1), h.own.kept hg.only (own_own_ne h.own ho h2), h.le⟩
theorem Rr.put {w : World} {B g at_ c : Nat} {v : Value} {bs : List UInt8} {t : TypeId} {cs : Array Value} (h : Rr w B g v bs at_) (hc : Bk w c t cs) (u : Value) (h1 : 110 ≠ t) (h2 : 5 ≠ t) : Rr (w.setCell ⟨c, 0, none⟩ u) B g v bs at_ :=
  ⟨h.blk.far (p := ⟨c, 0, none⟩) (h.blk.ne hc h1) u, own_set h.own hc h2 0 u, h.le⟩
end Go.Proofs.Ytaechgnjdjijkaa

/- Plain laws: what was read, written again, has just the bytes that were read. -/
namespace Go.Proofs.Ytaechgnjdjijkaa
open Go.RowKit Go.Lib

/-- The bytes of a number that was read, from its i-th on. -/
theorem rdN_again : ∀ (l : List UInt8) (i x : Nat), i ≤ 9 → x < 128 ^ i → (rdN i x l).2.2 = 0 → ∃ y, (rdN i x l).1 = x + y * 128 ^ i ∧ num7 y = l.take ((rdN i x l).2.1 - i) ∧ i < (rdN i x l).2.1 ∧ (0 < i → 0 < y)
  | [], i, x, hi, hx, h => by unfold rdN at h; cases h
  | b :: r, i, x, hi, hx, h => by
    unfold rdN at h ⊢
    split at h
    · cases h
    · rename_i h9
      split at h
      · rename_i hb
        have hi9 : i < 9 := by
          rcases Nat.lt_or_ge i 9 with h' | h'
          · exact h'
          · exact absurd ⟨by omega, by omega⟩ h9
        obtain ⟨y, k1, k2, k3, k4⟩ := rdN_again r (i + 1) (x + b.toNat % 128 * 128 ^ i) (by omega) (or_grow hx) h
        rw [if_neg h9, if_pos hb]
        have hy := k4 (by omega)
        have hbl : b.toNat < 256 := b.toNat_lt
        refine ⟨b.toNat % 128 + 128 * y, ?_, ?_, by omega, fun _ => by omega⟩
        · rw [k1, Nat.pow_succ]
          simp only [Nat.add_mul]
          rw [show 128 * y * 128 ^ i = y * (128 ^ i * 128) by rw [Nat.mul_comm (128 ^ i) 128, ← Nat.mul_assoc, Nat.mul_comm y 128]]
          omega
        · rw [num7_big (by omega), show (b.toNat % 128 + 128 * y) / 128 = y by omega, k2]
          have e : (rdN (i + 1) (x + b.toNat % 128 * 128 ^ i) r).2.1 - i = ((rdN (i + 1) (x + b.toNat % 128 * 128 ^ i) r).2.1 - (i + 1)) + 1 := by omega
          rw [e, List.take_succ_cons]
          congr 1
          rw [show (b.toNat % 128 + 128 * y) % 128 + 128 = b.toNat by omega]
          exact UInt8.ofNat_toNat
      · rename_i hb
        split at h
        · cases h
        · rename_i h0
          rw [if_neg h9, if_neg hb, if_neg h0]
          have hbl : b.toNat < 128 := by omega
          refine ⟨b.toNat, by rw [Nat.mod_eq_of_lt hbl], ?_, by show i < i + 1; omega, fun hp => ?_⟩
          · rw [num7_small hbl, show i + 1 - i = 1 by omega]
            simp only [List.take_succ_cons, List.take_zero]
            congr 1
            exact UInt8.ofNat_toNat
          · rcases Nat.eq_zero_or_pos b.toNat with h' | h'
            · exact absurd ⟨hp, h'⟩ h0
            · exact h'
theorem rdAt_again (bs : List UInt8) (at_ : Nat) (h : (rdAt bs at_).2.2 = 0) : num7 (rdAt bs at_).1 = cut bs at_ (rdAt bs at_).2.1 := by
  obtain ⟨y, h1, h2, _, _⟩ := rdN_again (bs.drop at_) 0 0 (by decide) (by decide) h
  unfold cut
  have e : (rdAt bs at_).1 = y := by unfold rdAt; rw [h1]; simp
  rw [e, h2, Nat.sub_zero, List.drop_take]
  simp [rdAt]
theorem zig_unz (x : Nat) : zig (unz x) = x := by
  unfold unz zig
  split <;> split <;> omega
theorem getD_snoc_lt {l : List Int} {u : Int} {i : Nat} (h : i < l.length) : (l ++ [u]).getD i 0 = l.getD i 0 := by
  rw [List.getD, List.getD, List.getElem?_append_left h]
theorem getD_snoc_eq (l : List Int) (u : Int) : (l ++ [u]).getD l.length 0 = u := by
  rw [List.getD, List.getElem?_append_right (Nat.le_refl _), Nat.sub_self]; rfl
theorem rk_snoc (l : List Int) (u : Int) (k : Nat) (hk : k ≤ l.length) : rk (l ++ [u]) k = rk l k := by
  unfold rk
  rw [List.flatMap_def, List.flatMap_def]
  congr 1
  refine List.map_congr_left fun i hi => ?_
  have hi' : i < k := by simpa using hi
  unfold relt
  by_cases h0 : i = 0
  · subst h0; rw [if_pos rfl, if_pos rfl, getD_snoc_lt (by omega)]
  · rw [if_neg h0, if_neg h0, getD_snoc_lt (by omega), getD_snoc_lt (by omega)]
theorem rises_snoc {l : List Int} {u : Int} (h : Rises l) (hu : 0 < l.length → l.getD (l.length - 1) 0 < u) : Rises (l ++ [u]) := by
  intro i x y h1 h2
  have hl : i + 1 < l.length + 1 := by have := (List.getElem?_eq_some_iff.1 h2).1; simpa using this
  rw [List.getElem?_append_left (by omega)] at h1
  by_cases hi : i + 1 < l.length
  · rw [List.getElem?_append_left hi] at h2
    exact h i x y h1 h2
  · have e : i + 1 = l.length := by omega
    rw [e, List.getElem?_append_right (Nat.le_refl _), Nat.sub_self] at h2
    have hy : y = u := by simpa using h2.symm
    have hx : l.getD (l.length - 1) 0 = x := by rw [List.getD, show l.length - 1 = i by omega, h1]; rfl
    rw [hy, ← hx]
    exact hu (by omega)
theorem cut_add (bs : List UInt8) (a n k : Nat) (h1 : a + n ≤ k) : cut bs a n ++ (bs.take k).drop (a + n) = (bs.take k).drop a := by
  unfold cut
  have e : (bs.take (a + n)).drop a = ((bs.take k).drop a).take n := by
    rw [List.take_drop, List.take_take, Nat.min_eq_left h1]
  have e2 : (bs.take k).drop (a + n) = ((bs.take k).drop a).drop n := by rw [List.drop_drop]
  rw [e, e2, List.take_append_drop]
theorem rgL_again (bs : List UInt8) : ∀ (n at_ : Nat) (out : List Int), (rgL bs n at_ out).2.2 = 0 → at_ ≤ bs.length → (∀ a ∈ out, I64 a) → Rises out →
    (rgL bs n at_ out).1.length = out.length + n ∧ at_ ≤ (rgL bs n at_ out).2.1 ∧ (rgL bs n at_ out).2.1 ≤ bs.length ∧ Rises (rgL bs n at_ out).1 ∧ (∀ a ∈ (rgL bs n at_ out).1, I64 a) ∧
    rk (rgL bs n at_ out).1 (out.length + n) = rk out out.length ++ (bs.take (rgL bs n at_ out).2.1).drop at_
  | 0, at_, out, h, hat, hI, hR => by
    unfold rgL
    refine ⟨rfl, Nat.le_refl _, hat, hR, hI, ?_⟩
    show rk out out.length = rk out out.length ++ (bs.take at_).drop at_
    rw [List.drop_eq_nil_of_le (by simp; omega), List.append_nil]
  | n + 1, at_, out, h, hat, hI, hR => by
    unfold rgL at h ⊢
    obtain ⟨hlt, hle, -, -⟩ := rdAt_facts bs at_ hat
    split at h
    · rename_i hz; exact absurd h hz
    · rename_i hz
      have hz' : (rdAt bs at_).2.2 = 0 := Classical.not_not.1 hz
      have hag := rdAt_again bs at_ hz'
      rw [if_neg hz]
      have go : ∀ u : Int, I64 u → (0 < out.length → out.getD (out.length - 1) 0 < u) → relt (out ++ [u]) out.length = num7 (rdAt bs at_).1 → (rgL bs n (at_ + (rdAt bs at_).2.1) (out ++ [u])).2.2 = 0 →
          (rgL bs n (at_ + (rdAt bs at_).2.1) (out ++ [u])).1.length = out.length + (n + 1) ∧ at_ ≤ (rgL bs n (at_ + (rdAt bs at_).2.1) (out ++ [u])).2.1 ∧ (rgL bs n (at_ + (rdAt bs at_).2.1) (out ++ [u])).2.1 ≤ bs.length ∧ Rises (rgL bs n (at_ + (rdAt bs at_).2.1) (out ++ [u])).1 ∧ (∀ a ∈ (rgL bs n (at_ + (rdAt bs at_).2.1) (out ++ [u])).1, I64 a) ∧
          rk (rgL bs n (at_ + (rdAt bs at_).2.1) (out ++ [u])).1 (out.length + (n + 1)) = rk out out.length ++ (bs.take (rgL bs n (at_ + (rdAt bs at_).2.1) (out ++ [u])).2.1).drop at_ := by
        intro u hu hup hrel h'
        obtain ⟨k1, k2, k3, k4, k5, k6⟩ := rgL_again bs n (at_ + (rdAt bs at_).2.1) (out ++ [u]) h' hle (fun a ha => by
          rcases List.mem_append.1 ha with h1 | h1
          · exact hI a h1
          · simp only [List.mem_singleton] at h1; subst h1; exact hu) (rises_snoc hR hup)
        have hl : (out ++ [u]).length = out.length + 1 := by simp
        rw [hl] at k1 k6
        refine ⟨by omega, by omega, k3, k4, k5, ?_⟩
        rw [show out.length + (n + 1) = out.length + 1 + n by omega, k6, rk_succ, rk_snoc out u _ (Nat.le_refl _), hrel, hag, List.append_assoc, cut_add bs at_ _ _ k2]
      split at h
      · rename_i h0
        rw [if_pos h0]
        refine go _ (unz_I64 hlt) (fun hp => by omega) ?_ h
        unfold relt
        rw [if_pos h0, show ((out ++ [unz (rdAt bs at_).1]).getD 0 0) = unz (rdAt bs at_).1 by have := getD_snoc_eq out (unz (rdAt bs at_).1); rwa [h0] at this, zig_unz]
      · rename_i h0
        split at h
        · cases h
        · rename_i hbig
          rw [if_neg h0, if_neg hbig]
          obtain ⟨last, hlast⟩ : ∃ last, out[out.length - 1]? = some last := ⟨_, List.getElem?_eq_getElem (by omega)⟩
          have hgd : out.getD (out.length - 1) 0 = last := by rw [List.getD, hlast]; rfl
          have hlr := hI last (List.mem_of_getElem? hlast)
          rw [hgd] at hbig h ⊢
          have h1 := hlr.1
          refine go _ ⟨by omega, by omega⟩ (fun _ => by rw [hgd]; omega) ?_ h
          unfold relt
          rw [if_neg h0, getD_snoc_eq, getD_snoc_lt (by omega), hgd]
          congr 1
          omega
/-- A text that was read, written again. -/
theorem text_again (bs : List UInt8) (m at_ : Nat) (hat : at_ ≤ bs.length) (h : txE m bs at_ = 0) :
    at_ + (rdAt bs at_).2.1 + (rdAt bs at_).1 ≤ bs.length ∧ num7 (rdAt bs at_).1 ++ cut bs (at_ + (rdAt bs at_).2.1) (rdAt bs at_).1 = (bs.take (at_ + (rdAt bs at_).2.1 + (rdAt bs at_).1)).drop at_ ∧ (rdAt bs at_).1 ≤ m := by
  obtain ⟨hlt, hle, -, -⟩ := rdAt_facts bs at_ hat
  unfold txE at h
  by_cases h0 : hdE m (rdAt bs at_) = 0
  · rw [if_pos h0] at h
    obtain ⟨hz, hm⟩ : (rdAt bs at_).2.2 = 0 ∧ (rdAt bs at_).1 ≤ m := by
      unfold hdE at h0
      rcases Nat.decEq (rdAt bs at_).2.2 0 with h | h
      · rw [if_neg h] at h0; exact absurd h0 h
      · rw [if_pos h] at h0
        rcases Nat.lt_or_ge m (rdAt bs at_).1 with k | k
        · rw [if_pos k] at h0; cases h0
        · exact ⟨h, k⟩
    have hx : at_ + (rdAt bs at_).2.1 + (rdAt bs at_).1 ≤ bs.length := by
      rcases Nat.lt_or_ge (bs.length - (at_ + (rdAt bs at_).2.1)) (rdAt bs at_).1 with h' | h'
      · rw [if_pos h'] at h; cases h
      · omega
    refine ⟨hx, ?_, hm⟩
    rw [rdAt_again bs at_ hz]
    exact cut_add bs at_ _ _ (by omega)
  · rw [if_neg h0] at h; exact absurd h h0
end Go.Proofs.Ytaechgnjdjijkaa

/- Plain laws: what was written is read. -/
namespace Go.Proofs.Ytaechgnjdjijkaa
open Go.RowKit Go.Lib

theorem rdN_num7 : ∀ (n y : Nat), y < n → ∀ (i x : Nat) (post : List UInt8), i ≤ 9 → y * 128 ^ i < 18446744073709551616 → (0 < i → 0 < y) → rdN i x (num7 y ++ post) = (x + y * 128 ^ i, i + (num7 y).length, 0)
  | 0, y, h, _, _, _, _, _, _ => by omega
  | n + 1, y, h, i, x, post, hi, hy, hp => by
    by_cases hs : y < 128
    · rw [num7_small hs]
      show rdN i x (UInt8.ofNat y :: post) = _
      have hb : (UInt8.ofNat y).toNat = y := by rw [UInt8.toNat_ofNat']; exact Nat.mod_eq_of_lt (by omega)
      unfold rdN
      rw [hb]
      have h9 : ¬ (i = 9 ∧ y ≠ 1) := by
        rintro ⟨rfl, h1⟩
        have := hp (by decide)
        have e : (128 : Nat) ^ 9 = 9223372036854775808 := by decide
        rw [e] at hy
        omega
      rw [if_neg h9, if_neg (by omega), if_neg (by rintro ⟨a, b⟩; have := hp a; omega), Nat.mod_eq_of_lt hs]
      simp
    · rw [num7_big hs]
      show rdN i x (UInt8.ofNat (y % 128 + 128) :: (num7 (y / 128) ++ post)) = _
      have hb : (UInt8.ofNat (y % 128 + 128)).toNat = y % 128 + 128 := by rw [UInt8.toNat_ofNat']; exact Nat.mod_eq_of_lt (by omega)
      have hi9 : i < 9 := by
        rcases Nat.lt_or_ge i 9 with h' | h'
        · exact h'
        · have e9 : i = 9 := by omega
          subst e9
          have e : (128 : Nat) ^ 9 = 9223372036854775808 := by decide
          rw [e] at hy
          omega
      have hle : y / 128 * 128 ^ (i + 1) ≤ y * 128 ^ i := by
        rw [Nat.pow_succ, Nat.mul_comm (128 ^ i) 128, ← Nat.mul_assoc]
        exact Nat.mul_le_mul_right _ (Nat.div_mul_le_self y 128)
      unfold rdN
      rw [hb, if_neg (by omega), if_pos (by omega), rdN_num7 n (y / 128) (by omega) (i + 1) _ post (by omega) (by omega) (fun _ => by omega)]
      simp only [List.length_cons]
      refine Prod.ext ?_ (Prod.ext ?_ rfl)
      · show x + (y % 128 + 128) % 128 * 128 ^ i + y / 128 * 128 ^ (i + 1) = x + y * 128 ^ i
        rw [show (y % 128 + 128) % 128 = y % 128 by omega, Nat.pow_succ, Nat.mul_comm (128 ^ i) 128, ← Nat.mul_assoc, Nat.add_assoc, ← Nat.add_mul]
        congr 2
        omega
      · show i + 1 + (num7 (y / 128)).length = i + ((num7 (y / 128)).length + 1)
        omega
theorem rdAt_num7 (pre post : List UInt8) (x : Nat) (hx : x < 18446744073709551616) : rdAt (pre ++ (num7 x ++ post)) pre.length = (x, (num7 x).length, 0) := by
  unfold rdAt
  rw [List.drop_left, rdN_num7 (x + 1) x (by omega) 0 0 post (by decide) (by simpa using hx) (fun h => by omega)]
  simp
theorem cut_mid (pre b post : List UInt8) : cut (pre ++ (b ++ post)) pre.length b.length = b := by
  unfold cut
  rw [List.drop_take, List.drop_left, Nat.add_sub_cancel_left, List.take_left]
theorem unz_zig (x : Int) : unz (zig x) = x := by
  unfold unz zig
  split <;> split <;> omega
theorem hdE_le (m x n : Nat) (h : x ≤ m) : hdE m (x, n, 0) = 0 := by
  show (if (0 : Nat) = 0 then (if m < x then 3 else 0) else 0) = 0
  rw [if_pos rfl, if_neg (by omega)]
theorem text_back (pre post : List UInt8) (s : ByteArray) (m : Nat) (hm : s.size ≤ m) (hs : s.size < 18446744073709551616) :
    txE m (pre ++ ((num7 s.size ++ s.data.toList) ++ post)) pre.length = 0 ∧ (rdAt (pre ++ ((num7 s.size ++ s.data.toList) ++ post)) pre.length) = (s.size, (num7 s.size).length, 0) ∧
    (⟨(cut (pre ++ ((num7 s.size ++ s.data.toList) ++ post)) (pre.length + (num7 s.size).length) s.size).toArray⟩ : ByteArray) = s := by
  have hr : rdAt (pre ++ ((num7 s.size ++ s.data.toList) ++ post)) pre.length = (s.size, (num7 s.size).length, 0) := by
    rw [List.append_assoc]; exact rdAt_num7 pre _ s.size hs
  have hl : s.data.toList.length = s.size := by simp
  refine ⟨?_, hr, ?_⟩
  · unfold txE
    rw [hr, hdE_le _ _ _ hm, if_pos rfl, if_neg]
    simp only [List.length_append, hl]
    omega
  · have e : pre ++ ((num7 s.size ++ s.data.toList) ++ post) = (pre ++ num7 s.size) ++ (s.data.toList ++ post) := by simp
    have hc := cut_mid (pre ++ num7 s.size) s.data.toList post
    rw [List.length_append, hl, ← e] at hc
    rw [hc]
def rkF (l : List Int) : Nat → Nat → List UInt8
  | 0, _ => []
  | j + 1, k => relt l k ++ rkF l j (k + 1)
theorem rk_rkF (l : List Int) : ∀ (j k : Nat), rk l (k + j) = rk l k ++ rkF l j k
  | 0, k => by simp [rkF]
  | j + 1, k => by
    rw [show k + (j + 1) = (k + 1) + j by omega, rk_rkF l j (k + 1), rk_succ, rkF, List.append_assoc]
theorem rgL_back (l : List Int) (hI : ∀ a ∈ l, I64 a) (hR : Rises l) : ∀ (j k : Nat) (pre post : List UInt8), k + j = l.length → rgL (pre ++ (rkF l j k ++ post)) j pre.length (l.take k) = (l, pre.length + (rkF l j k).length, 0)
  | 0, k, pre, post, h => by
    have e : l.take k = l := by rw [List.take_of_length_le (by omega)]
    rw [rgL, e]
    rfl
  | j + 1, k, pre, post, h => by
    obtain ⟨x, hx⟩ : ∃ x, l[k]? = some x := ⟨_, List.getElem?_eq_getElem (by omega)⟩
    have hxr := hI x (List.mem_of_getElem? hx)
    have htl : (l.take k).length = k := by rw [List.length_take]; omega
    have hsn : l.take k ++ [x] = l.take (k + 1) := by
      rw [List.take_add_one, hx]; rfl
    have key : ∀ y : Nat, y < 18446744073709551616 → relt l k = num7 y → rdAt (pre ++ (rkF l (j + 1) k ++ post)) pre.length = (y, (num7 y).length, 0) ∧
        rgL (pre ++ (rkF l (j + 1) k ++ post)) j (pre.length + (num7 y).length) (l.take k ++ [x]) = (l, pre.length + (rkF l (j + 1) k).length, 0) := by
      intro y hy hrel
      have e1 : pre ++ (rkF l (j + 1) k ++ post) = pre ++ (num7 y ++ (rkF l j (k + 1) ++ post)) := by rw [rkF, hrel, List.append_assoc]
      have e2 : pre ++ (rkF l (j + 1) k ++ post) = (pre ++ num7 y) ++ (rkF l j (k + 1) ++ post) := by rw [e1]; simp
      refine ⟨by rw [e1]; exact rdAt_num7 pre _ y hy, ?_⟩
      rw [e2, hsn, ← List.length_append, rgL_back l hI hR j (k + 1) (pre ++ num7 y) post (by omega)]
      rw [rkF, hrel, List.length_append, List.length_append, Nat.add_assoc]
    by_cases h0 : k = 0
    · subst h0
      have hrel : relt l 0 = num7 (zig x) := by unfold relt; rw [if_pos rfl, List.getD, hx]; rfl
      obtain ⟨k1, k2⟩ := key (zig x) (zig_lt hxr.1 hxr.2) hrel
      rw [rgL, k1]
      simp only [ne_eq, not_true_eq_false, ↓reduceIte]
      rw [if_pos htl, unz_zig]
      exact k2
    · obtain ⟨i, rfl⟩ : ∃ i, k = i + 1 := ⟨k - 1, by omega⟩
      obtain ⟨y, hy⟩ : ∃ y, l[i]? = some y := ⟨_, List.getElem?_eq_getElem (by omega)⟩
      have hyr := hI y (List.mem_of_getElem? hy)
      have hlt := hR i y x hy hx
      have hb1 := hxr.2
      have hb2 := hyr.1
      have hrel : relt l (i + 1) = num7 (x - y - 1).toNat := by unfold relt; rw [if_neg (by omega), List.getD, hx, List.getD, Nat.add_sub_cancel, hy]; rfl
      obtain ⟨k1, k2⟩ := key (x - y - 1).toNat (by omega) hrel
      have hlast : (l.take (i + 1)).getD ((l.take (i + 1)).length - 1) 0 = y := by
        rw [htl, Nat.add_sub_cancel, List.getD, List.getElem?_take_of_lt (by omega), hy]; rfl
      rw [rgL, k1]
      simp only [ne_eq, not_true_eq_false, ↓reduceIte]
      rw [if_neg (by omega), hlast, if_neg (by omega), show y + (((x - y - 1).toNat : Nat) : Int) + 1 = x by omega]
      exact k2
end Go.Proofs.Ytaechgnjdjijkaa

/- An append within a region that draws its order. -/
namespace Go.Proofs.Ytaechgnjdjijkaa
open Go.RowKit Go.Lib
section
variable {P : Program} {w : World}
theorem step_append_rd {ops : Array Oper} {o : Oper} {a : Act} {K : Act → World → Prop} {Q : Exit → Act → World → Prop} {E : Prop} (hgd : o.guard = none) (s x : Operand) (t : TypeId)
    (ho : o.op = .call { callee := .builtin .append, args := #[s, x], argTypes := #[t, t] })
    (base : Nat) (e : TypeId) (i : TypeInfo) (z : Value) (size bytes : Nat) (ht : P.underlying t = some (.slice e)) (hi : P.info? e = some i) (hz : i.zero = some z)
    (hsize : i.size = size) (hby : i.bytes = bytes) (hzs : z.cells.size = size) (hsz : 0 < size)
    (v : Value) (n : Nat) (xs : List Value) (hs : a.eval s = v) (hown : w.ownsRow base e size v n xs)
    (A : Option Addr) (m c : Nat) (news : List Value) (hx : a.eval x = .slice A m c) (hl : news.length = m * size) (hr : Rd w (.slice A m c) m news) (h1 : ∀ u ∈ news, u.oneCell' = true)
    (h63 : n + m ≤ maxLen) (hbytes : (n + m) * bytes ≤ 140737488355328) (hbase : base ≤ w.heap.size)
    (h : ∀ v' w', w'.ownsRow base e size v' (n + m) (xs ++ news) → Grew w w' v v' → K (a.put o.dst v') w') :
    if Region.wanted o (yielded ops a.tmps) = true then Oper.wp P o a w K Q else E := by
  have hw : Region.wanted o (yielded ops a.tmps) = true := by simp [Region.wanted, hgd]
  rw [if_pos hw]
  obtain ⟨v', w', hrun, h2, h3, h4⟩ := run_append_rd (P := P) w base t o.type e i z size bytes ht hi hz hsize hby hzs hsz v n xs hown A m c news hl hr h1 h63 hbytes hbase
  unfold Oper.wp execOp
  simp only [ho, resolve, invoke, builtin, Sem.run_bind, Sem.run_pure, Result.andThen_ok, List.map_toArray, List.map_cons, List.map_nil, hs, hx, hrun]
  exact h v' w' h2 (Grew.of_append h3 h4)
end
end Go.Proofs.Ytaechgnjdjijkaa

/- The law's own lent: bytes in new memory, with marked room behind them; a cut from the front. -/
namespace Go.Proofs.Ytaechgnjdjijkaa
open Go.RowKit Go.Lib

theorem run_rd_front {w : World} {a : Option Addr} {m cap : Nat} {l : List UInt8} (h : Rd w (.slice a m cap) m (bc l)) (z : Nat) (hz : z ≤ m) :
    ∃ A c, (∀ W : World, (Instr.sliceAt 25 (.slice a m cap) none (some (.int .i64 (z : Int))) none).run Try.prog W = .ok (.slice A z c) W) ∧ Rd w (.slice A z c) z (bc (l.take z)) := by
  have hp := rd_part h 0 z (Nat.zero_le _) hz
  obtain ⟨_, _, hv, h1, h2, _⟩ := h
  cases hv
  refine ⟨_, _, fun W => ?_, hp⟩
  rw [run_sliceAt_slice _ _ _ _ _ _ u8Sl, run_slice_h _ _ _ _ _ u8Sl _ _ (by omega) (by omega)]
  simp only [Int.toNat_natCast, u8Sz, Result.andThen_ok]
  rfl
theorem run_own_front (q m n cap : Nat) (hn : n ≤ m) (hm : m ≤ cap) (hc : 0 < cap) : ∀ W : World, (Instr.sliceAt 25 (.slice (some ⟨q, 0, none⟩) m cap) none (some (.int .i64 (n : Int))) none).run Try.prog W = .ok (.slice (some ⟨q, 0, none⟩) n cap) W := by
  intro W
  rw [run_sliceAt_slice _ _ _ _ _ _ u8Sl, run_slice_h _ _ _ _ _ u8Sl _ _ (by omega) (by omega)]
  simp only [Int.toNat_natCast, u8Sz, Result.andThen_ok]
  unfold sliced
  rw [if_neg (by omega)]
  rfl
end Go.Proofs.Ytaechgnjdjijkaa

/- Cuts of bytes: their front, their back. -/
namespace Go.Proofs.Ytaechgnjdjijkaa
open Go.RowKit Go.Lib

theorem run_rd_back {w : World} {a : Option Addr} {m cap : Nat} {l : List UInt8} (h : Rd w (.slice a m cap) m (bc l)) (hl : l.length = m) (f : Nat) (hf : f ≤ m) :
    ∃ A c, (∀ W : World, (Instr.sliceAt 25 (.slice a m cap) (some (.int .i64 (f : Int))) none none).run Try.prog W = .ok (.slice A (m - f) c) W) ∧ Rd w (.slice A (m - f) c) (m - f) (bc (l.drop f)) := by
  have hp := rd_part h f m hf (Nat.le_refl _)
  rw [← hl, List.take_length, hl] at hp
  obtain ⟨_, _, hv, h1, h2, _⟩ := h
  cases hv
  refine ⟨_, _, fun W => ?_, hp⟩
  rw [run_sliceAt_slice _ _ _ _ _ _ u8Sl, run_slice_l _ _ _ _ _ u8Sl _ _ (by omega) (by omega)]
  simp only [Int.toNat_natCast, u8Sz, Result.andThen_ok]
  rfl
end Go.Proofs.Ytaechgnjdjijkaa

/- The document's forms: Text, Fixed, Rises, SameList. -/
namespace Go.Proofs.Ytaechgnjdjijkaa
open Go.RowKit Go.Lib

set_option maxRecDepth 100000 in
theorem refText_any (s : ByteArray) (w : World) (hn : s.size + 20 ≤ 140737488355328) :
    Calls Try.prog 72 #[.string s] w fun e w' => ∃ v', e = .returned v' ∧ Below w.heap.size w w' ∧ w'.ownsRow w.heap.size 5 1 v' (num7 s.size ++ s.data.toList).length (bc (num7 s.size ++ s.data.toList)) := by
  obtain ⟨i0, hi0, hz0, hz1, hz2⟩ := info_parts u8Info
  have HN := Lib.hid (refNumber_any s.size w (by omega))
  have hwr : IntKind.u64.wrap (s.size : Int) = (s.size : Int) := IntWalk.u64_in _ (by omega)
  have hl := num7_le s.size (by omega)
  have h63 : (num7 s.size).length + s.size ≤ maxLen := by unfold maxLen; omega
  have hby : (num7 s.size).length + s.size ≤ 140737488355328 := by omega
  have HE : Hid ((num7 s.size ++ s.data.toList).length = (num7 s.size).length + s.size ∧ bc (num7 s.size ++ s.data.toList) = bc (num7 s.size) ++ strCells s) := ⟨by simp, by rw [bc_append]; rfl⟩
  go_enter Try.func72, Try.ntmps72
  go_wp2_with (first
    | (go_at_call 73; (with_reducible refine HN.out.mono ?_); rintro e w1 ⟨v1, rfl, hb1, ho1⟩; have HB1 := Lib.hid hb1; have HO1 := Lib.hid ho1; have HSZ := Lib.hid hb1.size; clear hb1 ho1)
    | (at_builtin; refine wpList_append_str _ rfl (.tmp 6) (.tmp 7) 25 9 rfl w.heap.size 5 i0 Try.underlying25 Try.underlying9 hi0 hz0 hz1 hz2 v1 (num7 s.size).length _ rfl HO1.out s rfl h63 hby HSZ.out ?_; intro v2 w2 ho2 hg2; have HO2 := Lib.hid ho2; have HG2 := Lib.hid hg2; clear ho2 hg2))
  go_ret
  refine ⟨v2, rfl, HB1.out.trans (HG2.out.below HSZ.out (fun g e => (own_lt HO1.out e).1)), ?_⟩
  rw [HE.out.1, HE.out.2]
  exact HO2.out
end Go.Proofs.Ytaechgnjdjijkaa

/- A writer and a reader side by side; the known forms. -/
namespace Go.Proofs.Ytaechgnjdjijkaa
open Go.RowKit Go.Lib

/-- A writer and a reader, apart. -/
structure Both (W : World) (B g : Nat) (v : Value) (bs : List UInt8) (gr : Nat) (vr : Value) (rs : List UInt8) (at_ : Nat) : Prop where
  wr : Wr W B g v bs
  rd : Rr W B gr vr rs at_
  ap : vr.ownBlock = none ∨ vr.ownBlock ≠ v.ownBlock
theorem Both.ne {W : World} {B g gr at_ : Nat} {v vr : Value} {bs rs : List UInt8} (h : Both W B g v bs gr vr rs at_) : gr ≠ g := by
  intro e
  have h1 := h.wr.blk
  have h2 := h.rd.blk
  subst e
  have := h1.symm.trans h2
  simp at this
theorem Both.below {W W' : World} {B g gr at_ : Nat} {v vr : Value} {bs rs : List UInt8} (h : Both W B g v bs gr vr rs at_) (hb : Below W.heap.size W W') : Both W' B g v bs gr vr rs at_ := ⟨h.wr.below hb, h.rd.below hb, h.ap⟩
theorem Both.write {W W' : World} {B g gr at_ : Nat} {v vr v' : Value} {bs rs bs' : List UInt8} (h : Both W B g v bs gr vr rs at_) (hw : Wr W' B g v' bs') (hc : Wch W W' g v v') : Both W' B g v' bs' gr vr rs at_ := by
  refine ⟨hw, ⟨h.rd.blk.wch hc h.ne (own_bk_ne h.wr.own h.rd.blk (by decide)), own_wch h.rd.own hc (own_bk_ne h.rd.own h.wr.blk (by decide)) h.ap, h.rd.le⟩, ?_⟩
  rcases h.ap with h1 | h1
  · exact .inl h1
  · refine Classical.or_iff_not_imp_left.2 fun hne he => ?_
    obtain ⟨r, hr⟩ := Option.ne_none_iff_exists'.1 hne
    rcases hc.at_ r (he ▸ hr) with h2 | h2
    · exact h1 (hr.trans h2.symm)
    · have := (h.rd.own.lt r hr).2
      omega
theorem Both.read {W : World} {B g gr at_ : Nat} {v vr : Value} {bs rs : List UInt8} (h : Both W B g v bs gr vr rs at_) (n : Nat) (hn : n ≤ rs.length) : Both (W.setCell ⟨gr, 1, none⟩ (.int .i64 (n : Int))) B g v bs gr vr rs n :=
  ⟨⟨h.wr.blk.far (p := ⟨gr, 1, none⟩) (fun e => h.ne e.symm) _, own_set h.wr.own h.rd.blk (by decide) 1 _⟩, ⟨h.rd.blk.set 1 _, own_set h.rd.own h.rd.blk (by decide) 1 _, hn⟩, h.ap⟩

theorem num_any (x : Int) (w : World) : Calls Try.prog 14 #[.int .i64 x] w fun e w' => e = .returned (.int .i64 x) ∧ w = w' := by
  go_enter Try.func14, Try.ntmps14
  go_wp2
  go_ret
  exact ⟨rfl, rfl⟩

theorem rd_lit8 (w : World) (cs : Array Value) (n : Nat) (xs : List UInt8) (hn : n ≤ 1000) (hs : cs.size = n) (hx : cs.toList = bc xs) : Rd (w.alloc (.cells cs 5)) (.slice (some ⟨w.heap.size, 0, none⟩) n n) n (bc xs) := by
  rw [← hx]
  exact Rd.of_owns (World.ownsRow_lit (base := 0) (e := 5) (size := 1) w cs n (Nat.zero_le _) (by unfold maxLen; omega) (by omega))
theorem rd_lit64 (w : World) (cs : Array Value) (n : Nat) (xs : List Int) (hn : n ≤ 1000) (hs : cs.size = n) (hx : cs.toList = ic xs) : Rd (w.alloc (.cells cs 2)) (.slice (some ⟨w.heap.size, 0, none⟩) n n) n (ic xs) := by
  rw [← hx]
  exact Rd.of_owns (World.ownsRow_lit (base := 0) (e := 2) (size := 1) w cs n (Nat.zero_le _) (by unfold maxLen; omega) (by omega))

theorem NewWriter2 (W : World) : Calls Try.prog 51 #[] W fun e w' => ∃ g, e = .returned (.pointer (some ⟨g, 0, none⟩)) ∧ Below W.heap.size W w' ∧ W.heap.size ≤ g ∧ W.heap.size ≤ w'.heap.size ∧ Wr w' W.heap.size g (.slice none 0 0) [] :=
  (NewWriter_any W).mono (by rintro e w' ⟨rfl, rfl⟩; exact ⟨_, rfl, below_alloc W _, Nat.le_refl _, (below_alloc W _).size, wr_new W _⟩)

theorem n300 : num7 300 = [172, 2] := by rw [num7_big (by decide), num7_small (by decide)]; rfl
theorem n_1 : num7 1 = [1] := by rw [num7_small (by decide)]; rfl
theorem n_2 : num7 2 = [2] := by rw [num7_small (by decide)]; rfl
theorem n_3 : num7 3 = [3] := by rw [num7_small (by decide)]; rfl
theorem n_0 : num7 0 = [0] := by rw [num7_small (by decide)]; rfl
theorem n_4 : num7 4 = [4] := by rw [num7_small (by decide)]; rfl
theorem ris_known : ris [-1, 0, 5] = [3, 1, 0, 4] := by
  have e : ris [-1, 0, 5] = num7 3 ++ (num7 1 ++ (num7 0 ++ (num7 4 ++ []))) := rfl
  rw [e, n_3, n_1, n_0, n_4]
  rfl
theorem zig_1 : num7 (zig (-1)) = [1] := n_1
theorem rises_known : Rises [-1, 0, 5] := by
  intro i x y h1 h2
  match i with
  | 0 => simp at h1 h2; omega
  | 1 => simp at h1 h2; omega
  | 2 => simp at h2
  | k + 3 => simp at h2
theorem not_rises_known : ¬ Rises [1, 1] := fun h => by have := h 0 1 1 rfl rfl; omega
theorem rd_known1 : rdN 0 0 [172, 2, 128] = (300, 2, 0) := by simp [rdN]
theorem rd_known2 : rdN 0 0 [128] = (0, 0, 110) := by simp [rdN]
end Go.Proofs.Ytaechgnjdjijkaa
