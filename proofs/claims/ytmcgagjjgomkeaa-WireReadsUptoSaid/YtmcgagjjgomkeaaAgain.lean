/- The walk of WireAgain. -/
import Derived.Test.YtmcgagjjgomkeaaLent
import Derived.Test.YtmcgagjjgomkeaaKnown3
namespace Go.Proofs.Ytmcgagjjgomkeaa
open Go.RowKit Go.Lib

theorem St.reads {W w w' : World} {g gr at_ k : Nat} {v vr : Value} {bs rs : List UInt8} (h : St W w g v bs gr vr rs at_) (hr : Rr w' W.heap.size gr vr rs k) (hg : w.grownBy w' (some gr)) : St W w' g v bs gr vr rs k :=
  ⟨⟨⟨h.both.wr.blk.grown hg (fun e => by cases e; exact h.both.ne rfl), h.both.wr.own.kept hg (.inr (own_bk_ne h.both.wr.own h.both.rd.blk (by decide)))⟩, hr, h.both.ap⟩,
   h.bel.trans (only_below hg h.size (fun b e => by cases e; exact h.hgr)), h.hg, h.hgr⟩
theorem St_new2 {W w1 w2 : World} {B g gr : Nat} {vr : Value} {rs : List UInt8} (hb1 : Below W.heap.size W w1) (hgr : W.heap.size ≤ gr) (hB : W.heap.size ≤ B) (hr : Rr w1 B gr vr rs 0) (hb2 : Below w1.heap.size w1 w2) (hg : w1.heap.size ≤ g) (hw : Wr w2 w1.heap.size g (.slice none 0 0) []) : St W w2 g (.slice none 0 0) [] gr vr rs 0 :=
  ⟨⟨hw.mono hb1.size, ⟨(hr.below hb2).blk, own_mono (hr.below hb2).own hB, hr.le⟩, by rcases h : vr.ownBlock with _ | q; exact .inl rfl; exact .inr (by rw [show (Value.slice none 0 0).ownBlock = none from rfl]; simp)⟩, hb1.trans (hb2.mono hb1.size), Nat.le_trans hb1.size hg, hgr⟩
theorem lent_rd {w : World} {B q m c : Nat} {bs : List UInt8} (hm : bs.length = m) (hc : m + 2 ≤ c) (h : w.ownsRow B 5 1 (.slice (some ⟨q, 0, none⟩) (m + 2) c) (m + 2) (bc (bs ++ [165, 166]))) : Rd w (.slice (some ⟨q, 0, none⟩) m c) m (bc bs) := by
  obtain ⟨_, _, hv, h1, h2, hx⟩ := Rd.of_owns h
  cases hv
  refine ⟨_, _, rfl, by omega, h2, fun hp => ?_⟩
  obtain ⟨g, o, e, hg, hx⟩ := hx (by omega)
  refine ⟨g, o, e, hg, fun j u hj => hx j u ?_⟩
  rw [bc_append, List.getElem?_append_left (List.getElem?_eq_some_iff.1 hj).1]
  exact hj
/-- The law's first steps. -/
theorem again_start (A : Option Addr) (m cap : Nat) (bs : List UInt8) (W : World) (hr : Rd W (.slice A m cap) m (bc bs)) (hm : bs.length = m) (hn : m + 2 ≤ 140737488355328) :
    Calls Try.prog 18 #[.slice A m cap] W fun e w1 => ∃ q c, e = .returned (.slice (some ⟨q, 0, none⟩) m c) ∧ Below W.heap.size W w1 ∧
      Calls Try.prog 17 #[.slice (some ⟨q, 0, none⟩) m c] w1 fun e w2 => ∃ gr vr, e = .returned (.pointer (some ⟨gr, 0, none⟩)) ∧
        Calls Try.prog 12 #[] w2 fun e w3 => ∃ g, e = .returned (.pointer (some ⟨g, 0, none⟩)) ∧ St W w3 g (.slice none 0 0) [] gr vr bs 0 := by
  refine (lent_any A m cap bs W hr hm hn).mono ?_
  rintro e w1 ⟨q, c, rfl, hc, hb1, ho1⟩
  refine ⟨q, c, rfl, hb1, (NewReader_any _ m c bs w1 (lent_rd hm hc ho1) hm (by omega)).mono ?_⟩
  rintro e w2 ⟨gr, vr, rfl, hb2, hgr, hr2⟩
  refine ⟨gr, vr, rfl, (NewWriter2 w2).mono ?_⟩
  rintro e w3 ⟨g, rfl, hb3, hg, _, hw3⟩
  exact ⟨g, rfl, St_new2 (hb1.trans (hb2.mono hb1.size)) (Nat.le_trans hb1.size hgr) hb1.size hr2 hb3 hg hw3⟩
section
variable {W w w' : World} {g gr at_ : Nat} {v vr v' : Value} {bs rs bs' : List UInt8}
theorem St_RNum (h : St W w g v bs gr vr rs at_) (z : Int) (hz : z = ((rdAt rs at_).2.2 : Int)) : Calls Try.prog 19 #[.pointer (some ⟨gr, 0, none⟩)] w fun e w' => e = .returned (.tuple #[.int .u64 ((rdAt rs at_).1 : Int), .int .i64 z]) ∧ St W w' g v bs gr vr rs (at_ + (rdAt rs at_).2.1) := by
  subst hz
  exact (RNumber_g W.heap.size gr at_ vr rs w h.both.rd).mono (by rintro e w' ⟨rfl, hr, hg⟩; exact ⟨rfl, h.reads hr hg⟩)
theorem St_RText_ok (h : St W w g v bs gr vr rs at_) (m : Nat) (z : Int) (hz : z = (m : Int)) (hm : m ≤ 9223372036854775807) (hmax : rs.length ≤ 140737488355328) (he : txE m rs at_ = 0) :
    Calls Try.prog 22 #[.pointer (some ⟨gr, 0, none⟩), .int .i64 z] w fun e w' => e = .returned (.tuple #[.string ⟨(cut rs (at_ + (rdAt rs at_).2.1) (rdAt rs at_).1).toArray⟩, .int .i64 0]) ∧ St W w' g v bs gr vr rs (at_ + (rdAt rs at_).2.1 + (rdAt rs at_).1) := by
  subst hz
  exact (Text_ok W.heap.size gr at_ m vr rs w h.both.rd hm hmax he).mono (by rintro e w' ⟨rfl, hr, hg⟩; exact ⟨rfl, h.reads hr hg⟩)
theorem St_RText_bad (h : St W w g v bs gr vr rs at_) (m : Nat) (z : Int) (hz : z = (m : Int)) (hm : m ≤ 9223372036854775807) (hmax : rs.length ≤ 140737488355328) (he : txE m rs at_ ≠ 0) :
    Calls Try.prog 22 #[.pointer (some ⟨gr, 0, none⟩), .int .i64 z] w fun e w' => e = .returned (.tuple #[.string ⟨#[]⟩, .int .i64 (txE m rs at_ : Int)]) ∧ St W w' g v bs gr vr rs at_ := by
  subst hz
  exact (Text_bad W.heap.size gr at_ m vr rs w h.both.rd hm hmax he).mono (by rintro e w' ⟨rfl, hr, hg⟩; exact ⟨rfl, h.reads hr hg⟩)
theorem St_RRising_ok (h : St W w g v bs gr vr rs at_) (m : Nat) (z : Int) (hz : z = (m : Int)) (hm : m ≤ 9223372036854775807) (hroom : m ≤ 1099511627776 ∨ rs.length ≤ 1099511627776) (he : rsE m rs at_ = 0) :
    Calls Try.prog 24 #[.pointer (some ⟨gr, 0, none⟩), .int .i64 z] w fun e w' => ∃ A c, e = .returned (.tuple #[.slice A (rgL rs (rdAt rs at_).1 (at_ + (rdAt rs at_).2.1) []).1.length c, .int .i64 0]) ∧ w'.ownsRow w.heap.size 2 1 (.slice A (rgL rs (rdAt rs at_).1 (at_ + (rdAt rs at_).2.1) []).1.length c) (rgL rs (rdAt rs at_).1 (at_ + (rdAt rs at_).2.1) []).1.length (ic (rgL rs (rdAt rs at_).1 (at_ + (rdAt rs at_).2.1) []).1) ∧ St W w' g v bs gr vr rs (rgL rs (rdAt rs at_).1 (at_ + (rdAt rs at_).2.1) []).2.1 := by
  subst hz
  refine (RRising_ok W.heap.size gr at_ m vr rs w h.both.rd hm hroom he).mono ?_
  rintro e w' ⟨q, rfl, ho, hr, hg⟩
  obtain ⟨A, c, rfl, _, _⟩ := ownsRow_shape ho
  exact ⟨A, c, rfl, ho, h.reads hr hg⟩
theorem St_RRising_bad (h : St W w g v bs gr vr rs at_) (m : Nat) (z : Int) (hz : z = (m : Int)) (hm : m ≤ 9223372036854775807) (hroom : m ≤ 1099511627776 ∨ rs.length ≤ 1099511627776) (he : rsE m rs at_ ≠ 0) :
    Calls Try.prog 24 #[.pointer (some ⟨gr, 0, none⟩), .int .i64 z] w fun e w' => e = .returned (.tuple #[.slice none 0 0, .int .i64 (rsE m rs at_ : Int)]) ∧ St W w' g v bs gr vr rs at_ := by
  subst hz
  exact (RRising_bad W.heap.size gr at_ m vr rs w h.both.rd hm hroom he).mono (by rintro e w' ⟨rfl, hr, hg⟩; exact ⟨rfl, h.reads hr hg⟩)
theorem rd_front {w : World} {a : Option Addr} {m cap z : Nat} {l : List UInt8} (h : Rd w (.slice a m cap) m (bc l)) (hz : z ≤ m) : z ≤ cap ∧ Rd w (.slice a z cap) z (bc (l.take z)) := by
  obtain ⟨_, _, hv, h1, h2, hx⟩ := h
  cases hv
  refine ⟨by omega, _, _, rfl, by omega, h2, fun hp => ?_⟩
  obtain ⟨g, o, e, hg, hx⟩ := hx (by omega)
  refine ⟨g, o, e, hg, fun j u hj => hx j u ?_⟩
  have hjz : j < z := by
    have := (List.getElem?_eq_some_iff.1 hj).1
    rw [bc_length, List.length_take] at this
    omega
  rw [← hj]
  simp [bc, hjz]
/-- The writer's bytes, as they are compared with a cut of what came in. -/
theorem St_last (h : St W w g v bs gr vr rs at_) (A : Option Addr) (m cap z : Nat) (ps : List UInt8) (hr : Rd W (.slice A m cap) m (bc ps)) (hm : ps.length = m) (hz : z ≤ m) (hb : bs = ps.take z) (hn : m ≤ 140737488355328) :
    Calls Try.prog 15 #[.pointer (some ⟨g, 0, none⟩)] w fun e w' => ∃ A1 c1, e = .returned (.slice A1 z c1) ∧ St W w' g v bs gr vr rs at_ ∧
      Calls Try.prog 16 #[.slice A1 z c1, .slice A z cap] w' fun e w2 => e = .returned (.bool true) ∧ w' = w2 := by
  have hl : bs.length = z := by rw [hb]; simp; omega
  refine (St_Bytes h (by omega)).mono ?_
  rintro e w' ⟨A1, c1, rfl, hs, ho⟩
  rw [hl] at ho ⊢
  refine ⟨A1, c1, rfl, hs, ?_⟩
  have hsm := Same_any w' A1 A z z c1 cap bs (ps.take z) (Rd.of_owns ho) hl ((rd_front hr hz).2.below hs.bel) (by simp; omega)
  rw [show (bs == ps.take z) = true by rw [hb]; exact beq_self_eq_true _] at hsm
  exact hsm
end
theorem tm3 (k : Int) : (wrap64 (k.tmod 3 + 3)).tmod 3 = 0 ∨ (wrap64 (k.tmod 3 + 3)).tmod 3 = 1 ∨ (wrap64 (k.tmod 3 + 3)).tmod 3 = 2 := by
  have h1 := Int.tmod_lt_of_pos k (show (0 : Int) < 3 by decide)
  have h2 : -3 < k.tmod 3 := by
    rcases Int.lt_or_le k 0 with h | h
    · have := Int.tmod_lt_of_pos (-k) (show (0 : Int) < 3 by decide)
      rw [Int.neg_tmod] at this
      omega
    · have := Int.tmod_nonneg 3 h
      omega
  rw [show wrap64 (k.tmod 3 + 3) = k.tmod 3 + 3 by unfold wrap64; omega]
  generalize k.tmod 3 = r at *
  rcases (by omega : r = -2 ∨ r = -1 ∨ r = 0 ∨ r = 1 ∨ r = 2) with rfl | rfl | rfl | rfl | rfl <;> decide
set_option maxRecDepth 100000 in
theorem again_0_bad (A : Option Addr) (m cap : Nat) (bs : List UInt8) (kind : Int) (W : World) (hr : Rd W (.slice A m cap) m (bc bs)) (hm : bs.length = m) (hn : m + 2 ≤ 140737488355328) (hk : (wrap64 (kind.tmod 3 + 3)).tmod 3 = 0) (he : (rdAt bs 0).2.2 ≠ 0) :
    Calls Try.prog 5 #[.slice A m cap, .int .i64 kind] W fun e w' => e = .returned (.bool true) ∧ Below W.heap.size W w' := by
  have HS := Lib.hid (again_start A m cap bs W hr hm hn)
  have HKN := Lib.hid known_any
  have HE := Lib.hid he
  have HMX : Hid (bs.length ≤ 140737488355328) := by show _ ≤ _; omega
  have h1 : ((((rdAt bs 0).2.2 : Nat) : Int) == 0) = false := by simp; omega
  have h2 : decide (((rdAt bs 0).2.2) = 0) = false := by simpa using he
  have HP : Hid ((rdAt bs 0).2.2 ≠ 0 → 0 + (rdAt bs 0).2.1 = 0) := fun h => by have := ((rdAt_facts bs 0 (Nat.zero_le _)).2.2.2 h).2; omega
  clear he hr
  go_enter Try.func5, Try.ntmps5
  go_wp2_with (first
    | (go_at_call 18; (with_reducible refine HS.out.mono ?_); rintro e w1 ⟨q, c, rfl, hb1, h1⟩; have HS1 := Lib.hid h1; clear hb1 h1)
    | (go_at_call 17; (with_reducible refine HS1.out.mono ?_); rintro e w2 ⟨gr, vr, rfl, h1⟩; have HS2 := Lib.hid h1; clear h1)
    | (go_at_call 12; (with_reducible refine HS2.out.mono ?_); rintro e w3 ⟨g, rfl, h1⟩; have HS3 := Lib.hid h1; clear h1)
    | (go_at_call 11; (with_reducible refine (HKN.out _).mono ?_); rintro e w4 ⟨rfl, hb4⟩; have HS4 := Lib.hid (HS3.out.step hb4); clear hb4)
    | (go_at_call 20; (with_reducible refine (num_any _ _).mono ?_); rintro e w ⟨rfl, rfl⟩)
    | (go_at_call 19; (with_reducible refine (St_RNum HS4.out _ rfl).mono ?_); rintro e w5 ⟨rfl, hs5⟩; rw [HP.out HE.out] at hs5; have HS5 := Lib.hid hs5; clear hs5)
    | (go_at_call 26; (with_reducible refine (St_Place HS5.out 0 rfl).mono ?_); rintro e w ⟨rfl, rfl⟩)
    | (go_at_call 14; (with_reducible refine (St_Len HS5.out 0 rfl).mono ?_); rintro e w ⟨rfl, rfl⟩))
  go_ret
  exact ⟨rfl, HS5.out.bel⟩
set_option maxRecDepth 100000 in
theorem again_1_bad (A : Option Addr) (m cap : Nat) (bs : List UInt8) (kind : Int) (W : World) (hr : Rd W (.slice A m cap) m (bc bs)) (hm : bs.length = m) (hn : m + 2 ≤ 140737488355328) (hk : (wrap64 (kind.tmod 3 + 3)).tmod 3 = 1) (he : txE 1048576 bs 0 ≠ 0) :
    Calls Try.prog 5 #[.slice A m cap, .int .i64 kind] W fun e w' => e = .returned (.bool true) ∧ Below W.heap.size W w' := by
  have HS := Lib.hid (again_start A m cap bs W hr hm hn)
  have HKN := Lib.hid known_any
  have HE := Lib.hid he
  have HMX : Hid (bs.length ≤ 140737488355328) := by show _ ≤ _; omega
  have h1 : (((txE 1048576 bs 0 : Nat) : Int) == 0) = false := by simp; omega
  have h2 : decide ((txE 1048576 bs 0) = 0) = false := by simpa using he
  have HP : Hid ((rdAt bs 0).2.2 ≠ 0 → 0 + (rdAt bs 0).2.1 = 0) := fun h => by have := ((rdAt_facts bs 0 (Nat.zero_le _)).2.2.2 h).2; omega
  clear he hr
  go_enter Try.func5, Try.ntmps5
  go_wp2_with (first
    | (go_at_call 18; (with_reducible refine HS.out.mono ?_); rintro e w1 ⟨q, c, rfl, hb1, h1⟩; have HS1 := Lib.hid h1; clear hb1 h1)
    | (go_at_call 17; (with_reducible refine HS1.out.mono ?_); rintro e w2 ⟨gr, vr, rfl, h1⟩; have HS2 := Lib.hid h1; clear h1)
    | (go_at_call 12; (with_reducible refine HS2.out.mono ?_); rintro e w3 ⟨g, rfl, h1⟩; have HS3 := Lib.hid h1; clear h1)
    | (go_at_call 11; (with_reducible refine (HKN.out _).mono ?_); rintro e w4 ⟨rfl, hb4⟩; have HS4 := Lib.hid (HS3.out.step hb4); clear hb4)
    | (go_at_call 20; (with_reducible refine (num_any _ _).mono ?_); rintro e w ⟨rfl, rfl⟩)
    | (go_at_call 22; (with_reducible refine (St_RText_bad HS4.out 1048576 1048576 rfl (by decide) HMX.out HE.out).mono ?_); rintro e w5 ⟨rfl, hs5⟩; have HS5 := Lib.hid hs5; clear hs5)
    | (go_at_call 26; (with_reducible refine (St_Place HS5.out 0 rfl).mono ?_); rintro e w ⟨rfl, rfl⟩)
    | (go_at_call 14; (with_reducible refine (St_Len HS5.out 0 rfl).mono ?_); rintro e w ⟨rfl, rfl⟩))
  go_ret
  exact ⟨rfl, HS5.out.bel⟩
set_option maxRecDepth 100000 in
theorem again_2_bad (A : Option Addr) (m cap : Nat) (bs : List UInt8) (kind : Int) (W : World) (hr : Rd W (.slice A m cap) m (bc bs)) (hm : bs.length = m) (hn : m + 2 ≤ 140737488355328) (hk : (wrap64 (kind.tmod 3 + 3)).tmod 3 = 2) (he : rsE 1048576 bs 0 ≠ 0) :
    Calls Try.prog 5 #[.slice A m cap, .int .i64 kind] W fun e w' => e = .returned (.bool true) ∧ Below W.heap.size W w' := by
  have HS := Lib.hid (again_start A m cap bs W hr hm hn)
  have HKN := Lib.hid known_any
  have HE := Lib.hid he
  have HMX : Hid (bs.length ≤ 140737488355328) := by show _ ≤ _; omega
  have h1 : (((rsE 1048576 bs 0 : Nat) : Int) == 0) = false := by simp; omega
  have h2 : decide ((rsE 1048576 bs 0) = 0) = false := by simpa using he
  have HP : Hid ((rdAt bs 0).2.2 ≠ 0 → 0 + (rdAt bs 0).2.1 = 0) := fun h => by have := ((rdAt_facts bs 0 (Nat.zero_le _)).2.2.2 h).2; omega
  clear he hr
  go_enter Try.func5, Try.ntmps5
  go_wp2_with (first
    | (go_at_call 18; (with_reducible refine HS.out.mono ?_); rintro e w1 ⟨q, c, rfl, hb1, h1⟩; have HS1 := Lib.hid h1; clear hb1 h1)
    | (go_at_call 17; (with_reducible refine HS1.out.mono ?_); rintro e w2 ⟨gr, vr, rfl, h1⟩; have HS2 := Lib.hid h1; clear h1)
    | (go_at_call 12; (with_reducible refine HS2.out.mono ?_); rintro e w3 ⟨g, rfl, h1⟩; have HS3 := Lib.hid h1; clear h1)
    | (go_at_call 11; (with_reducible refine (HKN.out _).mono ?_); rintro e w4 ⟨rfl, hb4⟩; have HS4 := Lib.hid (HS3.out.step hb4); clear hb4)
    | (go_at_call 20; (with_reducible refine (num_any _ _).mono ?_); rintro e w ⟨rfl, rfl⟩)
    | (go_at_call 24; (with_reducible refine (St_RRising_bad HS4.out 1048576 1048576 rfl (by decide) (.inl (by decide)) HE.out).mono ?_); rintro e w5 ⟨rfl, hs5⟩; have HS5 := Lib.hid hs5; clear hs5)
    | (go_at_call 26; (with_reducible refine (St_Place HS5.out 0 rfl).mono ?_); rintro e w ⟨rfl, rfl⟩)
    | (go_at_call 14; (with_reducible refine (St_Len HS5.out 0 rfl).mono ?_); rintro e w ⟨rfl, rfl⟩))
  go_ret
  exact ⟨rfl, HS5.out.bel⟩
set_option maxRecDepth 100000 in
theorem again_0_ok (A : Option Addr) (m cap : Nat) (bs : List UInt8) (kind : Int) (W : World) (hr : Rd W (.slice A m cap) m (bc bs)) (hm : bs.length = m) (hn : m + 2 ≤ 140737488355328) (hk : (wrap64 (kind.tmod 3 + 3)).tmod 3 = 0) (he : (rdAt bs 0).2.2 = 0) :
    Calls Try.prog 5 #[.slice A m cap, .int .i64 kind] W fun e w' => e = .returned (.bool true) ∧ Below W.heap.size W w' := by
  have HS := Lib.hid (again_start A m cap bs W hr hm hn)
  have HKN := Lib.hid known_any
  have HE := Lib.hid he
  have HMX : Hid (bs.length ≤ 140737488355328) := by show _ ≤ _; omega
  have HRR := Lib.hid hr
  have HM := Lib.hid hm
  have HN : Hid (m ≤ 140737488355328) := by show _ ≤ _; omega
  obtain ⟨x, hx⟩ : ∃ x, x = (rdAt bs 0).1 := ⟨_, rfl⟩
  obtain ⟨z, hz⟩ : ∃ z, z = 0 + (rdAt bs 0).2.1 := ⟨_, rfl⟩
  have HX : Hid (x < 18446744073709551616) := by show _ < _; rw [hx]; exact (rdAt_facts bs 0 (Nat.zero_le _)).1
  have HT : Hid (∀ {w : World} {g gr : Nat} {v vr : Value}, St W w g v [] gr vr bs 0 → Calls Try.prog 19 #[.pointer (some ⟨gr, 0, none⟩)] w fun e w' => e = .returned (.tuple #[.int .u64 (x : Int), .int .i64 0]) ∧ St W w' g v [] gr vr bs z) := fun h => by
    have := St_RNum h 0 (by omega)
    rw [← hx, ← hz] at this
    exact this
  have hzm : z ≤ m := by rw [← hm, hz]; exact (rdAt_facts bs 0 (Nat.zero_le _)).2.1
  have HEQ : Hid ([] ++ num7 x = bs.take z) := by show _ = _; rw [hx, hz, rdAt_again bs 0 he]; unfold cut; simp
  clear hx hz
  have hzc := (rd_front hr hzm).1
  have HLE := Lib.hid hzm
  clear he hr hm hzm
  go_enter Try.func5, Try.ntmps5
  go_wp2_with (first
    | (go_at_call 18; (with_reducible refine HS.out.mono ?_); rintro e w1 ⟨q, c, rfl, hb1, h1⟩; have HS1 := Lib.hid h1; clear hb1 h1)
    | (go_at_call 17; (with_reducible refine HS1.out.mono ?_); rintro e w2 ⟨gr, vr, rfl, h1⟩; have HS2 := Lib.hid h1; clear h1)
    | (go_at_call 12; (with_reducible refine HS2.out.mono ?_); rintro e w3 ⟨g, rfl, h1⟩; have HS3 := Lib.hid h1; clear h1)
    | (go_at_call 11; (with_reducible refine (HKN.out _).mono ?_); rintro e w4 ⟨rfl, hb4⟩; have HS4 := Lib.hid (HS3.out.step hb4); clear hb4)
    | (go_at_call 20; (with_reducible refine (num_any _ _).mono ?_); rintro e w ⟨rfl, rfl⟩)
    | (go_at_call 19; (with_reducible refine (HT.out HS4.out).mono ?_); rintro e w5 ⟨rfl, hs5⟩; have HS5 := Lib.hid hs5; clear hs5)
    | (go_at_call 21; (with_reducible refine (St_Number HS5.out x _ rfl HX.out (by decide)).mono ?_); rintro e w6 ⟨rfl, v6, hs6⟩; have HS6 := Lib.hid hs6; clear hs6)
    | (go_at_call 15; (with_reducible refine (St_last HS6.out A m cap z bs HRR.out HM.out HLE.out HEQ.out HN.out).mono ?_); rintro e w7 ⟨A1, c1, rfl, hs7, hsm⟩; have HS7 := Lib.hid hs7; have HSM := Lib.hid hsm; clear hs7 hsm)
    | (go_at_call 26; (with_reducible refine (St_Place HS7.out _ rfl).mono ?_); rintro e w ⟨rfl, rfl⟩)
    | (go_at_call 16; (with_reducible refine HSM.out.mono ?_); rintro e w ⟨rfl, rfl⟩))
  go_ret
  exact ⟨rfl, HS7.out.bel⟩
set_option maxRecDepth 100000 in
theorem again_1_ok (A : Option Addr) (m cap : Nat) (bs : List UInt8) (kind : Int) (W : World) (hr : Rd W (.slice A m cap) m (bc bs)) (hm : bs.length = m) (hn : m + 2 ≤ 140737488355328) (hk : (wrap64 (kind.tmod 3 + 3)).tmod 3 = 1) (he : txE 1048576 bs 0 = 0) :
    Calls Try.prog 5 #[.slice A m cap, .int .i64 kind] W fun e w' => e = .returned (.bool true) ∧ Below W.heap.size W w' := by
  have HS := Lib.hid (again_start A m cap bs W hr hm hn)
  have HKN := Lib.hid known_any
  have HE := Lib.hid he
  have HMX : Hid (bs.length ≤ 140737488355328) := by show _ ≤ _; omega
  have HRR := Lib.hid hr
  have HM := Lib.hid hm
  have HN : Hid (m ≤ 140737488355328) := by show _ ≤ _; omega
  obtain ⟨t1, t2, t3⟩ := text_again bs 1048576 0 (Nat.zero_le _) he
  have hcl := cut_length bs (0 + (rdAt bs 0).2.1) (rdAt bs 0).1 t1
  obtain ⟨cs, hcs⟩ : ∃ cs, cs = cut bs (0 + (rdAt bs 0).2.1) (rdAt bs 0).1 := ⟨_, rfl⟩
  obtain ⟨z, hz⟩ : ∃ z, z = 0 + (rdAt bs 0).2.1 + (rdAt bs 0).1 := ⟨_, rfl⟩
  have HT : Hid (∀ {w : World} {g gr : Nat} {v vr : Value}, St W w g v [] gr vr bs 0 → Calls Try.prog 22 #[.pointer (some ⟨gr, 0, none⟩), .int .i64 1048576] w fun e w' => e = .returned (.tuple #[.string ⟨cs.toArray⟩, .int .i64 0]) ∧ St W w' g v [] gr vr bs z) := fun h => by
    have := St_RText_ok h 1048576 1048576 rfl (by decide) HMX.out he
    rw [← hcs, ← hz] at this
    exact this
  rw [← hcs] at hcl t2
  rw [← hz] at t1 t2
  have HSZ : Hid (([] : List UInt8).length + (⟨cs.toArray⟩ : ByteArray).size + 20 ≤ 140737488355328) := by
    show 0 + cs.toArray.size + 20 ≤ _
    rw [List.size_toArray, hcl]; omega
  have hzm : z ≤ m := by rw [← hm]; exact t1
  have HEQ : Hid ([] ++ (num7 (⟨cs.toArray⟩ : ByteArray).size ++ (⟨cs.toArray⟩ : ByteArray).data.toList) = bs.take z) := by
    show [] ++ (num7 cs.toArray.size ++ cs.toArray.toList) = _
    rw [List.size_toArray, hcl, List.toList_toArray, List.nil_append, t2, List.drop_zero]
  clear t1 t2 t3 hcl hcs hz
  have hzc := (rd_front hr hzm).1
  have HLE := Lib.hid hzm
  clear he hr hm hzm
  go_enter Try.func5, Try.ntmps5
  go_wp2_with (first
    | (go_at_call 18; (with_reducible refine HS.out.mono ?_); rintro e w1 ⟨q, c, rfl, hb1, h1⟩; have HS1 := Lib.hid h1; clear hb1 h1)
    | (go_at_call 17; (with_reducible refine HS1.out.mono ?_); rintro e w2 ⟨gr, vr, rfl, h1⟩; have HS2 := Lib.hid h1; clear h1)
    | (go_at_call 12; (with_reducible refine HS2.out.mono ?_); rintro e w3 ⟨g, rfl, h1⟩; have HS3 := Lib.hid h1; clear h1)
    | (go_at_call 11; (with_reducible refine (HKN.out _).mono ?_); rintro e w4 ⟨rfl, hb4⟩; have HS4 := Lib.hid (HS3.out.step hb4); clear hb4)
    | (go_at_call 20; (with_reducible refine (num_any _ _).mono ?_); rintro e w ⟨rfl, rfl⟩)
    | (go_at_call 22; (with_reducible refine (HT.out HS4.out).mono ?_); rintro e w5 ⟨rfl, hs5⟩; have HS5 := Lib.hid hs5; clear hs5)
    | (go_at_call 23; (with_reducible refine (St_Text HS5.out ⟨cs.toArray⟩ HSZ.out).mono ?_); rintro e w6 ⟨rfl, v6, hs6⟩; have HS6 := Lib.hid hs6; clear hs6)
    | (go_at_call 15; (with_reducible refine (St_last HS6.out A m cap z bs HRR.out HM.out HLE.out HEQ.out HN.out).mono ?_); rintro e w7 ⟨A1, c1, rfl, hs7, hsm⟩; have HS7 := Lib.hid hs7; have HSM := Lib.hid hsm; clear hs7 hsm)
    | (go_at_call 26; (with_reducible refine (St_Place HS7.out _ rfl).mono ?_); rintro e w ⟨rfl, rfl⟩)
    | (go_at_call 16; (with_reducible refine HSM.out.mono ?_); rintro e w ⟨rfl, rfl⟩))
  go_ret
  exact ⟨rfl, HS7.out.bel⟩
set_option maxRecDepth 100000 in
theorem again_2_ok (A : Option Addr) (m cap : Nat) (bs : List UInt8) (kind : Int) (W : World) (hr : Rd W (.slice A m cap) m (bc bs)) (hm : bs.length = m) (hn : m + 2 ≤ 140737488355328) (hk : (wrap64 (kind.tmod 3 + 3)).tmod 3 = 2) (he : rsE 1048576 bs 0 = 0) :
    Calls Try.prog 5 #[.slice A m cap, .int .i64 kind] W fun e w' => e = .returned (.bool true) ∧ Below W.heap.size W w' := by
  have HS := Lib.hid (again_start A m cap bs W hr hm hn)
  have HKN := Lib.hid known_any
  have HE := Lib.hid he
  have HMX : Hid (bs.length ≤ 140737488355328) := by show _ ≤ _; omega
  have HRR := Lib.hid hr
  have HM := Lib.hid hm
  have HN : Hid (m ≤ 140737488355328) := by show _ ≤ _; omega
  obtain ⟨t1, t2, t3, t4, t5, t6⟩ := ris_again bs 1048576 0 (Nat.zero_le _) he
  obtain ⟨L, hL⟩ : ∃ L, L = (rgL bs (rdAt bs 0).1 (0 + (rdAt bs 0).2.1) []).1 := ⟨_, rfl⟩
  obtain ⟨z, hz⟩ : ∃ z, z = (rgL bs (rdAt bs 0).1 (0 + (rdAt bs 0).2.1) []).2.1 := ⟨_, rfl⟩
  have HT : Hid (∀ {w : World} {g gr : Nat} {v vr : Value}, St W w g v [] gr vr bs 0 → Calls Try.prog 24 #[.pointer (some ⟨gr, 0, none⟩), .int .i64 1048576] w fun e w' => ∃ A c, e = .returned (.tuple #[.slice A L.length c, .int .i64 0]) ∧ Rd w' (.slice A L.length c) L.length (ic L) ∧ (∀ q off, A = some ⟨q, off, none⟩ → v.ownBlock ≠ some q) ∧ St W w' g v [] gr vr bs z) := fun h => by
    have := St_RRising_ok h 1048576 1048576 rfl (by decide) (.inl (by decide)) he
    rw [← hL, ← hz] at this
    refine this.mono ?_
    rintro e w' ⟨A, c, rfl, ho, hs⟩
    refine ⟨A, c, rfl, Rd.of_owns ho, fun q off e hq => ?_, hs⟩
    rcases own_own_ne ho hs.both.wr.own (by decide) with h1 | h1
    · subst e; simp [Value.ownBlock] at h1
    · subst e; exact h1 (by rw [hq]; rfl)
  rw [← hL] at t1 t3 t4 t5
  rw [← hz] at t2 t5
  have HRI := Lib.hid t3
  have HI := Lib.hid t4
  have HSZ : Hid (([] : List UInt8).length + 10 * L.length + 40 ≤ 140737488355328) := by
    show 0 + 10 * _ + 40 ≤ _
    omega
  have hzm : z ≤ m := by rw [← hm]; exact t2
  have HEQ : Hid ([] ++ ris L = bs.take z) := by
    show _ = _
    rw [List.nil_append, t5, List.drop_zero]
  clear t1 t2 t3 t4 t5 t6 hL hz
  have hzc := (rd_front hr hzm).1
  have HLE := Lib.hid hzm
  clear he hr hm hzm
  go_enter Try.func5, Try.ntmps5
  go_wp2_with (first
    | (go_at_call 18; (with_reducible refine HS.out.mono ?_); rintro e w1 ⟨q, c, rfl, hb1, h1⟩; have HS1 := Lib.hid h1; clear hb1 h1)
    | (go_at_call 17; (with_reducible refine HS1.out.mono ?_); rintro e w2 ⟨gr, vr, rfl, h1⟩; have HS2 := Lib.hid h1; clear h1)
    | (go_at_call 12; (with_reducible refine HS2.out.mono ?_); rintro e w3 ⟨g, rfl, h1⟩; have HS3 := Lib.hid h1; clear h1)
    | (go_at_call 11; (with_reducible refine (HKN.out _).mono ?_); rintro e w4 ⟨rfl, hb4⟩; have HS4 := Lib.hid (HS3.out.step hb4); clear hb4)
    | (go_at_call 20; (with_reducible refine (num_any _ _).mono ?_); rintro e w ⟨rfl, rfl⟩)
    | (go_at_call 24; (with_reducible refine (HT.out HS4.out).mono ?_); rintro e w5 ⟨A5, c5, rfl, ho5, hne5, hs5⟩; have HO5 := Lib.hid ho5; have HN5 := Lib.hid hne5; have HS5 := Lib.hid hs5; clear hs5 ho5 hne5)
    | (go_at_call 25; (with_reducible refine (St_Rising HS5.out _ c5 A5 L HO5.out rfl HN5.out HI.out HSZ.out).mono ?_); rintro e w6 ⟨hk6, _⟩; obtain ⟨rfl, v6, hs6⟩ := hk6 HRI.out; have HS6 := Lib.hid hs6; clear hs6 hk6)
    | (go_at_call 15; (with_reducible refine (St_last HS6.out A m cap z bs HRR.out HM.out HLE.out HEQ.out HN.out).mono ?_); rintro e w7 ⟨A1, c1, rfl, hs7, hsm⟩; have HS7 := Lib.hid hs7; have HSM := Lib.hid hsm; clear hs7 hsm)
    | (go_at_call 26; (with_reducible refine (St_Place HS7.out _ rfl).mono ?_); rintro e w ⟨rfl, rfl⟩)
    | (go_at_call 16; (with_reducible refine HSM.out.mono ?_); rintro e w ⟨rfl, rfl⟩))
  go_ret
  exact ⟨rfl, HS7.out.bel⟩
theorem wireAgain_any (A : Option Addr) (m cap : Nat) (bs : List UInt8) (kind : Int) (W : World) (hr : Rd W (.slice A m cap) m (bc bs)) (hm : bs.length = m) (hn : m + 2 ≤ 140737488355328) :
    Calls Try.prog 5 #[.slice A m cap, .int .i64 kind] W fun e w' => e = .returned (.bool true) ∧ Below W.heap.size W w' := by
  rcases tm3 kind with h | h | h
  · by_cases he : (rdAt bs 0).2.2 = 0
    · exact again_0_ok A m cap bs kind W hr hm hn h he
    · exact again_0_bad A m cap bs kind W hr hm hn h he
  · by_cases he : txE 1048576 bs 0 = 0
    · exact again_1_ok A m cap bs kind W hr hm hn h he
    · exact again_1_bad A m cap bs kind W hr hm hn h he
  · by_cases he : rsE 1048576 bs 0 = 0
    · exact again_2_ok A m cap bs kind W hr hm hn h he
    · exact again_2_bad A m cap bs kind W hr hm hn h he
end Go.Proofs.Ytmcgagjjgomkeaa
