/- The program's reader and the document's, side by side; what each reads. -/
import Derived.Test.YtmcgagjjgomkeaaDf4
import Derived.Test.YtmcgagjjgomkeaaOpen
namespace Go.Proofs.Ytmcgagjjgomkeaa
open Go.RowKit Go.Lib

/-- Two readers of the same bytes, each at its place. -/
structure Tw (W0 w : World) (g d : Nat) (v : Value) (A : Option Addr) (m cap : Nat) (bs : List UInt8) (a b : Nat) : Prop where
  r : Rr w W0.heap.size g v bs a
  d : Df W0 w d A m cap bs b
  hg : W0.heap.size ≤ g
section
variable {W0 w w' : World} {g d : Nat} {v : Value} {A : Option Addr} {m cap : Nat} {bs : List UInt8} {a b c : Nat}
theorem Tw.ne (h : Tw W0 w g d v A m cap bs a b) : g ≠ d := h.r.blk.ne h.d.blk (by decide)
theorem Tw.below (h : Tw W0 w g d v A m cap bs a b) (hb : Below w.heap.size w w') : Tw W0 w' g d v A m cap bs a b := ⟨h.r.below hb, h.d.below hb, h.hg⟩
theorem Tw.rs (h : Tw W0 w g d v A m cap bs a b) (hr : Rr w' W0.heap.size g v bs c) (hgr : w.grownBy w' (some g)) : Tw W0 w' g d v A m cap bs c b :=
  ⟨hr, h.d.grown hgr (fun x e => by cases e; exact ⟨h.hg, h.ne⟩), h.hg⟩
theorem Tw.ds (h : Tw W0 w g d v A m cap bs a b) (hd : Df W0 w' d A m cap bs c) (hgr : w.grownBy w' (some d)) : Tw W0 w' g d v A m cap bs a c :=
  ⟨⟨h.r.blk.grown hgr (fun e => by cases e; exact h.ne rfl), h.r.own.kept hgr (.inr (own_bk_ne h.r.own h.d.blk (by decide))), h.r.le⟩, hd, h.hg⟩
/-- What came behind these readers were there may turn. -/
theorem Tw.later {w0 : World} {a0 b0 : Nat} (h0 : Tw W0 w0 g d v A m cap bs a0 b0) (h : Tw W0 w g d v A m cap bs a b) (hb : Below w0.heap.size w w') : Tw W0 w' g d v A m cap bs a b := by
  have hlt : ∀ q, v.ownBlock = some q → q < w0.heap.size := fun q e => (own_lt h0.r.own e).2
  refine ⟨⟨(hb.block g h0.r.blk.lt).trans h.r.blk, ?_, h.r.le⟩, ⟨(hb.block d h0.d.blk.lt).trans h.d.blk, h.d.rd, h.d.len, h.d.le, h.d.bel.trans (hb.mono h0.d.bel.size), h.d.hd⟩, h.hg⟩
  refine ⟨h.r.own.1, ?_⟩
  rcases h.r.own.2 with h2 | ⟨q, c', cur, hv, h3, h4, h5⟩
  · exact .inl h2
  · exact .inr ⟨q, c', cur, hv, h3, (hb.block q (hlt q (by rw [hv]; rfl))).trans h4, h5⟩
theorem rn (W : World) : Rd W (.slice none 0 0) 0 [] := ⟨none, 0, rfl, Nat.le_refl _, by decide, fun h => by omega⟩
variable {at_ : Nat}
theorem pair_Byte (hle : at_ ≤ m) (hlen : bs.length = m) (hmax : bs.length ≤ 140737488355328) : ∃ (x : Int) (E c : Nat),
    (∀ w, Rr w W0.heap.size g v bs at_ → Calls Try.prog 59 #[.pointer (some ⟨g, 0, none⟩)] w fun e w' => e = .returned (.tuple #[.int .u8 x, .int .i64 (E : Int)]) ∧ Rr w' W0.heap.size g v bs c ∧ w.grownBy w' (some g)) ∧
    (∀ w, Df W0 w d A m cap bs at_ → Calls Try.prog 60 #[.pointer (some ⟨d, 0, none⟩)] w fun e w' => e = .returned (.tuple #[.int .u8 x, .int .i64 (E : Int)]) ∧ Df W0 w' d A m cap bs c ∧ w.grownBy w' (some d)) := by
  rcases hb : bs[at_]? with _ | b
  · have hge : m ≤ at_ := by
      rw [List.getElem?_eq_none_iff] at hb
      omega
    exact ⟨0, 110, at_, fun w h => (RByte_end _ g at_ v bs w h (by omega)).mono (by rintro e w' ⟨rfl, hb⟩; exact ⟨rfl, h.below hb, only_of_below hb _⟩), fun w h => (dByte_end h hge).mono (by rintro e w' ⟨rfl, hb⟩; exact ⟨rfl, h.below hb, only_of_below hb _⟩)⟩
  · exact ⟨(b.toNat : Int), 0, at_ + 1, fun w h => RByte_ok _ g at_ b v bs w h hb hmax, fun w h => dByte_ok b h hb⟩
theorem pair_Number : ∃ (x : Int) (E c : Nat),
    (∀ w, Rr w W0.heap.size g v bs at_ → Calls Try.prog 19 #[.pointer (some ⟨g, 0, none⟩)] w fun e w' => e = .returned (.tuple #[.int .u64 x, .int .i64 (E : Int)]) ∧ Rr w' W0.heap.size g v bs c ∧ w.grownBy w' (some g)) ∧
    (∀ w, Df W0 w d A m cap bs at_ → Calls Try.prog 61 #[.pointer (some ⟨d, 0, none⟩)] w fun e w' => e = .returned (.tuple #[.int .u64 x, .int .i64 (E : Int)]) ∧ Df W0 w' d A m cap bs c ∧ w.grownBy w' (some d)) :=
  ⟨_, _, _, fun w h => RNumber_g _ g at_ v bs w h, fun w h => dNumber_g h⟩
theorem pair_Signed : ∃ (x : Int) (E c : Nat),
    (∀ w, Rr w W0.heap.size g v bs at_ → Calls Try.prog 56 #[.pointer (some ⟨g, 0, none⟩)] w fun e w' => e = .returned (.tuple #[.int .i64 x, .int .i64 (E : Int)]) ∧ Rr w' W0.heap.size g v bs c ∧ w.grownBy w' (some g)) ∧
    (∀ w, Df W0 w d A m cap bs at_ → Calls Try.prog 62 #[.pointer (some ⟨d, 0, none⟩)] w fun e w' => e = .returned (.tuple #[.int .i64 x, .int .i64 (E : Int)]) ∧ Df W0 w' d A m cap bs c ∧ w.grownBy w' (some d)) :=
  ⟨_, _, _, fun w h => RSigned_g _ g at_ v bs w h, fun w h => dSigned_g h⟩
theorem four_of (bs : List UInt8) (at_ : Nat) (h : at_ + 4 ≤ bs.length) : ∃ a b c d, (bs.take (at_ + 4)).drop at_ = [a, b, c, d] := by
  have hl : ((bs.take (at_ + 4)).drop at_).length = 4 := by simp; omega
  match hx : (bs.take (at_ + 4)).drop at_, hl with
  | [a, b, c, d], _ => exact ⟨a, b, c, d, rfl⟩
theorem pair_Fixed (hle : at_ ≤ m) (hlen : bs.length = m) (hmax : bs.length ≤ 140737488355328) : ∃ (x : Int) (E c : Nat),
    (∀ w, Rr w W0.heap.size g v bs at_ → Calls Try.prog 57 #[.pointer (some ⟨g, 0, none⟩)] w fun e w' => e = .returned (.tuple #[.int .u32 x, .int .i64 (E : Int)]) ∧ Rr w' W0.heap.size g v bs c ∧ w.grownBy w' (some g)) ∧
    (∀ w, Df W0 w d A m cap bs at_ → Calls Try.prog 64 #[.pointer (some ⟨d, 0, none⟩)] w fun e w' => e = .returned (.tuple #[.int .u32 x, .int .i64 (E : Int)]) ∧ Df W0 w' d A m cap bs c ∧ w.grownBy w' (some d)) := by
  by_cases hb : m - at_ < 4
  · exact ⟨0, 110, at_, fun w h => (RFixed_end _ g at_ v bs w h (by omega)).mono (by rintro e w' ⟨rfl, hb⟩; exact ⟨rfl, h.below hb, only_of_below hb _⟩), fun w h => (dFixed_end h hb).mono (by rintro e w' ⟨rfl, hb⟩; exact ⟨rfl, h.below hb, only_of_below hb _⟩)⟩
  · obtain ⟨x0, x1, x2, x3, hx⟩ := four_of bs at_ (by omega)
    exact ⟨_, 0, at_ + 4, fun w h => RFixed_ok _ g at_ x0 x1 x2 x3 v bs w h hx (by omega) hmax, fun w h => dFixed_ok x0 x1 x2 x3 h hx (by omega)⟩
theorem pair_Text (n : Int) (hn : n ≤ 9223372036854775807) (hmax : bs.length ≤ 140737488355328) : ∃ (x : ByteArray) (E c : Nat),
    (∀ w, Rr w W0.heap.size g v bs at_ → Calls Try.prog 22 #[.pointer (some ⟨g, 0, none⟩), .int .i64 n] w fun e w' => e = .returned (.tuple #[.string x, .int .i64 (E : Int)]) ∧ Rr w' W0.heap.size g v bs c ∧ w.grownBy w' (some g)) ∧
    (∀ w, Df W0 w d A m cap bs at_ → Calls Try.prog 63 #[.pointer (some ⟨d, 0, none⟩), .int .i64 n] w fun e w' => e = .returned (.tuple #[.string x, .int .i64 (E : Int)]) ∧ Df W0 w' d A m cap bs c ∧ w.grownBy w' (some d)) := by
  by_cases hneg : n < 0
  · exact ⟨_, 2, at_, fun w h => (Text_neg g n hneg w).mono (by rintro e w' ⟨rfl, hb⟩; exact ⟨rfl, h.below hb, only_of_below hb _⟩), fun w h => dText_neg n hneg h⟩
  · obtain ⟨mo, rfl⟩ : ∃ mo : Nat, n = (mo : Int) := ⟨n.toNat, by omega⟩
    by_cases he : txE mo bs at_ = 0
    · exact ⟨_, 0, _, fun w h => Text_ok _ g at_ mo v bs w h (by omega) hmax he, fun w h => dText_ok mo (by omega) h he⟩
    · exact ⟨_, _, at_, fun w h => Text_bad _ g at_ mo v bs w h (by omega) hmax he, fun w h => dText_bad mo (by omega) h he⟩
theorem pair_Rising (n : Int) (hn : n ≤ 9223372036854775807) (hmax : bs.length ≤ 1099511627776) : ∃ (l : List Int) (E c : Nat),
    (∀ w, Rr w W0.heap.size g v bs at_ → Calls Try.prog 24 #[.pointer (some ⟨g, 0, none⟩), .int .i64 n] w fun e w' => ∃ q, e = .returned (.tuple #[q, .int .i64 (E : Int)]) ∧ w'.ownsRow w.heap.size 2 1 q l.length (ic l) ∧ Rr w' W0.heap.size g v bs c ∧ w.grownBy w' (some g)) ∧
    (∀ w, Df W0 w d A m cap bs at_ → Calls Try.prog 65 #[.pointer (some ⟨d, 0, none⟩), .int .i64 n] w fun e w' => ∃ q, e = .returned (.tuple #[q, .int .i64 (E : Int)]) ∧ w'.ownsRow w.heap.size 2 1 q l.length (ic l) ∧ Df W0 w' d A m cap bs c ∧ w.grownBy w' (some d)) := by
  by_cases hneg : n < 0
  · exact ⟨[], 2, at_, fun w h => (RRising_neg g n hneg w).mono (by rintro e w' ⟨rfl, hb⟩; exact ⟨_, rfl, World.ownsRow_nil _ _ _ _, h.below hb, only_of_below hb _⟩), fun w h => (dRising_neg n hneg h).mono (by rintro e w' ⟨rfl, h1, h2⟩; exact ⟨_, rfl, World.ownsRow_nil _ _ _ _, h1, h2⟩)⟩
  · obtain ⟨mo, rfl⟩ : ∃ mo : Nat, n = (mo : Int) := ⟨n.toNat, by omega⟩
    have hmo : mo ≤ 9223372036854775807 := by omega
    by_cases he : rsE mo bs at_ = 0
    · have h0 : hdE mo (rdAt bs at_) = 0 := by
        unfold rsE at he
        rcases Nat.decEq (hdE mo (rdAt bs at_)) 0 with h | h
        · rw [if_neg h] at he; exact absurd he h
        · exact h
      have hz : (rgL bs (rdAt bs at_).1 (at_ + (rdAt bs at_).2.1) []).2.2 = 0 := by
        unfold rsE at he
        rw [if_pos h0] at he
        exact he
      exact ⟨_, 0, _, fun w h => RRising_ok _ g at_ mo v bs w h hmo (.inr hmax) he, fun w h => (dRising_list mo hmo h h0 hmax).mono (by
        rintro e w' ⟨h1, -, h2⟩
        obtain ⟨h3, q, rfl, h4⟩ := h2 hz
        exact ⟨q, rfl, h4, h3, h1⟩)⟩
    · by_cases h0 : hdE mo (rdAt bs at_) = 0
      · have hE : rsE mo bs at_ = (rgL bs (rdAt bs at_).1 (at_ + (rdAt bs at_).2.1) []).2.2 := by unfold rsE; rw [if_pos h0]
        exact ⟨[], _, at_, fun w h => (RRising_bad _ g at_ mo v bs w h hmo (.inr hmax) he).mono (by rintro e w' ⟨rfl, h1, h2⟩; exact ⟨_, rfl, World.ownsRow_nil _ _ _ _, h1, h2⟩), fun w h => (dRising_list mo hmo h h0 hmax).mono (by
          rintro e w' ⟨h1, h2, -⟩
          obtain ⟨rfl, h3⟩ := h2 (by rw [← hE]; exact he)
          exact ⟨_, by rw [← hE], World.ownsRow_nil _ _ _ _, h3, h1⟩)⟩
      · have hE : rsE mo bs at_ = hdE mo (rdAt bs at_) := by unfold rsE; rw [if_neg h0]
        exact ⟨[], _, at_, fun w h => (RRising_bad _ g at_ mo v bs w h hmo (.inr hmax) he).mono (by rintro e w' ⟨rfl, h1, h2⟩; exact ⟨_, rfl, World.ownsRow_nil _ _ _ _, h1, h2⟩), fun w h => (dRising_head mo hmo h h0).mono (by
          rintro e w' ⟨rfl, h1, h2⟩
          exact ⟨_, by rw [← hE], World.ownsRow_nil _ _ _ _, h1, h2⟩)⟩
theorem pair_Raw (n : Int) (hle : at_ ≤ m) (hlen : bs.length = m) (hmax : bs.length ≤ 140737488355328) : ∃ (l : List UInt8) (E c : Nat), l.length ≤ bs.length ∧
    (∀ w, Rr w W0.heap.size g v bs at_ → Calls Try.prog 50 #[.pointer (some ⟨g, 0, none⟩), .int .i64 n] w fun e w' => ∃ q, e = .returned (.tuple #[q, .int .i64 (E : Int)]) ∧ w'.ownsRow w.heap.size 5 1 q l.length (bc l) ∧ Rr w' W0.heap.size g v bs c ∧ w.grownBy w' (some g)) ∧
    (∀ w, Df W0 w d A m cap bs at_ → Calls Try.prog 66 #[.pointer (some ⟨d, 0, none⟩), .int .i64 n] w fun e w' => ∃ A' c', e = .returned (.tuple #[.slice A' l.length c', .int .i64 (E : Int)]) ∧ Rd W0 (.slice A' l.length c') l.length (bc l) ∧ Df W0 w' d A m cap bs c ∧ w.grownBy w' (some d)) := by
  by_cases hneg : n < 0
  · exact ⟨[], 2, at_, Nat.zero_le _, fun w h => (Raw_neg _ n hneg w).mono (by rintro e w' ⟨rfl, rfl⟩; exact ⟨_, rfl, World.ownsRow_nil _ _ _ _, h, only_refl _ _⟩), fun w h => (dRaw_neg _ n hneg w).mono (by rintro e w' ⟨rfl, rfl⟩; exact ⟨none, 0, rfl, rn _, h, only_refl _ _⟩)⟩
  · by_cases hmo : ((m - at_ : Nat) : Int) < n
    · exact ⟨[], 110, at_, Nat.zero_le _, fun w h => (Raw_more _ g at_ n v bs w h (by rw [hlen]; exact hmo)).mono (by rintro e w' ⟨rfl, hb⟩; exact ⟨_, rfl, World.ownsRow_nil _ _ _ _, h.below hb, only_of_below hb _⟩), fun w h => (dRaw_more n h hmo).mono (by rintro e w' ⟨rfl, hb⟩; exact ⟨none, 0, rfl, rn _, h.below hb, only_of_below hb _⟩)⟩
    · obtain ⟨k, rfl⟩ : ∃ k : Nat, n = (k : Int) := ⟨n.toNat, by omega⟩
      have hk : at_ + k ≤ bs.length := by omega
      have hl := cut_length bs at_ k hk
      refine ⟨cut bs at_ k, 0, at_ + k, by omega, fun w h => (Raw_ok _ g at_ k v bs w h hk hmax).mono ?_, fun w h => (dRaw_ok k h (by omega)).mono ?_⟩
      · rintro e w' ⟨q, rfl, h1, h2, h3⟩
        exact ⟨q, rfl, by rw [hl]; exact h3, h1, h2⟩
      · rintro e w' ⟨A', c', rfl, h1, h2, h3⟩
        exact ⟨A', c', by rw [hl]; rfl, by rw [hl]; exact h3, h1, h2⟩
end
end Go.Proofs.Ytmcgagjjgomkeaa
