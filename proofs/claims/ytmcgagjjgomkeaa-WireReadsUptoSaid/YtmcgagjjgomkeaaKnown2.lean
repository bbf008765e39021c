/- A writer and a reader made in the course of a walk. -/
import Derived.Test.YtmcgagjjgomkeaaKnown
namespace Go.Proofs.Ytmcgagjjgomkeaa
open Go.RowKit Go.Lib

/-- Since W there have come a writer and a reader; nothing else has turned. -/
structure St (W w : World) (g : Nat) (v : Value) (bs : List UInt8) (gr : Nat) (vr : Value) (rs : List UInt8) (at_ : Nat) : Prop where
  both : Both w W.heap.size g v bs gr vr rs at_
  bel : Below W.heap.size W w
  hg : W.heap.size ≤ g
  hgr : W.heap.size ≤ gr
section
variable {W w w' : World} {g gr at_ : Nat} {v vr v' : Value} {bs rs bs' : List UInt8}
theorem St.size (h : St W w g v bs gr vr rs at_) : W.heap.size ≤ w.heap.size := h.bel.size
theorem St.write (h : St W w g v bs gr vr rs at_) (hw : Wr w' W.heap.size g v' bs') (hc : Wch w w' g v v') : St W w' g v' bs' gr vr rs at_ :=
  ⟨h.both.write hw hc, h.bel.trans (hc.below h.size h.hg (fun _ e => (h.both.wr.own.lt _ e).1)), h.hg, h.hgr⟩
theorem St.step (h : St W w g v bs gr vr rs at_) (hb : Below w.heap.size w w') : St W w' g v bs gr vr rs at_ := ⟨h.both.below hb, h.bel.trans (hb.mono h.size), h.hg, h.hgr⟩
theorem St.read (h : St W w g v bs gr vr rs at_) (n : Nat) (hn : n ≤ rs.length) : St W (w.setCell ⟨gr, 1, none⟩ (.int .i64 (n : Int))) g v bs gr vr rs n := ⟨h.both.read n hn, h.bel.setCell (p := ⟨gr, 1, none⟩) h.hgr _, h.hg, h.hgr⟩
theorem St.lit (h : St W w g v bs gr vr rs at_) : ∀ q off, (some ⟨w.heap.size, 0, none⟩ : Option Addr) = some ⟨q, off, none⟩ → v.ownBlock ≠ some q := by
  intro q off e hq
  cases e
  have := (h.both.wr.own.lt _ hq).2
  omega

theorem St_Number (h : St W w g v bs gr vr rs at_) (x : Nat) (z : Int) (hz : z = (x : Int)) (hx : x < 18446744073709551616) (hn : bs.length + 20 ≤ 140737488355328) :
    Calls Try.prog 21 #[.pointer (some ⟨g, 0, none⟩), .int .u64 z] w fun e w' => e = .returned (.int .i64 0) ∧ ∃ v', St W w' g v' (bs ++ num7 x) gr vr rs at_ := by
  subst hz
  exact (Number_any W.heap.size g x v bs w h.both.wr h.size hx hn).mono (by rintro e w' ⟨rfl, v', hw, hc⟩; exact ⟨rfl, v', h.write hw hc⟩)
theorem St_Signed (h : St W w g v bs gr vr rs at_) (x : Int) (h1 : -9223372036854775808 ≤ x) (h2 : x ≤ 9223372036854775807) (hn : bs.length + 20 ≤ 140737488355328) :
    Calls Try.prog 33 #[.pointer (some ⟨g, 0, none⟩), .int .i64 x] w fun e w' => e = .returned (.int .i64 0) ∧ ∃ v', St W w' g v' (bs ++ num7 (zig x)) gr vr rs at_ :=
  (Signed_any W.heap.size g x v bs w h.both.wr h.size h1 h2 hn).mono (by rintro e w' ⟨rfl, v', hw, hc⟩; exact ⟨rfl, v', h.write hw hc⟩)
theorem St_Text (h : St W w g v bs gr vr rs at_) (s : ByteArray) (hn : bs.length + s.size + 20 ≤ 140737488355328) :
    Calls Try.prog 23 #[.pointer (some ⟨g, 0, none⟩), .string s] w fun e w' => e = .returned (.int .i64 0) ∧ ∃ v', St W w' g v' (bs ++ (num7 s.size ++ s.data.toList)) gr vr rs at_ :=
  (Text_any W.heap.size g s v bs w h.both.wr h.size hn).mono (by rintro e w' ⟨rfl, v', hw, hc⟩; exact ⟨rfl, v', h.write hw hc⟩)
theorem St_Rising (h : St W w g v bs gr vr rs at_) (m cap : Nat) (A : Option Addr) (l : List Int) (hr : Rd w (.slice A m cap) m (ic l)) (hml : l.length = m) (hne : ∀ q off, A = some ⟨q, off, none⟩ → v.ownBlock ≠ some q) (hrg : ∀ x ∈ l, I64 x) (hn : bs.length + 10 * m + 40 ≤ 140737488355328) :
    Calls Try.prog 25 #[.pointer (some ⟨g, 0, none⟩), .slice A m cap] w fun e w' =>
      (Rises l → e = .returned (.int .i64 0) ∧ ∃ v', St W w' g v' (bs ++ ris l) gr vr rs at_) ∧ (¬ Rises l → e = .returned (.int .i64 112) ∧ St W w' g v bs gr vr rs at_) :=
  (Rising_any W.heap.size g m cap A v bs l w h.both.wr h.size hr hml hne hrg hn).mono (by
    rintro e w' ⟨k1, k2⟩
    refine ⟨fun hr => ?_, fun hr => ?_⟩
    · obtain ⟨rfl, v', hw, hc⟩ := k1 hr
      exact ⟨rfl, v', h.write hw hc⟩
    · obtain ⟨rfl, hw, hc⟩ := k2 hr
      exact ⟨rfl, h.write hw hc⟩)
theorem St_RNumber (h : St W w g v bs gr vr rs at_) (x n z : Nat) (zx ze : Int) (hr : rdN 0 0 (rs.drop at_) = (x, n, z)) (hzx : zx = (x : Int)) (hze : ze = (z : Int)) (hx : z ≠ 0 → x = 0 ∧ n = 0) (hle : at_ + n ≤ rs.length) :
    Calls Try.prog 19 #[.pointer (some ⟨gr, 0, none⟩)] w fun e w' => e = .returned (.tuple #[.int .u64 zx, .int .i64 ze]) ∧ St W w' g v bs gr vr rs (at_ + n) := by
  refine (RNumber_any W.heap.size gr at_ vr rs w h.both.rd).mono ?_
  rintro e w' ⟨k1, k2⟩
  rw [hr] at k1 k2
  subst hzx hze
  by_cases h0 : z = 0
  · obtain ⟨rfl, rfl⟩ := k1 h0
    subst h0
    exact ⟨rfl, h.read _ hle⟩
  · obtain ⟨rfl, rfl⟩ := k2 h0
    obtain ⟨rfl, rfl⟩ := hx h0
    exact ⟨rfl, h⟩
theorem St_Place (h : St W w g v bs gr vr rs at_) (z : Int) (hz : z = (at_ : Int)) : Calls Try.prog 26 #[.pointer (some ⟨gr, 0, none⟩)] w fun e w' => e = .returned (.int .i64 z) ∧ w = w' := by subst hz; exact Place_any W.heap.size gr at_ vr rs w h.both.rd
theorem St_Left (h : St W w g v bs gr vr rs at_) (z : Int) (hz : z = ((rs.length - at_ : Nat) : Int)) : Calls Try.prog 28 #[.pointer (some ⟨gr, 0, none⟩)] w fun e w' => e = .returned (.int .i64 z) ∧ St W w' g v bs gr vr rs at_ := by
  subst hz
  exact (Left_any W.heap.size gr at_ vr rs w h.both.rd).mono (by rintro e w' ⟨rfl, hb⟩; exact ⟨rfl, h.step hb⟩)
theorem St_Len (h : St W w g v bs gr vr rs at_) (z : Int) (hz : z = (bs.length : Int)) : Calls Try.prog 14 #[.pointer (some ⟨g, 0, none⟩)] w fun e w' => e = .returned (.int .i64 z) ∧ w = w' := by subst hz; exact Len_any W.heap.size g v bs w h.both.wr
theorem St_Bytes (h : St W w g v bs gr vr rs at_) (hn : bs.length ≤ 140737488355328) : Calls Try.prog 15 #[.pointer (some ⟨g, 0, none⟩)] w fun e w' => ∃ A c, e = .returned (.slice A bs.length c) ∧ St W w' g v bs gr vr rs at_ ∧ w'.ownsRow w.heap.size 5 1 (.slice A bs.length c) bs.length (bc bs) :=
  (Bytes_any W.heap.size g v bs w h.both.wr hn).mono (by
    rintro e w' ⟨v', rfl, hb, ho⟩
    obtain ⟨A, c, rfl, _, _⟩ := ownsRow_shape ho
    exact ⟨A, c, rfl, h.step hb, ho⟩)
end
theorem St_new {W w1 w2 : World} {g gr : Nat} {vr : Value} {rs : List UInt8} (hb1 : Below W.heap.size W w1) (hg : W.heap.size ≤ g) (hw : Wr w1 W.heap.size g (.slice none 0 0) []) (hb2 : Below w1.heap.size w1 w2) (hgr : w1.heap.size ≤ gr) (hr : Rr w2 w1.heap.size gr vr rs 0) : St W w2 g (.slice none 0 0) [] gr vr rs 0 :=
  ⟨⟨hw.below hb2, ⟨hr.blk, own_mono hr.own hb1.size, hr.le⟩, by rcases h : vr.ownBlock with _ | q; exact .inl rfl; exact .inr (by rw [show (Value.slice none 0 0).ownBlock = none from rfl]; simp)⟩, hb1.trans (hb2.mono hb1.size), hg, Nat.le_trans hb1.size hgr⟩
theorem NewReader_lit (w1 : World) (cs : Array Value) (n : Nat) (rs : List UInt8) (hn : n ≤ 1000) (hs : cs.size = n) (hx : cs.toList = bc rs) (hl : rs.length = n) : Calls Try.prog 17 #[.slice (some ⟨w1.heap.size, 0, none⟩) n n] (w1.alloc (.cells cs 5)) fun e w' => ∃ g v, e = .returned (.pointer (some ⟨g, 0, none⟩)) ∧ Below w1.heap.size w1 w' ∧ w1.heap.size ≤ g ∧ Rr w' w1.heap.size g v rs 0 :=
  (NewReader_any (some ⟨w1.heap.size, 0, none⟩) n n rs _ (rd_lit8 w1 cs n rs hn hs hx) hl (by omega)).mono (by
    rintro e w' ⟨g, v, rfl, hb, hg, hr⟩
    have hs := (below_alloc w1 (.cells cs 5)).size
    exact ⟨g, v, rfl, below_trans (below_alloc w1 _) hb, by omega, ⟨hr.blk, own_mono hr.own hs, hr.le⟩⟩)
end Go.Proofs.Ytmcgagjjgomkeaa
