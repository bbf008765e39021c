/- A writer and a reader side by side; the known forms. -/
import Derived.Test.YtaechgnjdjijkaaSame
namespace Go.Proofs.Ytaechgnjdjijkaa
open Go.RowKit Go.Lib

/-- A writer and a reader, apart. -/
structure Both (W : World) (B g : Nat) (v : Value) (bs : List UInt8) (gr : Nat) (vr : Value) (rs : List UInt8) (at_ : Nat) : Prop where
  wr : Wr W B g v bs
  rd : Rr W B gr vr rs at_
  ap : vr.ownBlock = none ∨ vr.ownBlock ≠ v.ownBlock
theorem Both.ne {W : World} {B g gr at_ : Nat} {v vr : Value} {bs rs : List UInt8} (h : Both W B g v bs gr vr rs at_) : gr ≠ g := by
  intro e
  have h1 := h.wr.blk
  have h2 := h.rd.blk
  subst e
  have := h1.symm.trans h2
  simp at this
theorem Both.below {W W' : World} {B g gr at_ : Nat} {v vr : Value} {bs rs : List UInt8} (h : Both W B g v bs gr vr rs at_) (hb : Below W.heap.size W W') : Both W' B g v bs gr vr rs at_ := ⟨h.wr.below hb, h.rd.below hb, h.ap⟩
theorem Both.write {W W' : World} {B g gr at_ : Nat} {v vr v' : Value} {bs rs bs' : List UInt8} (h : Both W B g v bs gr vr rs at_) (hw : Wr W' B g v' bs') (hc : Wch W W' g v v') : Both W' B g v' bs' gr vr rs at_ := by
  refine ⟨hw, ⟨h.rd.blk.wch hc h.ne (own_bk_ne h.wr.own h.rd.blk (by decide)), own_wch h.rd.own hc (own_bk_ne h.rd.own h.wr.blk (by decide)) h.ap, h.rd.le⟩, ?_⟩
  rcases h.ap with h1 | h1
  · exact .inl h1
  · refine Classical.or_iff_not_imp_left.2 fun hne he => ?_
    obtain ⟨r, hr⟩ := Option.ne_none_iff_exists'.1 hne
    rcases hc.at_ r (he ▸ hr) with h2 | h2
    · exact h1 (hr.trans h2.symm)
    · have := (h.rd.own.lt r hr).2
      omega
theorem Both.read {W : World} {B g gr at_ : Nat} {v vr : Value} {bs rs : List UInt8} (h : Both W B g v bs gr vr rs at_) (n : Nat) (hn : n ≤ rs.length) : Both (W.setCell ⟨gr, 1, none⟩ (.int .i64 (n : Int))) B g v bs gr vr rs n :=
  ⟨⟨h.wr.blk.far (p := ⟨gr, 1, none⟩) (fun e => h.ne e.symm) _, own_set h.wr.own h.rd.blk (by decide) 1 _⟩, ⟨h.rd.blk.set 1 _, own_set h.rd.own h.rd.blk (by decide) 1 _, hn⟩, h.ap⟩

theorem num_any (x : Int) (w : World) : Calls Try.prog 14 #[.int .i64 x] w fun e w' => e = .returned (.int .i64 x) ∧ w = w' := by
  go_enter Try.func14, Try.ntmps14
  go_wp2
  go_ret
  exact ⟨rfl, rfl⟩

theorem rd_lit8 (w : World) (cs : Array Value) (n : Nat) (xs : List UInt8) (hn : n ≤ 1000) (hs : cs.size = n) (hx : cs.toList = bc xs) : Rd (w.alloc (.cells cs 5)) (.slice (some ⟨w.heap.size, 0, none⟩) n n) n (bc xs) := by
  rw [← hx]
  exact Rd.of_owns (World.ownsRow_lit (base := 0) (e := 5) (size := 1) w cs n (Nat.zero_le _) (by unfold maxLen; omega) (by omega))
theorem rd_lit64 (w : World) (cs : Array Value) (n : Nat) (xs : List Int) (hn : n ≤ 1000) (hs : cs.size = n) (hx : cs.toList = ic xs) : Rd (w.alloc (.cells cs 2)) (.slice (some ⟨w.heap.size, 0, none⟩) n n) n (ic xs) := by
  rw [← hx]
  exact Rd.of_owns (World.ownsRow_lit (base := 0) (e := 2) (size := 1) w cs n (Nat.zero_le _) (by unfold maxLen; omega) (by omega))

theorem NewWriter2 (W : World) : Calls Try.prog 51 #[] W fun e w' => ∃ g, e = .returned (.pointer (some ⟨g, 0, none⟩)) ∧ Below W.heap.size W w' ∧ W.heap.size ≤ g ∧ W.heap.size ≤ w'.heap.size ∧ Wr w' W.heap.size g (.slice none 0 0) [] :=
  (NewWriter_any W).mono (by rintro e w' ⟨rfl, rfl⟩; exact ⟨_, rfl, below_alloc W _, Nat.le_refl _, (below_alloc W _).size, wr_new W _⟩)

theorem n300 : num7 300 = [172, 2] := by rw [num7_big (by decide), num7_small (by decide)]; rfl
theorem n_1 : num7 1 = [1] := by rw [num7_small (by decide)]; rfl
theorem n_2 : num7 2 = [2] := by rw [num7_small (by decide)]; rfl
theorem n_3 : num7 3 = [3] := by rw [num7_small (by decide)]; rfl
theorem n_0 : num7 0 = [0] := by rw [num7_small (by decide)]; rfl
theorem n_4 : num7 4 = [4] := by rw [num7_small (by decide)]; rfl
theorem ris_known : ris [-1, 0, 5] = [3, 1, 0, 4] := by
  have e : ris [-1, 0, 5] = num7 3 ++ (num7 1 ++ (num7 0 ++ (num7 4 ++ []))) := rfl
  rw [e, n_3, n_1, n_0, n_4]
  rfl
theorem zig_1 : num7 (zig (-1)) = [1] := n_1
theorem rises_known : Rises [-1, 0, 5] := by
  intro i x y h1 h2
  match i with
  | 0 => simp at h1 h2; omega
  | 1 => simp at h1 h2; omega
  | 2 => simp at h2
  | k + 3 => simp at h2
theorem not_rises_known : ¬ Rises [1, 1] := fun h => by have := h 0 1 1 rfl rfl; omega
theorem rd_known1 : rdN 0 0 [172, 2, 128] = (300, 2, 0) := by simp [rdN]
theorem rd_known2 : rdN 0 0 [128] = (0, 0, 110) := by simp [rdN]
end Go.Proofs.Ytaechgnjdjijkaa
