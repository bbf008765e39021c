/- The walk of Deal. -/
import Derived.Test.YtdbbipdkaahplaaDealt
namespace Go.Proofs.Ytdbbipdkaahplaa
open Go.RowKit

theorem of_short {s : ByteArray} {p g : Int} (h : mayB p g) (hs : s.size ≤ 256) : ofE s.data.toList p g = 0 ∧ ∃ i : Nat, ofW s.data.toList p g = (i : Int) ∧ (i : Int) < p := by
  have hl : s.data.toList.length = s.size := by rw [Array.length_toList]; rfl
  have e1 : ofE s.data.toList p g = 0 := by unfold ofE; rw [if_pos h, grpE_0 ⟨h.1, h.2.1⟩ (by omega)]
  refine ⟨e1, ?_⟩
  obtain ⟨r1, r2⟩ := grp_range (l := s.data.toList) h
  have e2 : ofW s.data.toList p g = ((grp s.data.toList g + 1) * p - 1) / g := by
    unfold ofW wrk; rw [if_pos e1, if_pos ⟨h, r1, r2⟩]
  rw [e2]
  have n0 := wrk_nonneg (x := grp s.data.toList g) h.2.2.1 h.1 r1
  exact ⟨_, (Int.toNat_of_nonneg n0).symm, by rw [Int.toNat_of_nonneg n0]; exact wrk_lt h.2.2.1 h.1 r2⟩
theorem of_long {s : ByteArray} {p g : Int} (h : mayB p g) (hs : 256 < s.size) : ofE s.data.toList p g = 3 := by
  have hl : s.data.toList.length = s.size := by rw [Array.length_toList]; rfl
  unfold ofE; rw [if_pos h, grpE_3 ⟨h.1, h.2.1⟩ (by omega)]
theorem strInfo : (Try.prog.info? 9).map (fun i => (i.zero, i.size, i.bytes)) = some (some (.string ⟨#[]⟩), 1, 16) := by kernel_rfl
theorem strsInfo : (Try.prog.info? 56).map (fun i => (i.zero, i.size, i.bytes)) = some (some (.slice none 0 0), 1, 24) := by kernel_rfl

/-- What both Deals answer. -/
def DealPost (P : Nat) (g : Int) (ks : List ByteArray) (w : World) (e : Ending) (w' : World) : Prop :=
  Below w.heap.size w w' ∧ ((∃ go vs, e = .returned (.tuple #[.slice (some ⟨go, 0, none⟩) P P, .int .i64 0]) ∧ Dealt w' w.heap.size P go vs (rowOf (P : Int) g ks) ∧ ∀ k ∈ ks, k.size ≤ 256) ∨
    (e = .returned (.tuple #[.slice none 0 0, .int .i64 3]) ∧ ∃ k ∈ ks, 256 < k.size))

set_option maxRecDepth 100000 in
set_option maxHeartbeats 2000000 in
theorem Deal_yes (P : Nat) (g : Int) (v : Value) (ks : List ByteArray) (w : World) (hp : mayB (P : Int) g) (hk : ks.length ≤ 2097152) (hs : ∀ k ∈ ks, k.size ≤ maxLen) (hr : Rd w v ks.length (txCells ks)) :
    Calls Try.prog 25 #[.int .i64 (P : Int), .int .i64 g, v] w (DealPost P g ks w) := by
  have H := Lib.hid hp
  obtain ⟨g1, g2, p1, p2⟩ := id hp
  clear hp
  obtain ⟨i0, hi0, hz0, hz1, hz2⟩ := info_parts strInfo
  obtain ⟨i1, hi1, iz0, iz1, iz2⟩ := info_parts strsInfo
  obtain ⟨a1, cap1, rfl, hc1, hm1, hr1⟩ := hr
  unfold maxLen at hm1
  obtain ⟨n, hn⟩ : ∃ n, ks.length = n := ⟨_, rfl⟩
  rw [hn] at hc1 hr1 hk ⊢
  have hmk : ∀ W : World, (Instr.makeSlice 57 (.int .i64 (P : Int)) (.int .i64 (P : Int))).run Try.prog W = .ok (.slice (some ⟨W.heap.size, 0, none⟩) P P) (W.alloc (.cells (Array.replicate P (Value.slice none 0 0)) 56)) := fun W => by
    have h := run_make (P := Try.prog) W 57 56 i1 _ Try.underlying57 hi1 iz0 .i64 .i64 (P : Int) (P : Int) (by omega) (by omega) (by rw [iz2]; omega) (by omega)
    rw [iz1, Nat.mul_one, Int.toNat_natCast] at h
    have hm := made_nils P
    simp only [List.toArray_replicate] at hm
    rw [← hm]
    exact h
  have HR1 := Lib.hid hr1
  have HN := Lib.hid hn
  have HS := Lib.hid hs
  generalize hQ : DealPost P g ks w = Q
  have HQ := Lib.hid hQ
  clear hr1 hn hs hQ
  obtain ⟨B, hB⟩ : ∃ B, w.heap.size = B := ⟨_, rfl⟩
  go_enter Try.func25, Try.ntmps25
  go_wp2_with (go_at_call 29; (with_reducible refine (may_yes _ _ _ H.out).mono ?_); rintro e w' ⟨rfl, rfl⟩)
  have hd0 := Lib.hid (Dealt.made w B P (by omega) (by simp only [maxLen]; omega) (Array.replicate P (Value.slice none 0 0)) (by simp))
  have hb0 := Lib.hid ((Below.refl B w).alloc (by omega) (.cells (Array.replicate P (Value.slice none 0 0)) 56))
  go_loopw [21] (fun i wr => ∃ k : Nat, i = .int .i64 k ∧ k ≤ n ∧ Below B w wr ∧ (∃ vs, Dealt wr B P B vs (rowOf (P : Int) g (ks.take k))) ∧ ∀ x ∈ ks.take k, x.size ≤ 256) (fun i _ => n - (intOf i).toNat)
  case atStart => exact ⟨0, rfl, Nat.zero_le _, hb0.out, ⟨_, by have := hd0.out; rw [hB] at this; exact this⟩, by simp⟩
  case round =>
    obtain ⟨k, rfl, hkn, hb, ⟨vs, hd⟩, hall⟩ := hrel
    have HD := Lib.hid hd
    have HB := Lib.hid hb
    have HA := Lib.hid hall
    clear hd hb hall
    by_cases hlt : k < n
    · obtain ⟨g1, o1, rfl, hg1, hx1⟩ := HR1.out (by omega)
      obtain ⟨s, hs⟩ : ∃ s, ks[k]? = some s := ⟨_, List.getElem?_eq_getElem (by have := HN.out; omega)⟩
      have f0 : wr.cell? ⟨g1, o1 + k, none⟩ = some (.string s) := (HB.out.cell (p := ⟨g1, o1 + k, none⟩) (show g1 < B by omega)).trans (hx1 _ _ (txCells_at ks k s hs))
      have hmem : s ∈ ks := List.mem_of_getElem? hs
      have hsl := HS.out s hmem
      have HT : Hid (ks.take (k + 1) = ks.take k ++ [s]) := by
        have hkl : k < ks.length := (List.getElem?_eq_some_iff.1 hs).1
        have e : ks[k] = s := (List.getElem?_eq_some_iff.1 hs).2
        show ks.take (k + 1) = _
        rw [List.take_succ_eq_append_getElem hkl, e]
      have HM := Lib.hid hmem
      have hof := Lib.hid (fun W => Of_any s (P : Int) g W hsl)
      clear hx1 hs hmem hsl
      by_cases hsz : s.size ≤ 256
      · obtain ⟨e0, i, ei, hi⟩ := of_short H.out hsz
        rw [e0, ei] at hof
        obtain ⟨v, hv⟩ : ∃ v, vs[i]? = some v := ⟨_, List.getElem?_eq_getElem (by have := HD.out.len; omega)⟩
        have HV := Lib.hid hv
        have HEI := Lib.hid ei
        have HSZ := Lib.hid hsz
        clear hv ei hsz e0
        have hgo := HD.out.lt.2
        have hnl : ((rowOf (P : Int) g (ks.take k)) i).length ≤ n := by
          refine Nat.le_trans (List.length_filter_le _ _) ?_
          rw [List.length_take]; omega
        go_wp2_with (first
          | (go_at_call 21; (with_reducible refine (hof.out _).mono ?_); rintro e w1 ⟨rfl, hb1⟩
             have HD1 := Lib.hid (HD.out.kept (below_grown hb1 none))
             have fc := (HD1.out.cell HV.out).1
             have HAL := Lib.hid (HD1.out.kept (World.grownBy_alloc w1 (.cells #[.string s] 9) none))
             have hsz1 := hb1.size
             have HB1 := Lib.hid hb1
             clear hb1)
          | (at_builtin; refine wpList_append_own_at _ rfl _ _ 56 rfl B 9 i0 _ 1 16 Try.underlying56 hi0 hz0 hz1 hz2 rfl (by decide) _ _ _ rfl (HAL.out.row i v HV.out) ⟨w1.heap.size, 0, none⟩ 1 1 [.string s] rfl rfl (cell_one_new _ _ _) (by simp [Value.oneCell']) (by simp only [maxLen]; omega) (by omega) (by simp; omega) ?_; intro v' w4 hown' hgrow _ hat
             obtain ⟨fd, ff⟩ := HAL.out.frozen HV.out hgrow
             obtain ⟨a', cap', rfl, _, _⟩ := ownsRow_shape hown'))
        refine ⟨⟨k + 1, by push_cast; rfl, by omega, ?_, ?_, ?_⟩, by simp [intOf]; omega⟩
        · have b1 := HB.out.trans (HB1.out.mono (by have := HB.out.size; omega))
          exact ((b1.alloc (by omega) (.cells #[.string s] 9)).grown hgrow (by simp; omega) (fun r e => ((HAL.out.row i v HV.out).lt r e).1)).grown (grownBy_set w4 ⟨B, i, none⟩ _) (by have := hgrow.size; simp at this; omega) (fun r e => by cases e; exact Nat.le_refl _)
        · rw [HT.out, rowOf_snoc _ _ _ _ _ HEI.out]
          exact ⟨_, HAL.out.put HV.out hgrow (by rw [List.length_append, List.length_singleton]; simpa [txCells] using hown') hat⟩
        · intro x hx
          rw [HT.out] at hx
          rcases List.mem_append.1 hx with h | h
          · exact HA.out x h
          · rw [List.mem_singleton.1 h]; exact HSZ.out
      · have e3 := of_long H.out (Nat.lt_of_not_le hsz)
        rw [e3] at hof
        have HSZ := Lib.hid hsz
        clear hsz e3
        go_wp2_with (go_at_call 21; (with_reducible refine (hof.out _).mono ?_); rintro e w1 ⟨rfl, hb1⟩)
        rw [← HQ.out]
        exact ⟨hB ▸ HB.out.trans (hb1.mono (by have := HB.out.size; omega)), .inr ⟨rfl, s, HM.out, Nat.lt_of_not_le HSZ.out⟩⟩
    · have hkn' : k = n := by omega
      subst hkn'
      go_wp2
      rw [← HQ.out]
      have ht : ks.take k = ks := List.take_of_length_le (by have := HN.out; omega)
      have h1 := HD.out
      have h2 := HA.out
      rw [ht] at h1 h2
      exact ⟨hB ▸ HB.out, .inl ⟨B, vs, rfl, by rw [hB]; exact h1, h2⟩⟩
end Go.Proofs.Ytdbbipdkaahplaa
