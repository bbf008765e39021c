/- The walk of the reference's Deal. -/
import Derived.Test.YtdbbipdkaahplaaDeal
import Derived.Deep.RegionLaw
import Derived.Deep.AppendLies
namespace Go.Proofs.Ytdbbipdkaahplaa
open Go.RowKit

set_option maxRecDepth 100000 in
set_option maxHeartbeats 2000000 in
theorem refDeal_yes (P : Nat) (g : Int) (v : Value) (ks : List ByteArray) (w : World) (hp : mayB (P : Int) g) (hk : ks.length ≤ 2097152) (hs : ∀ k ∈ ks, k.size ≤ maxLen) (hr : Rd w v ks.length (txCells ks)) :
    Calls Try.prog 26 #[.int .i64 (P : Int), .int .i64 g, v] w (DealPost P g ks w) := by
  have H := Lib.hid hp
  obtain ⟨g1, g2, p1, p2⟩ := id hp
  clear hp
  obtain ⟨i0, hi0, hz0, hz1, hz2⟩ := info_parts strInfo
  obtain ⟨i1, hi1, iz0, iz1, iz2⟩ := info_parts strsInfo
  obtain ⟨a1, cap1, rfl, hc1, hm1, hr1⟩ := hr
  unfold maxLen at hm1
  obtain ⟨n, hn⟩ : ∃ n, ks.length = n := ⟨_, rfl⟩
  rw [hn] at hc1 hr1 hk ⊢
  have hmk : ∀ W : World, (Instr.makeSlice 57 (.int .i64 (P : Int)) (.int .i64 (P : Int))).run Try.prog W = .ok (.slice (some ⟨W.heap.size, 0, none⟩) P P) (W.alloc (.cells (Array.replicate P (Value.slice none 0 0)) 56)) := fun W => by
    have h := run_make (P := Try.prog) W 57 56 i1 _ Try.underlying57 hi1 iz0 .i64 .i64 (P : Int) (P : Int) (by omega) (by omega) (by rw [iz2]; omega) (by omega)
    rw [iz1, Nat.mul_one, Int.toNat_natCast] at h
    have hm := made_nils P
    simp only [List.toArray_replicate] at hm
    rw [← hm]
    exact h
  have HR1 := Lib.hid hr1
  have HN := Lib.hid hn
  have HS := Lib.hid hs
  generalize hQ : DealPost P g ks w = Q
  have HQ := Lib.hid hQ
  clear hr1 hn hs hQ
  obtain ⟨B, hB⟩ : ∃ B, w.heap.size = B := ⟨_, rfl⟩
  go_enter Try.func26, Try.ntmps26
  go_wp2_with (go_at_call 9; (with_reducible refine (Workers_yes _ _ _ H.out).mono ?_); rintro e w' ⟨rfl, rfl⟩)
  go_loopw [8] (fun i wr => ∃ k : Nat, i = .int .i64 k ∧ k ≤ n ∧ wr = w ∧ ∀ x ∈ ks.take k, x.size ≤ 256) (fun i _ => n - (intOf i).toNat)
  case atStart => exact ⟨0, rfl, Nat.zero_le _, rfl, by simp⟩
  case round =>
    obtain ⟨k, rfl, hkn, rfl, hall⟩ := hrel
    have HA := Lib.hid hall
    clear hall
    by_cases hlt : k < n
    · obtain ⟨g1, o1, rfl, hg1, hx1⟩ := HR1.out (by omega)
      obtain ⟨s, hs⟩ : ∃ s, ks[k]? = some s := ⟨_, List.getElem?_eq_getElem (by have := HN.out; omega)⟩
      have f0 := hx1 _ _ (txCells_at ks k s hs)
      have hmem : s ∈ ks := List.mem_of_getElem? hs
      have HT : Hid (ks.take (k + 1) = ks.take k ++ [s]) := by
        have hkl : k < ks.length := (List.getElem?_eq_some_iff.1 hs).1
        have e : ks[k] = s := (List.getElem?_eq_some_iff.1 hs).2
        show ks.take (k + 1) = _
        rw [List.take_succ_eq_append_getElem hkl, e]
      have HM := Lib.hid hmem
      clear hx1 hs hmem
      by_cases hsz : s.size ≤ 256
      · have HSZ := Lib.hid hsz
        have hd1 : decide ((256 : Int) < (s.size : Int)) = false := by simp; omega
        clear hsz
        go_wp2
        go_roundw
        case rel =>
          refine ⟨k + 1, by go_num, by omega, trivial, fun x hx => ?_⟩
          rw [HT.out] at hx
          rcases List.mem_append.1 hx with h | h
          · exact HA.out x h
          · rw [List.mem_singleton.1 h]; exact HSZ.out
        case measure => simp [intOf]; omega
      · have HSZ := Lib.hid hsz
        have hd1 : decide ((256 : Int) < (s.size : Int)) = true := by simp; omega
        clear hsz
        go_wp2
        rw [← HQ.out]
        exact ⟨Below.refl _ _, .inr ⟨rfl, s, HM.out, Nat.lt_of_not_le HSZ.out⟩⟩
    · have hkn' : k = n := by omega
      subst hkn'
      have ht : ks.take k = ks := List.take_of_length_le (by have := HN.out; omega)
      have HALL : Hid (∀ x ∈ ks, x.size ≤ 256) := by have h := HA.out; rw [ht] at h; exact h
      clear ht
      go_wp2
      have hd0 := Lib.hid (Dealt.made wr B P (by omega) (by simp only [maxLen]; omega) (Array.replicate P (Value.slice none 0 0)) (by simp))
      have hb0 := Lib.hid ((Below.refl B wr).alloc (by omega) (.cells (Array.replicate P (Value.slice none 0 0)) 56))
      obtain ⟨w, rfl⟩ : ∃ w, w = wr := ⟨_, rfl⟩
      obtain ⟨n, hnk⟩ : ∃ n, n = k := ⟨_, rfl⟩
      rw [← hnk] at hk hc1 HN HR1 ⊢
      clear hlt hkn hnk HA
      go_loopw [10] (fun i wr => ∃ k : Nat, i = .int .i64 k ∧ k ≤ n ∧ Below B w wr ∧ (∃ vs, Dealt wr B P B vs (rowOf (P : Int) g (ks.take k)))) (fun i _ => n - (intOf i).toNat)
      case atStart => exact ⟨0, rfl, Nat.zero_le _, hb0.out, ⟨_, by have := hd0.out; rw [hB] at this; exact this⟩⟩
      case round =>
        obtain ⟨k, rfl, hkn, hb, ⟨vs, hd⟩⟩ := hrel
        have HD := Lib.hid hd
        have HB := Lib.hid hb
        clear hd hb
        by_cases hlt : k < n
        · obtain ⟨g1, o1, rfl, hg1, hx1⟩ := HR1.out (by omega)
          obtain ⟨s, hs⟩ : ∃ s, ks[k]? = some s := ⟨_, List.getElem?_eq_getElem (by have := HN.out; omega)⟩
          have hx := hx1 _ _ (txCells_at ks k s hs)
          have f0 : wr.cell? ⟨g1, o1 + k, none⟩ = some (.string s) := (HB.out.cell (p := ⟨g1, o1 + k, none⟩) (show g1 < B by omega)).trans hx
          have hmem : s ∈ ks := List.mem_of_getElem? hs
          have hsl := HS.out s hmem
          have hsz := HALL.out s hmem
          have HT : Hid (ks.take (k + 1) = ks.take k ++ [s]) := by
            have hkl : k < ks.length := (List.getElem?_eq_some_iff.1 hs).1
            have e : ks[k] = s := (List.getElem?_eq_some_iff.1 hs).2
            show ks.take (k + 1) = _
            rw [List.take_succ_eq_append_getElem hkl, e]
          have hof := Lib.hid (fun W => refOf_any s (P : Int) g W hsl)
          have HX : Hid (∀ W, Below B w W → W.cell? ⟨g1, o1 + k, none⟩ = some (.string s)) := fun W hW => (hW.cell (p := ⟨g1, o1 + k, none⟩) (show g1 < B by omega)).trans hx
          clear hx1 hs hmem hsl hx
          obtain ⟨e0, i, ei, hi⟩ := of_short H.out hsz
          rw [e0, ei] at hof
          obtain ⟨v, hv⟩ : ∃ v, vs[i]? = some v := ⟨_, List.getElem?_eq_getElem (by have := HD.out.len; omega)⟩
          have HV := Lib.hid hv
          have HEI := Lib.hid ei
          clear hv ei hsz e0
          have hgo := HD.out.lt.2
          have hnl : ((rowOf (P : Int) g (ks.take k)) i).length ≤ n := by
            refine Nat.le_trans (List.length_filter_le _ _) ?_
            rw [List.length_take]; omega
          go_wp2_with (first
            | (go_at_call 22; (with_reducible refine (hof.out _).mono ?_); rintro e w1 ⟨rfl, hb1⟩
               have HD1 := Lib.hid (HD.out.kept (below_grown hb1 none))
               have HB1 := Lib.hid (HB.out.trans (hb1.mono (by have := HB.out.size; omega)))
               have fc := (HD1.out.cell HV.out).1
               have fk := HX.out _ HB1.out
               have HAL := Lib.hid (HD1.out.kept (only_drew (World.grownBy_alloc w1 (.cells #[.string s] 9) none)))
               have fc2 := (HAL.out.cell HV.out).1
               have hsz1 := hb1.size
               clear hb1))
          go_region_law (refine step_append_lies _ (by rfl) _ _ _ (by rfl) B 9 i0 _ 1 16 Try.underlying56 hi0 hz0 hz1 hz2 rfl (by omega) _ _ _ (by rfl) (HAL.out.row i v HV.out) ⟨w1.heap.size, 0, none⟩ 1 1 [.string s] (by rfl) (by rfl) (World.news_of_block (cs := #[.string s]) (t := 9) (fr := (0, 0)) (heap_alloc_new _ _)) (by simp [Value.oneCell']) (by omega) (by simp only [maxLen]; omega) (by omega) (by simp; omega) (w1.heap.size + 1) (by simp) ?_; intro gg cap w4 hown4 hgrow4 hat4 hlt4; obtain ⟨fd, ff⟩ := HAL.out.frozen HV.out hgrow4)
          all_goals go_wp2
          all_goals go_roundw
          all_goals first
            | (simp [intOf]; omega; done)
            | (refine ⟨k + 1, by go_num, by omega, ?_, ?_⟩
               · exact (((HB1.out.alloc (by omega) (.cells #[.string s] 9)).drew).grown hgrow4 (by simp; omega) (fun r e => ((HAL.out.row i v HV.out).lt r e).1)).grown (grownBy_set w4 ⟨B, i, none⟩ _) (by have := hgrow4.size; simp at this; omega) (fun r e => by cases e; exact Nat.le_refl _)
               · rw [HT.out, rowOf_snoc _ _ _ _ _ HEI.out]
                 exact ⟨_, HAL.out.put HV.out hgrow4 (by rw [List.length_append, List.length_singleton]; simpa [txCells] using hown4) (by rcases hat4 with h | h; exact .inl (by simp only [Value.ownBlock]; exact h.symm); exact .inr (by simp [Value.ownBlock, h]))⟩)
        · have hkn' : k = n := by omega
          subst hkn'
          go_wp2
          rw [← HQ.out]
          have ht : ks.take k = ks := List.take_of_length_le (by have := HN.out; omega)
          have h1 := HD.out
          rw [ht] at h1
          exact ⟨hB ▸ HB.out, .inl ⟨B, vs, rfl, by rw [hB]; exact h1, HALL.out⟩⟩
end Go.Proofs.Ytdbbipdkaahplaa
