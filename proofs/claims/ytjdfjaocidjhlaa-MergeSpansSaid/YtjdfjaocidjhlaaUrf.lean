/- The walks of the document's put, Union and Gaps. -/
import Derived.Test.YtjdfjaocidjhlaaUni
import Derived.Test.YtjdfjaocidjhlaaOdr
namespace Go.Proofs.Ytjdfjaocidjhlaa
open Go.RowKit Go.Shelf

theorem scells_append (a b : List Sn) : scells (a ++ b) = scells a ++ scells b := by simp [scells]
theorem scells_cut : ∀ (l : List Sn) (z : Nat), scells (l.take z) = (scells l).take (z * 2) ∧ scells (l.drop z) = (scells l).drop (z * 2)
  | [], z => by simp [scells]
  | x :: l, 0 => by simp [scells]
  | x :: l, z + 1 => by
    obtain ⟨h1, h2⟩ := scells_cut l z
    have e : scells (x :: l) = .int .i64 x.s :: .int .i64 x.e :: scells l := rfl
    have e2 : scells (x :: l.take z) = .int .i64 x.s :: .int .i64 x.e :: scells (l.take z) := rfl
    rw [List.take_succ_cons, List.drop_succ_cons, e, e2, h1, h2, show (z + 1) * 2 = z * 2 + 1 + 1 by omega]
    exact ⟨rfl, rfl⟩
theorem spSl : Try.prog.underlying 51 = some (.slice (Try.prog.elem 51)) := by kernel_rfl
theorem spSz (W : World) : (sizeOf (Try.prog.elem 51)).run Try.prog W = .ok 2 W := by kernel_rfl
theorem rd_part2 {w : World} {a : Option Addr} {cap n : Nat} {l : List Sn} (h : Rd w (.slice a n cap) n (scells l)) (hn : l.length = n) (f z : Nat) (hfz : f ≤ z) (hz : z ≤ n) :
    Rd w (sliced a f z cap 2) (z - f) (scells ((l.take z).drop f)) := by
  obtain ⟨a', cap', hv, h1, h2, h3⟩ := h
  cases hv
  unfold sliced
  refine ⟨_, _, rfl, by omega, by unfold maxLen at *; omega, fun hn => ?_⟩
  obtain ⟨g, off, rfl, hg, hx⟩ := h3 (by omega)
  rw [if_neg (by omega)]
  refine ⟨g, off + f * 2, by simp [addr_add], hg, fun j u hj => ?_⟩
  rw [(scells_cut _ f).2, (scells_cut l z).1, List.getElem?_drop] at hj
  have hj2 : (scells l)[f * 2 + j]? = some u := by
    rw [List.getElem?_take] at hj
    split at hj
    · exact hj
    · cases hj
  have := hx (f * 2 + j) u hj2
  rw [← Nat.add_assoc] at this
  exact this
theorem run_front2 {w : World} {a : Option Addr} {cap n : Nat} {l : List Sn} (h : Rd w (.slice a n cap) n (scells l)) (hn : l.length = n) (z : Nat) (hz : z ≤ n) :
    ∃ A c, (∀ W : World, (Instr.sliceAt 51 (.slice a n cap) none (some (.int .i64 (z : Int))) none).run Try.prog W = .ok (.slice A z c) W) ∧ Rd w (.slice A z c) z (scells (l.take z)) := by
  have hp := rd_part2 h hn 0 z (Nat.zero_le _) hz
  obtain ⟨_, _, hv, h1, h2, _⟩ := h
  cases hv
  refine ⟨_, _, fun W => ?_, hp⟩
  rw [run_sliceAt_slice _ _ _ _ _ _ spSl, run_slice_h _ _ _ _ _ spSl _ _ (by omega) (by omega)]
  simp only [Int.toNat_natCast, spSz, Result.andThen_ok]
  rfl
theorem run_back2 {w : World} {a : Option Addr} {cap n : Nat} {l : List Sn} (h : Rd w (.slice a n cap) n (scells l)) (hn : l.length = n) (f : Nat) (hf : f ≤ n) :
    ∃ A c, (∀ W : World, (Instr.sliceAt 51 (.slice a n cap) (some (.int .i64 (f : Int))) none none).run Try.prog W = .ok (.slice A (n - f) c) W) ∧ Rd w (.slice A (n - f) c) (n - f) (scells (l.drop f)) := by
  have hp := rd_part2 h hn f n hf (Nat.le_refl _)
  rw [show l.take n = l by rw [← hn, List.take_length]] at hp
  obtain ⟨_, _, hv, h1, h2, _⟩ := h
  cases hv
  refine ⟨_, _, fun W => ?_, hp⟩
  rw [run_sliceAt_slice _ _ _ _ _ _ spSl, run_slice_l _ _ _ _ _ spSl _ _ (by omega) (by omega)]
  simp only [Int.toNat_natCast, spSz, Result.andThen_ok]
  rfl
theorem uput_cut {s : Sn} : ∀ {r : List Sn} {k : Nat}, (∀ j y, j < k → r[j]? = some y → y.s < s.s) → (∀ y, r[k]? = some y → ¬ y.s < s.s) → k ≤ r.length → uput r s = r.take k ++ [s] ++ r.drop k
  | [], k, _, _, h => by
    obtain rfl : k = 0 := by simpa using h
    rfl
  | y :: r, 0, _, h2, _ => by
    have := h2 y rfl
    unfold uput; rw [if_neg this]; rfl
  | y :: r, k + 1, h1, h2, h3 => by
    have := h1 0 y (by omega) rfl
    have ih := uput_cut (s := s) (r := r) (k := k) (fun j z hj hz => h1 (j + 1) z (by omega) (by simpa using hz)) (fun z hz => h2 z (by simpa using hz)) (by simpa using h3)
    unfold uput; rw [if_pos this, ih]; rfl
theorem uput_length (r : List Sn) (s : Sn) : (uput r s).length = r.length + 1 := by
  induction r with
  | nil => rfl
  | cons y r ih => unfold uput; split <;> simp [ih]
theorem scells_one (l : List Sn) : ∀ u ∈ scells l, u.oneCell' = true := by
  intro u hu
  simp only [scells, List.mem_flatMap] at hu
  obtain ⟨x, -, hx⟩ := hu
  simp [Sn.cells] at hx
  rcases hx with rfl | rfl <;> rfl
theorem rd_two (w : World) (s e : Int) : Rd (w.alloc (.cells #[.int .i64 s, .int .i64 e] 24)) (.slice (some ⟨w.heap.size, 0, none⟩) 1 1) 1 [.int .i64 s, .int .i64 e] :=
  ⟨_, 1, rfl, Nat.le_refl _, by decide, fun _ => ⟨_, 0, rfl, by simp, fun j u hj => by rw [Nat.zero_add]; exact (cell_of_row _ _ j _ _ (0, 0) (heap_alloc_new w _)).trans (by simpa using hj)⟩⟩
theorem below_grown5 {w w' : World} (h : w.grownBy w' none) : Below w.heap.size w w' := ⟨h.os, h.tape, h.output, h.size, fun k hk => h.block k hk (by simp)⟩
set_option maxRecDepth 100000 in
set_option maxHeartbeats 4000000 in
theorem put_any (v : Value) (r : List Sn) (s : Sn) (w : World) (hr : Rd w v r.length (scells r)) (hlen : r.length ≤ 10000) :
    Calls Try.prog 43 #[v, .agg #[.int .i64 s.s, .int .i64 s.e]] w fun e w' => ∃ v', e = .returned v' ∧ w'.ownsRow w.heap.size 24 2 v' (uput r s).length (scells (uput r s)) ∧ Below w.heap.size w w' := by
  obtain ⟨iS, hiS, hS0, hS1, hS2⟩ := info_parts spanInfo
  obtain ⟨n, hn⟩ : ∃ n, r.length = n := ⟨_, rfl⟩
  rw [hn] at hr hlen
  obtain ⟨a, cap, rfl, hc, hm, hcell⟩ := id hr
  unfold maxLen at hm
  have HR := Lib.hid hr
  have HN := Lib.hid hn
  have HCE := Lib.hid hcell
  clear hr hn hcell
  obtain ⟨ss, se⟩ := s
  obtain ⟨W0, hW0⟩ : ∃ W0, W0 = w.alloc (.cells #[.int .i64 ss, .int .i64 se] 24) := ⟨_, rfl⟩
  have HB0 : Hid (Below w.heap.size w W0) := hW0 ▸ below_alloc _ _
  have HS0 : Hid (∀ W, Below W0.heap.size W0 W → W.cell? ⟨w.heap.size, 0, none⟩ = some (.int .i64 ss) ∧ W.cell? ⟨w.heap.size, 1, none⟩ = some (.int .i64 se) ∧ w.heap.size < W.heap.size) := fun W hW => by
    have hz : W0.heap.size = w.heap.size + 1 := by rw [hW0]; simp
    have h0 : W0.cell? ⟨w.heap.size, 0, none⟩ = some (.int .i64 ss) := by rw [hW0]; go_simp
    have h1 : W0.cell? ⟨w.heap.size, 1, none⟩ = some (.int .i64 se) := by rw [hW0]; go_simp
    exact ⟨(hW.cell (p := ⟨w.heap.size, 0, none⟩) (by simp; omega)).trans h0, (hW.cell (p := ⟨w.heap.size, 1, none⟩) (by simp; omega)).trans h1, by have := hW.size; omega⟩
  have HW := Lib.hid hW0
  clear hW0
  go_enter Try.func43, Try.ntmps43
  go_wp2
  rw [← HW.out]
  go_loopw [5] (fun i wr => ∃ k : Nat, i = .int .i64 k ∧ k ≤ n ∧ Hid (∀ j y, j < k → r[j]? = some y → y.s < ss) ∧ Below W0.heap.size W0 wr) (fun i _ => n - (intOf i).toNat)
  case atStart => exact ⟨0, rfl, Nat.zero_le _, fun j y h => absurd h (Nat.not_lt_zero _), Below.refl _ _⟩
  case round =>
    obtain ⟨k, rfl, hk, hlow, hb⟩ := hrel
    obtain ⟨b0, b1, b2⟩ := HS0.out wr hb
    have HBR := Lib.hid hb
    have hz0 : w.heap.size ≤ W0.heap.size := HB0.out.size
    have HBW : Hid (Below w.heap.size w wr) := HB0.out.trans (hb.mono hz0)
    have fin : (∀ y, r[k]? = some y → ¬ y.s < ss) → Hid (uput r ⟨ss, se⟩ = r.take k ++ [⟨ss, se⟩] ++ r.drop k) := fun h2 => uput_cut (s := ⟨ss, se⟩) hlow.out h2 (by rw [HN.out]; exact hk)
    obtain ⟨AA, cA, hsA, hRA⟩ := run_front2 HR.out HN.out k hk
    obtain ⟨AC, cC, hsC, hRC⟩ := run_back2 HR.out HN.out k hk
    have HRA : Hid (∀ W, Below W0.heap.size W0 W → Rd W (.slice AA k cA) k (scells (r.take k))) := fun W hW => hRA.below (HB0.out.trans (hW.mono hz0))
    have HRC : Hid (∀ W, Below W0.heap.size W0 W → Rd W (.slice AC (n - k) cC) (n - k) (scells (r.drop k))) := fun W hW => hRC.below (HB0.out.trans (hW.mono hz0))
    clear hRA hRC hb
    by_cases hlt : k < n
    · obtain ⟨g, o, rfl, hg, hx⟩ := HCE.out (by omega)
      obtain ⟨y, hy⟩ : ∃ y, r[k]? = some y := ⟨_, List.getElem?_eq_getElem (by have := HN.out; omega)⟩
      have c0 := (HBW.out.cell (p := ⟨g, o + k * 2, none⟩) hg).trans (hx _ _ (scells_get hy).1)
      have hgr : g < wr.heap.size := by have := HBW.out.size; omega
      have HY := Lib.hid hy
      clear hx hy
      by_cases hys : y.s < ss
      · have hyd : decide (y.s < ss) = true := by simp [hys]
        clear hsA hsC fin
        go_wp2
        go_quiet (fail)
        go_wp2
        go_roundw
        case rel =>
          refine ⟨k + 1, by go_num, by omega, fun j z hj hz => ?_, below_drewN HBR.out _⟩
          by_cases h : j < k
          · exact hlow.out j z h hz
          · obtain rfl : j = k := by omega
            have := HY.out.symm.trans hz; cases this; exact hys
        case measure => simp [intOf]; omega
      · have hyd : decide (y.s < ss) = false := by simp; omega
        have HF := Lib.hid (fin (fun z hz => by have := HY.out.symm.trans hz; cases this; exact hys)).out
        clear fin
        have HLA : Hid ((scells (r.take k)).length = k * 2) := by show _ = _; rw [scells_length, List.length_take, HN.out]; congr 1; omega
        have HLC : Hid ((scells (r.drop k)).length = (n - k) * 2) := by show _ = _; rw [scells_length, List.length_drop, HN.out]
        go_wp2
        go_quiet (fail)
        go_wp2_with (first
          | (at_builtin; refine wpList_append_rd _ rfl (.tmp 23) (.tmp 26) 51 rfl W0.heap.size 24 iS _ 2 16 Try.underlying51 hiS hS0 hS1 hS2 rfl (by decide) _ 0 [] rfl (World.ownsRow_nil _ _ _ _) _ k cA (scells (r.take k)) rfl HLA.out (HRA.out _ (below_drewN HBR.out nq)) (scells_one _) (by simp only [maxLen]; omega) (by omega) (by have := HBR.out.size; simp; omega) ?_; intro v5 w5 ho5 hg5 _
             have HB5 := Lib.hid ((below_drewN HBR.out nq).grown hg5 (by have := HBR.out.size; simp; omega) (fun r e => by cases e))
             have HO5 := Lib.hid ho5
             obtain ⟨b0', b1', b2'⟩ := HS0.out _ HB5.out
             have HS5 := Lib.hid HB5.out.size
             have HRO := Lib.hid (rd_two w5 ss se)
             have HOA5 := Lib.hid (ho5.alloc (.cells #[.int .i64 ss, .int .i64 se] 24))
             clear ho5 hg5)
          | (at_builtin; refine wpList_append_rd _ rfl (.tmp 28) (.tmp 30) 51 rfl W0.heap.size 24 iS _ 2 16 Try.underlying51 hiS hS0 hS1 hS2 rfl (by decide) _ (0 + k) _ rfl HOA5.out _ 1 1 [.int .i64 ss, .int .i64 se] rfl rfl HRO.out (by simp [Value.oneCell']) (by simp only [maxLen]; omega) (by omega) (by have := HS5.out; simp; omega) ?_; intro v6 w6 ho6 hg6 _
             have HB6 := Lib.hid ((HB5.out.alloc HS5.out (.cells #[.int .i64 ss, .int .i64 se] 24)).grown hg6 (by have := HS5.out; simp; omega) (fun r e => (HOA5.out.lt r e).1))
             have HO6 := Lib.hid ho6
             have HS6 := Lib.hid HB6.out.size
             clear ho6 hg6)
          | (at_builtin; refine wpList_append_rd _ rfl (.tmp 32) (.tmp 35) 51 rfl W0.heap.size 24 iS _ 2 16 Try.underlying51 hiS hS0 hS1 hS2 rfl (by decide) _ (0 + k + 1) _ rfl HO6.out _ (n - k) cC (scells (r.drop k)) rfl HLC.out (HRC.out _ HB6.out) (scells_one _) (by simp only [maxLen]; omega) (by omega) (by have := HS6.out; simp; omega) ?_; intro v7 w7 ho7 hg7 _
             have HB7 := Lib.hid (HB6.out.grown hg7 (by have := HS6.out; simp; omega) (fun r e => (HO6.out.lt r e).1))
             have HO7 := Lib.hid ho7
             clear ho7 hg7))
        go_ret
        refine ⟨_, rfl, ?_, HB0.out.trans (HB7.out.mono hz0)⟩
        have h7 := own_mono HO7.out hz0
        rw [uput_length, HN.out, HF.out, scells_append, scells_append]
        rw [show 0 + k + 1 + (n - k) = n + 1 by omega] at h7
        simpa [scells, Sn.cells] using h7
    · have HF := Lib.hid (fin (fun z hz => by have := (List.getElem?_eq_some_iff.1 hz).1; have := HN.out; omega)).out
      clear fin
      have HLA : Hid ((scells (r.take k)).length = k * 2) := by show _ = _; rw [scells_length, List.length_take, HN.out]; congr 1; omega
      have HLC : Hid ((scells (r.drop k)).length = (n - k) * 2) := by show _ = _; rw [scells_length, List.length_drop, HN.out]
      go_wp2
      go_quiet (fail)
      go_wp2_with (first
        | (at_builtin; refine wpList_append_rd _ rfl (.tmp 23) (.tmp 26) 51 rfl W0.heap.size 24 iS _ 2 16 Try.underlying51 hiS hS0 hS1 hS2 rfl (by decide) _ 0 [] rfl (World.ownsRow_nil _ _ _ _) _ k cA (scells (r.take k)) rfl HLA.out (HRA.out _ (below_drewN HBR.out nq)) (scells_one _) (by simp only [maxLen]; omega) (by omega) (by have := HBR.out.size; simp; omega) ?_; intro v5 w5 ho5 hg5 _
           have HB5 := Lib.hid ((below_drewN HBR.out nq).grown hg5 (by have := HBR.out.size; simp; omega) (fun r e => by cases e))
           have HO5 := Lib.hid ho5
           obtain ⟨b0', b1', b2'⟩ := HS0.out _ HB5.out
           have HS5 := Lib.hid HB5.out.size
           have HRO := Lib.hid (rd_two w5 ss se)
           have HOA5 := Lib.hid (ho5.alloc (.cells #[.int .i64 ss, .int .i64 se] 24))
           clear ho5 hg5)
        | (at_builtin; refine wpList_append_rd _ rfl (.tmp 28) (.tmp 30) 51 rfl W0.heap.size 24 iS _ 2 16 Try.underlying51 hiS hS0 hS1 hS2 rfl (by decide) _ (0 + k) _ rfl HOA5.out _ 1 1 [.int .i64 ss, .int .i64 se] rfl rfl HRO.out (by simp [Value.oneCell']) (by simp only [maxLen]; omega) (by omega) (by have := HS5.out; simp; omega) ?_; intro v6 w6 ho6 hg6 _
           have HB6 := Lib.hid ((HB5.out.alloc HS5.out (.cells #[.int .i64 ss, .int .i64 se] 24)).grown hg6 (by have := HS5.out; simp; omega) (fun r e => (HOA5.out.lt r e).1))
           have HO6 := Lib.hid ho6
           have HS6 := Lib.hid HB6.out.size
           clear ho6 hg6)
        | (at_builtin; refine wpList_append_rd _ rfl (.tmp 32) (.tmp 35) 51 rfl W0.heap.size 24 iS _ 2 16 Try.underlying51 hiS hS0 hS1 hS2 rfl (by decide) _ (0 + k + 1) _ rfl HO6.out _ (n - k) cC (scells (r.drop k)) rfl HLC.out (HRC.out _ HB6.out) (scells_one _) (by simp only [maxLen]; omega) (by omega) (by have := HS6.out; simp; omega) ?_; intro v7 w7 ho7 hg7 _
           have HB7 := Lib.hid (HB6.out.grown hg7 (by have := HS6.out; simp; omega) (fun r e => (HO6.out.lt r e).1))
           have HO7 := Lib.hid ho7
           clear ho7 hg7))
      go_ret
      refine ⟨_, rfl, ?_, HB0.out.trans (HB7.out.mono hz0)⟩
      have h7 := own_mono HO7.out hz0
      rw [uput_length, HN.out, HF.out, scells_append, scells_append]
      rw [show 0 + k + 1 + (n - k) = n + 1 by omega] at h7
      simpa [scells, Sn.cells] using h7
end Go.Proofs.Ytjdfjaocidjhlaa
