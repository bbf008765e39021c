/- The heap of holds: Less, Swap, by what they leave. -/
import Derived.Test.YtdndljbagjfkkaaHs
namespace Go.Proofs.Ytdndljbagjfkkaa
open Go.RowKit Go.Lib

section
variable {w w' : World} {X : Nat → Prop} {c : Nat} {mk mp v : Value} {n : Nat} {f : Nat → Nat} {nm : Nat → ByteArray} {tm : Nat → Int}
theorem hLess_yes (i j : Nat) (h : Hs w X c mk mp v n f nm tm) (hi : i < n) (hj : j < n) (hl : hlt nm tm (f i) (f j)) :
    Calls Try.prog 103 #[v, .int .i64 (i : Int), .int .i64 (j : Int)] w fun e w' => e = .returned (.bool true) ∧ Below w.heap.size w w' := by
  obtain ⟨q, cap, rfl, h1, h2, hc, -⟩ := h.at_ hi
  unfold maxLen at h2
  refine hLess_cells none q n cap i j (f i) (f j) _ _ _ _ w ⟨hi, hj, by omega, (hc i hi).1, (hc j hj).1, (h.ent i hi).cell 0, (h.ent i hi).cell 1, (h.ent j hj).cell 0, (h.ent j hj).cell 1⟩ true ?_
  unfold hlt at hl
  rcases hl with hl | ⟨hl, hl'⟩
  · simp [hl]
  · simp [hl, hl']
theorem hLess_no (i j : Nat) (h : Hs w X c mk mp v n f nm tm) (hi : i < n) (hj : j < n) (hl : ¬ hlt nm tm (f i) (f j)) :
    Calls Try.prog 103 #[v, .int .i64 (i : Int), .int .i64 (j : Int)] w fun e w' => e = .returned (.bool false) ∧ Below w.heap.size w w' := by
  obtain ⟨q, cap, rfl, h1, h2, hc, -⟩ := h.at_ hi
  unfold maxLen at h2
  refine hLess_cells none q n cap i j (f i) (f j) _ _ _ _ w ⟨hi, hj, by omega, (hc i hi).1, (hc j hj).1, (h.ent i hi).cell 0, (h.ent i hi).cell 1, (h.ent j hj).cell 0, (h.ent j hj).cell 1⟩ false ?_
  unfold hlt at hl
  symm
  rw [Bool.eq_false_iff]
  intro hh
  apply hl
  simp only [Bool.or_eq_true, decide_eq_true_eq, Bool.and_eq_true, beq_iff_eq] at hh
  exact hh
/-- The row behind a swap; the places not yet told. -/
theorem Hs.swapped {q cap i j : Nat} (h : Hs w X c mk mp (.slice (some ⟨q, 0, none⟩) n cap) n f nm tm) (_hij : i ≠ j) (hi : i < n) (hj : j < n) :
    ∀ W2, W2 = ((w.setCell ⟨q, i, none⟩ (.pointer (some ⟨f j, 0, none⟩))).setCell ⟨q, j, none⟩ (.pointer (some ⟨f i, 0, none⟩))).drew →
    W2.ownsRow 0 77 1 (.slice (some ⟨q, 0, none⟩) n cap) n (hc (Hp.sw f i j) n) ∧ Only X w W2 ∧ Bk W2 c 70 #[mk, .slice (some ⟨q, 0, none⟩) n cap, mp] ∧
    (∀ k, k < n → Bk W2 (f k) 82 #[.string (nm (f k)), .int .i64 (tm (f k)), .int .i64 (k : Int)]) ∧ W2.cell? ⟨q, i, none⟩ = some (.pointer (some ⟨f j, 0, none⟩)) ∧ W2.cell? ⟨q, j, none⟩ = some (.pointer (some ⟨f i, 0, none⟩)) := by
  rintro W2 rfl
  have ho := ownsRow_set (j := j) (ownsRow_set (j := i) h.own (.pointer (some ⟨f j, 0, none⟩))) (.pointer (some ⟨f i, 0, none⟩))
  rw [hc_sw f hi hj] at ho
  have hq : X q := h.xv q rfl
  have hne : ∀ {g : Nat} {t : TypeId} {cs : Array Value}, Bk w g t cs → 77 ≠ t → g ≠ q := fun hb ht e => own_bk_ne h.own hb ht (by rw [e]; rfl)
  have far : ∀ {g : Nat} {t : TypeId} {cs : Array Value}, Bk w g t cs → 77 ≠ t → Bk ((w.setCell ⟨q, i, none⟩ (.pointer (some ⟨f j, 0, none⟩))).setCell ⟨q, j, none⟩ (.pointer (some ⟨f i, 0, none⟩))).drew g t cs := fun hb ht => ((hb.far (p := ⟨q, i, none⟩) (hne hb ht) _).far (p := ⟨q, j, none⟩) (hne hb ht) _).drewN 1
  have hcell : ∀ k, k < n → (((w.setCell ⟨q, i, none⟩ (.pointer (some ⟨f j, 0, none⟩))).setCell ⟨q, j, none⟩ (.pointer (some ⟨f i, 0, none⟩))).drew).cell? ⟨q, k, none⟩ = some (.pointer (some ⟨Hp.sw f i j k, 0, none⟩)) := fun k hk => by
    obtain ⟨g, hg, _, _, _, _, hx, _⟩ := ownsRow_at ho (by omega)
    cases hg
    exact hx k _ (hc_at _ hk)
  exact ⟨ho, ((Only.set ⟨q, i, none⟩ _ hq w).then (Only.set ⟨q, j, none⟩ _ hq _)).then (Only.drewN 1 _), far h.blk (by decide), fun k hk => far (h.ent k hk) (by decide), by rw [hcell i hi, Hp.sw_i], by rw [hcell j hj, Hp.sw_j]⟩
/-- .. and told. -/
theorem Hs.placed {q cap i j : Nat} {W2 : World} (h : Hs w X c mk mp (.slice (some ⟨q, 0, none⟩) n cap) n f nm tm) (hij : i ≠ j) (hi : i < n) (hj : j < n)
    (ho : W2.ownsRow 0 77 1 (.slice (some ⟨q, 0, none⟩) n cap) n (hc (Hp.sw f i j) n)) (hX : Only X w W2) (hb : Bk W2 c 70 #[mk, .slice (some ⟨q, 0, none⟩) n cap, mp])
    (he : ∀ k, k < n → Bk W2 (f k) 82 #[.string (nm (f k)), .int .i64 (tm (f k)), .int .i64 (k : Int)]) :
    ∀ W3, W3 = ((W2.setCell ⟨f j, 2, none⟩ (.int .i64 (i : Int))).setCell ⟨f i, 2, none⟩ (.int .i64 (j : Int))).drew → Hs W3 X c mk mp (.slice (some ⟨q, 0, none⟩) n cap) n (Hp.sw f i j) nm tm ∧ Only X w W3 := by
  rintro W3 rfl
  have hne : f j ≠ f i := fun e => hij (h.inj _ _ hi hj e.symm)
  have hbi := he i hi
  have hbj := he j hj
  have far : ∀ {g : Nat} {t : TypeId} {cs : Array Value}, Bk W2 g t cs → g ≠ f j → g ≠ f i → Bk ((W2.setCell ⟨f j, 2, none⟩ (.int .i64 (i : Int))).setCell ⟨f i, 2, none⟩ (.int .i64 (j : Int))).drew g t cs := fun hb h1 h2 => ((hb.far (p := ⟨f j, 2, none⟩) h1 _).far (p := ⟨f i, 2, none⟩) h2 _).drewN 1
  refine ⟨⟨far hb (fun e => hb.ne hbj (by decide) e) (fun e => hb.ne hbi (by decide) e), ?_, fun k hk => ?_, (Hp.Same.swap f hi hj).inj h.inj, h.xc, h.xv, fun k hk => ?_⟩, hX.then (((Only.set ⟨f j, 2, none⟩ _ (h.xf j hj) _).then (Only.set ⟨f i, 2, none⟩ _ (h.xf i hi) _)).then (Only.drewN 1 _))⟩
  · exact ownsRow_drew (own_set (own_set ho hbj (by decide) 2 _) (hbi.far (p := ⟨f j, 2, none⟩) hne.symm _) (by decide) 2 _)
  · by_cases hki : k = i
    · subst hki
      rw [Hp.sw_i]
      exact (((hbj.set 2 (.int .i64 (k : Int))).far (p := ⟨f k, 2, none⟩) hne _).drewN 1)
    · by_cases hkj : k = j
      · subst hkj
        rw [Hp.sw_j]
        exact (((hbi.far (p := ⟨f k, 2, none⟩) hne.symm _).set 2 (.int .i64 (k : Int))).drewN 1)
      · rw [Hp.sw_k f hki hkj]
        exact far (he k hk) (fun e => hkj (h.inj _ _ hk hj e)) (fun e => hki (h.inj _ _ hk hi e))
  · obtain ⟨l, hl, e⟩ := (Hp.Same.swap f hi hj).bwd k hk
    rw [← e]
    exact h.xf l hl
set_option maxRecDepth 100000 in
theorem hSwap_any (i j : Nat) (h : Hs w X c mk mp v n f nm tm) (hij : i ≠ j) (hi : i < n) (hj : j < n) :
    Calls Try.prog 104 #[v, .int .i64 (i : Int), .int .i64 (j : Int)] w fun e w' => e = .returned (.tuple #[]) ∧ Hs w' X c mk mp v n (Hp.sw f i j) nm tm ∧ Only X w w' := by
  obtain ⟨q, cap, rfl, h1, h2, hcc, -⟩ := h.at_ hi
  unfold maxLen at h2
  have hm : n ≤ 9223372036854775807 := by omega
  obtain ⟨ci, fi⟩ := hcc i hi
  obtain ⟨cj, fj⟩ := hcc j hj
  have hii : (i : Int) < (n : Int) := by omega
  have hjj : (j : Int) < (n : Int) := by omega
  have hi0 : (0 : Int) ≤ (i : Int) := by omega
  have hj0 : (0 : Int) ≤ (j : Int) := by omega
  have HH := Lib.hid h
  have HS := Lib.hid (h.swapped hij hi hj)
  have HNE : Hid (f j ≠ f i) := fun e => hij (h.inj _ _ hi hj e.symm)
  clear hcc h
  go_enter Try.func104, Try.ntmps104
  go_wp2
  go_region
  obtain ⟨ho, hX, hb, he, di, dj⟩ := HS.out _ rfl
  generalize ((w.setCell ⟨q, i, none⟩ (.pointer (some ⟨f j, 0, none⟩))).setCell ⟨q, j, none⟩ (.pointer (some ⟨f i, 0, none⟩))).drew = W2 at *
  have hbi : W2.cell? ⟨f i, 2, none⟩ = some (.int .i64 (i : Int)) := (he i hi).cell 2
  have hbj : W2.cell? ⟨f j, 2, none⟩ = some (.int .i64 (j : Int)) := (he j hj).cell 2
  have ei := (he i hi).frozen 2
  have ej := (he j hj).frozen 2
  have HP := Lib.hid (HH.out.placed hij hi hj ho hX hb he)
  have hne := HNE.out
  have hne2 := HNE.out.symm
  clear ho hX hb he ci cj fi fj
  go_wp2
  go_region
  obtain ⟨k1, k2⟩ := HP.out _ rfl
  go_end0
  exact ⟨rfl, k1, k2⟩
end
end Go.Proofs.Ytdndljbagjfkkaa
