/- The walk of the law GroupsMoves. -/
import Derived.Test.YtdbbipdkaahplaaOnly
import Derived.Test.YtdbbipdkaahplaaMovLaw
import Derived.RangeFuncWrites
namespace Go.Proofs.Ytdbbipdkaahplaa
open Go.RowKit

def movOk (p q g : Int) : Prop := mayB p g ∧ mayB q g
instance (p q g : Int) : Decidable (movOk p q g) := by unfold movOk; infer_instance
def movL (p q g : Int) : List Mv := if movOk p q g then refFold p q g g.toNat else []
def movE (p q g : Int) : Int := if movOk p q g then 0 else 2

set_option maxHeartbeats 400000 in
theorem Moves_no (p q g : Int) (w : World) (h : ¬ movOk p q g) :
    Calls Try.prog 12 #[.int .i64 p, .int .i64 q, .int .i64 g] w fun e w' => e = .returned (.tuple #[.slice none 0 0, .int .i64 2]) ∧ Below w.heap.size w w' := by
  have hB : Below w.heap.size w ((w.alloc (.cells #[.int .i64 q] 3)).alloc (.cells #[.int .i64 g] 3)) := ((Below.refl _ _).alloc (Nat.le_refl _) _).alloc (by simp) _
  have HB := Lib.hid hB
  by_cases hp : mayB p g
  · have hq : ¬ mayB q g := fun hq => h ⟨hp, hq⟩
    have Hp := Lib.hid hp
    have Hq := Lib.hid hq
    clear h hp hq hB
    go_enter Try.func12, Try.ntmps12
    go_wp2_with fail
    (with_reducible refine (may_yes _ _ _ Hp.out).mono ?_); rintro e w' ⟨rfl, rfl⟩
    go_wp2_with fail
    (with_reducible refine (may_no _ _ _ Hq.out).mono ?_); rintro e w' ⟨rfl, rfl⟩
    go_wp2
    go_ret2
    exact ⟨rfl, HB.out⟩
  · have Hp := Lib.hid hp
    clear h hp hB
    go_enter Try.func12, Try.ntmps12
    go_wp2_with fail
    (with_reducible refine (may_no _ _ _ Hp.out).mono ?_); rintro e w' ⟨rfl, rfl⟩
    go_wp2
    go_ret2
    exact ⟨rfl, HB.out⟩

set_option maxHeartbeats 400000 in
theorem refMoves_no (p q g : Int) (w : World) (h : ¬ movOk p q g) :
    Calls Try.prog 13 #[.int .i64 p, .int .i64 q, .int .i64 g] w fun e w' => e = .returned (.tuple #[.slice none 0 0, .int .i64 2]) ∧ Below w.heap.size w w' := by
  by_cases hp : mayB p g
  · have hq : ¬ mayB q g := fun hq => h ⟨hp, hq⟩
    have Hp := Lib.hid hp
    have Hq := Lib.hid hq
    clear h hp hq
    go_enter Try.func13, Try.ntmps13
    go_wp2_with fail
    (with_reducible refine (Workers_yes _ _ _ Hp.out).mono ?_); rintro e w' ⟨rfl, rfl⟩
    go_wp2_with fail
    (with_reducible refine (Workers_no _ _ _ Hq.out).mono ?_); rintro e w' ⟨rfl, rfl⟩
    go_wp2
    go_ret2
    exact ⟨rfl, Below.refl _ _⟩
  · have Hp := Lib.hid hp
    clear h hp
    go_enter Try.func13, Try.ntmps13
    go_wp2_with fail
    (with_reducible refine (Workers_no _ _ _ Hp.out).mono ?_); rintro e w' ⟨rfl, rfl⟩
    go_wp2
    go_ret2
    exact ⟨rfl, Below.refl _ _⟩

theorem Moves_any (p q g : Int) (w : World) :
    Calls Try.prog 12 #[.int .i64 p, .int .i64 q, .int .i64 g] w fun e w' => ∃ v, e = .returned (.tuple #[v, .int .i64 (movE p q g)]) ∧ Below w.heap.size w w' ∧ w'.ownsRow w.heap.size 40 4 v (movL p q g).length (mvCells (movL p q g)) := by
  unfold movE movL
  by_cases h : movOk p q g
  · rw [if_pos h, if_pos h]
    obtain ⟨P, rfl⟩ : ∃ P : Nat, p = P := ⟨p.toNat, by have := h.1.2.2.1; omega⟩
    rw [← moves_eq P q g h.1 h.2]
    exact Moves_yes P q g w h.1 h.2
  · rw [if_neg h, if_neg h]
    exact (Moves_no p q g w h).mono fun e w' ⟨he, hb⟩ => ⟨_, he, hb, World.ownsRow_nil _ _ _ _⟩

theorem refMoves_any (p q g : Int) (w : World) :
    Calls Try.prog 13 #[.int .i64 p, .int .i64 q, .int .i64 g] w fun e w' => ∃ v, e = .returned (.tuple #[v, .int .i64 (movE p q g)]) ∧ Below w.heap.size w w' ∧ w'.ownsRow w.heap.size 40 4 v (movL p q g).length (mvCells (movL p q g)) := by
  unfold movE movL
  by_cases h : movOk p q g
  · rw [if_pos h, if_pos h]
    exact refMoves_yes p q g w h.1 h.2
  · rw [if_neg h, if_neg h]
    exact (refMoves_no p q g w h).mono fun e w' ⟨he, hb⟩ => ⟨_, he, hb, World.ownsRow_nil _ _ _ _⟩

theorem movL_turn (p q g : Int) : movL q p g = (movL p q g).map Mv.turn := by
  unfold movL
  by_cases h : movOk p q g
  · rw [if_pos h, if_pos ⟨h.2, h.1⟩, refFold_turn]
  · rw [if_neg h, if_neg (fun hh => h ⟨hh.2, hh.1⟩)]; rfl
theorem movE_turn (p q g : Int) : movE q p g = movE p q g := by
  unfold movE
  by_cases h : movOk p q g
  · rw [if_pos h, if_pos ⟨h.2, h.1⟩]
  · rw [if_neg h, if_neg (fun hh => h ⟨hh.2, hh.1⟩)]
theorem movL_len (p q g : Int) : (movL p q g).length ≤ 32768 := by
  unfold movL
  split
  · rename_i h
    have := refFold_len p q g g.toNat
    have := h.1.2.1
    omega
  · simp

set_option maxRecDepth 100000 in
set_option maxHeartbeats 2000000 in
theorem movesLaw_any (p q g : Int) (w : World) :
    Calls Try.prog 4 #[.int .i64 p, .int .i64 q, .int .i64 g] w fun e w' => e = .returned (.bool true) ∧ Below w.heap.size w w' := by
  obtain ⟨i0, hi0, hz0, hz1, hz2⟩ := info_parts moveInfo
  have hlen := movL_len p q g
  have hA := Lib.hid (Moves_any p q g)
  have hC : Hid (∀ w, Calls Try.prog 12 #[.int .i64 q, .int .i64 p, .int .i64 g] w fun e w' => ∃ v, e = .returned (.tuple #[v, .int .i64 (movE p q g)]) ∧ Below w.heap.size w w' ∧ w'.ownsRow w.heap.size 40 4 v (movL p q g).length (mvCells ((movL p q g).map Mv.turn))) := by
    intro w
    have h := Moves_any q p g w
    rw [movE_turn, movL_turn, List.length_map] at h
    exact h
  have hR := Lib.hid (refMoves_any p q g)
  generalize movE p q g = E at *
  generalize movL p q g = L at *
  obtain ⟨n, hn⟩ : ∃ n, L.length = n := ⟨_, rfl⟩
  rw [hn] at hA hC hR hlen
  have HN := Lib.hid hn
  clear hn
  go_enter Try.func4, Try.ntmps4
  go_wp2_with fail
  (with_reducible refine (hA.out _).mono ?_); rintro e w1 ⟨va, rfl, hb1, hra⟩
  go_wp2_with fail
  (with_reducible refine (hA.out _).mono ?_); rintro e w2 ⟨vb, rfl, hb2, hrb⟩
  go_wp2_with fail
  (with_reducible refine (hC.out _).mono ?_); rintro e w3 ⟨vc, rfl, hb3, hrc⟩
  go_wp2_with fail
  (with_reducible refine (hR.out _).mono ?_); rintro e w4 ⟨vw, rfl, hb4, hrw⟩
  obtain ⟨aa, ca, rfl, hca, hca2⟩ := ownsRow_shape hra
  obtain ⟨ac, cc, rfl, hcc, hcc2⟩ := ownsRow_shape hrc
  obtain ⟨aw, cw, rfl, hcw, hcw2⟩ := ownsRow_shape hrw
  have hra4 := hra.kept (below_grown (below_trans (below_trans hb2 hb3) hb4) none) (by cases h : (Value.slice aa n ca).ownBlock <;> simp)
  have hrb4 := hrb.kept (below_grown (below_trans hb3 hb4) none) (by cases h : vb.ownBlock <;> simp)
  have hrc4 := hrc.kept (below_grown hb4 none) (by cases h : (Value.slice ac n cc).ownBlock <;> simp)
  have hsame := Lib.hid (SameMoves_any (Value.slice aa n ca) (Value.slice aw n cw) L w4 (by rw [HN.out]; exact Rd.of_owns hra4) (by rw [HN.out]; exact Rd.of_owns hrw))
  have HLA := Lib.hid hra.lt
  have HLB := Lib.hid hrb.lt
  have HB14 := Lib.hid (below_trans (below_trans hb2 hb3) hb4)
  have HB4 := Lib.hid (below_trans (below_trans (below_trans hb1 hb2) hb3) hb4)
  have HS14 := HB14.out.size
  have HS1 := hb1.size
  have HS4 := HB4.out.size
  have HLW := Lib.hid hrw.lt
  have HS3 := Lib.hid (below_trans hb2 hb3).size
  have HRA := Lib.hid hra4
  have HRB := Lib.hid hrb4
  have HRC := Lib.hid hrc4
  have HRW := Lib.hid hrw
  clear hra hrb hrc hrw hra4 hrb4 hrc4 hb1 hb2 hb3 hb4 hA hC hR
  unfold maxLen at hca2 hcc2 hcw2
  go_wp2_with (first
    | (go_at_call 14; (with_reducible refine (num_any _ _).mono ?_); rintro e w' ⟨rfl, rfl⟩)
    | (go_at_call 15; (with_reducible refine hsame.out.mono ?_); rintro e w5 ⟨rfl, hb5⟩))
  have HB5 := Lib.hid hb5
  clear hb5
  go_loopw [15] (fun i wr => ∃ k : Nat, i = .int .i64 k ∧ k ≤ n ∧ Below w4.heap.size w4 wr) (fun i _ => n - (intOf i).toNat)
  case atStart => exact ⟨0, rfl, Nat.zero_le _, HB5.out⟩
  case round =>
    obtain ⟨k, rfl, hk, hb⟩ := hrel
    have HBW := Lib.hid hb
    clear hb
    by_cases hlt : k < n
    · obtain ⟨g1, rfl, -, hg1, -, -, hx1, -⟩ := ownsRow_at HRC.out (by omega)
      obtain ⟨g2, rfl, -, hg2, -, -, hx2, -⟩ := ownsRow_at HRW.out (by omega)
      obtain ⟨m, hm⟩ : ∃ m, L[k]? = some m := ⟨_, List.getElem?_eq_getElem (by have := HN.out; omega)⟩
      obtain ⟨y0, y1, y2, y3⟩ := mvCells_at (L.map Mv.turn) k m.turn (by rw [List.getElem?_map, hm]; rfl)
      obtain ⟨z0, z1, z2, z3⟩ := mvCells_at L k m hm
      have f0 := (HBW.out.cell (p := ⟨g1, k * 4, none⟩) hg1).trans (hx1 _ _ y0)
      have f1 := (HBW.out.cell (p := ⟨g1, k * 4 + 1, none⟩) hg1).trans (hx1 _ _ y1)
      have f2 := (HBW.out.cell (p := ⟨g1, k * 4 + 2, none⟩) hg1).trans (hx1 _ _ y2)
      have f3 := (HBW.out.cell (p := ⟨g1, k * 4 + 3, none⟩) hg1).trans (hx1 _ _ y3)
      have q0 := (HBW.out.cell (p := ⟨g2, k * 4, none⟩) hg2).trans (hx2 _ _ z0)
      have q1 := (HBW.out.cell (p := ⟨g2, k * 4 + 1, none⟩) hg2).trans (hx2 _ _ z1)
      have q2 := (HBW.out.cell (p := ⟨g2, k * 4 + 2, none⟩) hg2).trans (hx2 _ _ z2)
      have q3 := (HBW.out.cell (p := ⟨g2, k * 4 + 3, none⟩) hg2).trans (hx2 _ _ z3)
      simp only [Mv.turn] at f0 f1 f2 f3
      clear hx1 hx2 y0 y1 y2 y3 z0 z1 z2 z3 hm
      obtain ⟨mf, mb, ms, md⟩ := m
      simp only at f0 f1 f2 f3 q0 q1 q2 q3
      go_wp2_with go_region
      all_goals go_roundw
      case rel => exact ⟨k + 1, by go_num, by omega, HBW.out.drew⟩
      case measure => simp [intOf]; omega
    · have HO1 := Lib.hid (only_of_below HBW.out (Value.slice aa n ca).ownBlock)
      have HRA1 := Lib.hid (HRA.out.kept (below_grown HBW.out none) (by cases h : (Value.slice aa n ca).ownBlock <;> simp))
      go_wp2
      obtain ⟨wo, rfl⟩ : ∃ wo : World, wo = wr := ⟨_, rfl⟩
      go_loopw [16] (fun i wr => ∃ k : Nat, i = .int .i64 k ∧ k ≤ n ∧ w4.grownBy wr (Value.slice aa n ca).ownBlock ∧ ∃ xs, wr.ownsRow w.heap.size 40 4 (.slice aa n ca) n xs) (fun i _ => n - (intOf i).toNat)
      case atStart => exact ⟨0, rfl, Nat.zero_le _, HO1.out, _, HRA1.out⟩
      case round =>
        obtain ⟨k2, rfl, hk2, hO2, xs, hR2⟩ := hrel
        have HO2 := Lib.hid hO2
        have HR2 := Lib.hid hR2
        clear hO2 hR2
        by_cases hlt2 : k2 < n
        · obtain ⟨g1, rfl, -, hg1, hg2, -, hx1, hy1⟩ := ownsRow_at HR2.out (by omega)
          obtain ⟨u0, e0⟩ := ownsRow_cell HR2.out (j := k2 * 4) (by omega)
          obtain ⟨u1, e1⟩ := ownsRow_cell HR2.out (j := k2 * 4 + 1) (by omega)
          obtain ⟨u2, e2⟩ := ownsRow_cell HR2.out (j := k2 * 4 + 2) (by omega)
          obtain ⟨u3, e3⟩ := ownsRow_cell HR2.out (j := k2 * 4 + 3) (by omega)
          have f0 := hx1 _ _ e0
          have f1 := hx1 _ _ e1
          have f2 := hx1 _ _ e2
          have f3 := hx1 _ _ e3
          have z0 := hy1 (k2 * 4)
          have z1 := hy1 (k2 * 4 + 1)
          have z2 := hy1 (k2 * 4 + 2)
          have z3 := hy1 (k2 * 4 + 3)
          clear hx1 hy1 e0 e1 e2 e3
          go_wp2
          go_roundw
          case rel => exact ⟨k2 + 1, by go_num, by omega, only_set (only_set (only_set (only_set HO2.out ⟨g1, k2 * 4, none⟩ _ (.inl rfl)) ⟨g1, k2 * 4 + 1, none⟩ _ (.inl rfl)) ⟨g1, k2 * 4 + 2, none⟩ _ (.inl rfl)) ⟨g1, k2 * 4 + 3, none⟩ _ (.inl rfl), _, ownsRow_set (ownsRow_set (ownsRow_set (ownsRow_set HR2.out _) _) _) _⟩
          case measure => simp [intOf]; omega
        · go_wp2
          obtain ⟨wo2, rfl⟩ : ∃ wo2 : World, wo2 = wr := ⟨_, rfl⟩
          go_loopw [7, 17] (fun v i wr => ∃ k : Nat, i = .int .i64 k ∧ k ≤ 20 ∧ w4.grownBy wr (Value.slice aa n ca).ownBlock ∧ (∀ b, v.ownBlock = some b → (Value.slice aa n ca).ownBlock = some b ∨ w4.heap.size ≤ b) ∧ ∃ xs, wr.ownsRow w.heap.size 40 4 v (n + k) xs) (fun _ i _ => 20 - (intOf i).toNat)
          case atStart => exact ⟨0, rfl, Nat.zero_le _, HO2.out, fun b h => .inl h, _, HR2.out⟩
          case round =>
            obtain ⟨k3, rfl, hk3, hO3, hV3, ys, hR3⟩ := hrel
            obtain ⟨a3, c3, rfl, hc3, hc4⟩ := ownsRow_shape hR3
            have hsz3 := hO3.size
            have HO3 := Lib.hid hO3
            have HV3 := Lib.hid hV3
            have HR3 := Lib.hid hR3
            clear hO3 hV3 hR3
            unfold maxLen at hc4
            by_cases hlt3 : k3 < 20
            · go_wp2_with (at_builtin; refine wpList_append_lies _ rfl _ _ 31 rfl w.heap.size 40 i0 _ 4 32 Try.underlying31 hi0 hz0 hz1 hz2 rfl (by decide) _ _ _ rfl (HR3.out.alloc _) ⟨wr.heap.size, 0, none⟩ 1 1 [.int .i64 0, .int .i64 0, .int .i64 0, .int .i64 0] rfl rfl (World.news_of_block (heap_alloc_new _ _)) (by simp [Value.oneCell']) (by omega) (by simp only [maxLen]; omega) (by omega) (by simp; omega) (wr.heap.size + 1) (by simp) ?_; intro gg cg w6 hown' hgrow hat hlt6)
              go_roundw
              case rel => exact ⟨k3 + 1, by go_num, by omega, only_step (only_alloc HO3.out _) hgrow HV3.out, (fun b hb => by
                have hb' : gg = b := by simpa [Value.ownBlock] using hb
                subst hb'
                rcases hat with h | h
                · exact HV3.out _ h
                · exact .inr (by omega)), _, hown'⟩
              case measure => simp [intOf]; omega
            · have hk20 : k3 = 20 := by omega
              have hd : ∀ u : Value, (∀ b, u.ownBlock = some b → w1.heap.size ≤ b) → u.ownBlock = none ∨ u.ownBlock ≠ (Value.slice aa n ca).ownBlock := by
                intro u hu
                cases hv : u.ownBlock with
                | none => exact .inl rfl
                | some b =>
                  refine .inr fun e => ?_
                  have := HLA.out b e.symm
                  have := hu b hv
                  omega
              have r1 := HRB.out.kept HO3.out (hd _ (fun b h => (HLB.out b h).1))
              have r2 := HRW.out.kept HO3.out (hd _ (fun b h => Nat.le_trans HS3.out (HLW.out b h).1))
              have hs2 := Lib.hid (SameMoves_any vb (Value.slice aw n cw) L wr (by rw [HN.out]; exact Rd.of_owns r1) (by rw [HN.out]; exact Rd.of_owns r2))
              have hge : (20 : Int) ≤ (n : Int) + (k3 : Int) := by omega
              have HBF := Lib.hid (HB4.out.trans (only_below HO3.out HS4 (fun b h => (HLA.out b h).1)))
              clear hd r1 r2 hk20
              go_wp2_with (first
                | (go_at_call 15; (with_reducible refine hs2.out.mono ?_); rintro e w7 ⟨rfl, hb7⟩)
                | (go_at_call 11; (with_reducible refine (known_any _).mono ?_); rintro e w8 ⟨rfl, hb8⟩))
              go_ret
              exact ⟨rfl, below_trans (below_trans HBF.out hb7) hb8⟩
end Go.Proofs.Ytdbbipdkaahplaa
