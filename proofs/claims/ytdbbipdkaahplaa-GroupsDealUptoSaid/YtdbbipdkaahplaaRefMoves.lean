/- The walk of the document's Moves. -/
import Derived.Test.YtdbbipdkaahplaaOwners
import Derived.Deep.AppendLies
import Derived.Deep.RegionHeld3
namespace Go.Proofs.Ytdbbipdkaahplaa
open Go.RowKit

def refStep (p q g : Int) (out : List Mv) (x : Nat) : List Mv :=
  if owner p g x = owner q g x then out
  else match out.getLast? with
    | none => out ++ [⟨x, x + 1, owner p g x, owner q g x⟩]
    | some m => if m.behind = x ∧ m.src = owner p g x ∧ m.dst = owner q g x then out.dropLast ++ [⟨m.first, x + 1, m.src, m.dst⟩] else out ++ [⟨x, x + 1, owner p g x, owner q g x⟩]
def refFold (p q g : Int) (n : Nat) : List Mv := (List.range n).foldl (refStep p q g) []
theorem refFold_succ (p q g : Int) (n : Nat) : refFold p q g (n + 1) = refStep p q g (refFold p q g n) n := by simp [refFold, List.range_succ]
theorem refStep_len (p q g : Int) (out : List Mv) (x : Nat) : (refStep p q g out x).length ≤ out.length + 1 := by
  unfold refStep
  split
  · omega
  · split
    · simp
    · split
      · simp
      · simp
theorem refFold_len (p q g : Int) : ∀ n, (refFold p q g n).length ≤ n
  | 0 => by simp [refFold]
  | n + 1 => by rw [refFold_succ]; exact Nat.le_trans (refStep_len _ _ _ _ _) (by have := refFold_len p q g n; omega)

theorem ownsRow_mono {w : World} {b b' : Nat} {e : TypeId} {size : Nat} {v : Value} {n : Nat} {xs : List Value} (h : w.ownsRow b e size v n xs) (hb : b' ≤ b) : w.ownsRow b' e size v n xs := by
  obtain ⟨h1, h2⟩ := h
  refine ⟨h1, h2.imp id ?_⟩
  rintro ⟨g, cap, cur, hv, hg, r⟩
  exact ⟨g, cap, cur, hv, by omega, r⟩

theorem ownL_at (p g : Int) (n x : Nat) (h : x < n) : (ownL p g n)[x]? = some (.int .i64 (owner p g x)) := by
  simp [ownL, h]

theorem owns_snoc {w : World} {B : Nat} {v : Value} {n : Nat} {l : List Mv} {m : Mv} (hn : n = l.length) (h : w.ownsRow B 40 4 v (n + 1) (mvCells l ++ Mv.cells m)) : w.ownsRow B 40 4 v (l ++ [m]).length (mvCells (l ++ [m])) := by
  rw [mvCells_append, List.length_append, List.length_singleton, ← hn]
  have e : mvCells [m] = Mv.cells m := by simp [mvCells]
  rw [e]; exact h

/-- One cell of an owned row is written. -/
theorem ownsRow_set {w : World} {base : Nat} {e : TypeId} {size n cap g j : Nat} {xs : List Value} (h : w.ownsRow base e size (.slice (some ⟨g, 0, none⟩) n cap) n xs) (u : Value) :
    (w.setCell ⟨g, j, none⟩ u).ownsRow base e size (.slice (some ⟨g, 0, none⟩) n cap) n (xs.set j u) := by
  obtain ⟨h1, h2⟩ := h
  refine ⟨by rw [List.length_set]; exact h1, ?_⟩
  rcases h2 with ⟨h2, _⟩ | ⟨g', cap', cur, hv, hb, hh, hc, hm, hs, ht⟩
  · cases h2
  · cases hv
    refine .inr ⟨g, cap, cur.setIfInBounds j u, rfl, hb, ?_, hc, hm, by simpa using hs, ?_⟩
    · obtain ⟨hlt, hk⟩ := Array.getElem?_eq_some_iff.1 hh
      show (w.heap.modify g _)[g]? = _
      rw [Array.getElem?_eq_getElem (by rw [Array.size_modify]; exact hlt), Array.getElem_modify_self, hk]
      rfl
    · rw [← ht]
      simp only [Array.toList_setIfInBounds]
      rw [List.take_set]

theorem owns_turn {w : World} {B g cap : Nat} {L : List Mv} {mf mb mb' ms md : Int} (h : w.ownsRow B 40 4 (.slice (some ⟨g, 0, none⟩) (L.length + 1) cap) (L.length + 1) (mvCells (L ++ [⟨mf, mb, ms, md⟩]))) :
    (w.setCell ⟨g, L.length * 4 + 1, none⟩ (.int .i64 mb')).ownsRow B 40 4 (.slice (some ⟨g, 0, none⟩) (L.length + 1) cap) (L ++ [(⟨mf, mb', ms, md⟩ : Mv)]).length (mvCells (L ++ [⟨mf, mb', ms, md⟩])) := by
  have h1 := ownsRow_set (j := L.length * 4 + 1) h (.int .i64 mb')
  have e : (mvCells (L ++ [(⟨mf, mb, ms, md⟩ : Mv)])).set (L.length * 4 + 1) (.int .i64 mb') = mvCells (L ++ [⟨mf, mb', ms, md⟩]) := by
    rw [mvCells_append, mvCells_append, List.set_append_right _ _ (by rw [mvCells_length]; omega), mvCells_length]
    have e1 : L.length * 4 + 1 - L.length * 4 = 1 := by omega
    rw [e1]; rfl
  rw [e] at h1
  rw [List.length_append, List.length_singleton]
  exact h1

set_option maxRecDepth 100000 in
set_option maxHeartbeats 2000000 in
theorem refMoves_yes (p q g : Int) (w : World) (hp : mayB p g) (hq : mayB q g) :
    Calls Try.prog 13 #[.int .i64 p, .int .i64 q, .int .i64 g] w fun e w' => ∃ v, e = .returned (.tuple #[v, .int .i64 0]) ∧ Below w.heap.size w w' ∧ w'.ownsRow w.heap.size 40 4 v (refFold p q g g.toNat).length (mvCells (refFold p q g g.toNat)) := by
  have Hp := Lib.hid hp
  have Hq := Lib.hid hq
  obtain ⟨g1, g2, p1, p2⟩ := id hp
  obtain ⟨-, -, q1, q2⟩ := id hq
  clear hp hq
  obtain ⟨G, rfl⟩ : ∃ G : Nat, g = G := ⟨g.toNat, by omega⟩
  rw [Int.toNat_natCast]
  obtain ⟨i0, hi0, hz0, hz1, hz2⟩ := info_parts moveInfo
  go_enter Try.func13, Try.ntmps13
  go_wp2_with fail
  (with_reducible refine (Workers_yes _ _ _ Hp.out).mono ?_); rintro e w' ⟨rfl, rfl⟩
  go_wp2_with fail
  (with_reducible refine (Workers_yes _ _ _ Hq.out).mono ?_); rintro e w' ⟨rfl, rfl⟩
  go_wp2_with fail
  (with_reducible refine (owners_any _ _ _ Hp.out).mono ?_); rintro e w1 ⟨va, rfl, hb1, hra⟩
  go_wp2_with fail
  (with_reducible refine (owners_any _ _ _ Hq.out).mono ?_); rintro e w2 ⟨vb, rfl, hb2, hrb⟩
  rw [Int.toNat_natCast] at hra hrb
  obtain ⟨G', rfl⟩ : ∃ G', G = G' + 1 := ⟨G - 1, by omega⟩
  obtain ⟨ga, capa, rfl, ga1, ga2, ga3, ga4, gac, -⟩ := ownsRow_open hra
  obtain ⟨gb, capb, rfl, gb1, gb2, gb3, gb4, gbc, -⟩ := ownsRow_open hrb
  have hac : Hid (∀ W, Below w2.heap.size w2 W → ∀ x, x < G' + 1 → W.cell? ⟨ga, x, none⟩ = some (.int .i64 (owner p ((G' + 1 : Nat) : Int) x)) ∧ W.cell? ⟨gb, x, none⟩ = some (.int .i64 (owner q ((G' + 1 : Nat) : Int) x))) := by
    intro W hW x hx
    refine ⟨((hW.cell (p := ⟨ga, x, none⟩) ?_).trans (hb2.cell (p := ⟨ga, x, none⟩) ga2)).trans (gac x _ (ownL_at _ _ _ _ hx)), (hW.cell (p := ⟨gb, x, none⟩) gb2).trans (gbc x _ (ownL_at _ _ _ _ hx))⟩
    exact Nat.lt_of_lt_of_le ga2 hb2.size
  have HB := Lib.hid (below_trans hb1 hb2)
  clear hra hrb gac gbc hb1 hb2 ga1 gb1
  generalize hGG : G' + 1 = G at *
  have HGG := Lib.hid hGG
  clear hGG
  unfold maxLen at ga4 gb4
  go_wp2
  go_loopw [10, 11] (fun v i wr => ∃ x : Nat, i = .int .i64 (x : Int) ∧ x ≤ G ∧ Below w2.heap.size w2 wr ∧ wr.ownsRow w2.heap.size 40 4 v (refFold p q G x).length (mvCells (refFold p q G x))) (fun _ i _ => G - (intOf i).toNat)
  case atStart => exact ⟨0, rfl, by omega, Below.refl _ _, World.ownsRow_nil _ _ _ _⟩
  case round =>
    obtain ⟨x, rfl, hx, hb, hrow⟩ := hrel
    by_cases hlt : x < G
    · obtain ⟨fa, fb⟩ := hac.out wr hb x hlt
      have HS := Lib.hid (refFold_succ p q G x)
      have hlen := refFold_len p q G x
      have HROW := Lib.hid hrow
      have HBB := Lib.hid hb
      have hsz := hb.size
      clear hrow hb
      by_cases hab : owner p G x = owner q G x
      · have hstep : refFold p q G (x + 1) = refFold p q G x := by rw [HS.out, refStep, if_pos hab]
        have HST := Lib.hid hstep
        have hab1 : (owner p G x == owner q G x) = true := beq_iff_eq.2 hab
        clear hab hstep
        generalize owner p G x = a at *
        generalize owner q G x = b at *
        go_wp2_with go_region
        all_goals go_roundw
        case rel => exact ⟨x + 1, by go_num, by omega, HBB.out.drew, by rw [HST.out]; exact HROW.out.drew⟩
        case measure => simp [intOf]; omega
      · have hab1 : (owner p G x == owner q G x) = false := beq_eq_false_iff_ne.2 hab
        rcases List.eq_nil_or_concat (refFold p q G x) with hnil | ⟨L, m, hL⟩
        · have hstep : refFold p q G (x + 1) = [] ++ [⟨x, x + 1, owner p G x, owner q G x⟩] := by rw [HS.out, hnil, refStep, if_neg hab]; rfl
          have hrow := HROW.out
          rw [hnil] at hrow
          obtain ⟨a0, c0, rfl, hc0, hc1, -⟩ := Rd.of_owns hrow
          have HR := Lib.hid hrow
          have HLT := Lib.hid hrow.lt
          have HST := Lib.hid hstep
          clear hab hstep hrow hnil HROW
          have HKS : Hid (∀ W, Below w2.heap.size w2 W → Below w2.heap.size w2 W ∧ W.cell? ⟨ga, x, none⟩ = some (.int .i64 (owner p G x)) ∧ W.cell? ⟨gb, x, none⟩ = some (.int .i64 (owner q G x))) := fun W hW => ⟨hW, hac.out W hW x hlt⟩
          generalize owner p G x = a at *
          generalize owner q G x = b at *
          unfold maxLen at hc1
          go_wp2_with go_region
          have hwr : IntKind.i64.wrap ((x : Int) + 1) = (x : Int) + 1 := IntWalk.i64_in _ (by omega)
          go_region_held3 (fun W => Below w2.heap.size w2 W ∧ W.cell? ⟨ga, x, none⟩ = some (.int .i64 a) ∧ W.cell? ⟨gb, x, none⟩ = some (.int .i64 b))
            (first
              | exact HKS.out _ HBB.out.drew.drew.drew
              | exact HKS.out _ (HBB.out.alloc hsz _).drew.drew.drew
              | exact HKS.out _ hb4)
            ((refine step_append_lies _ (by rfl) _ _ _ (by rfl) w2.heap.size 40 i0 _ 4 32 Try.underlying31 hi0 hz0 hz1 hz2 rfl (by omega) _ _ _ (by rfl) ((HR.out.alloc _).drew.drew.drew) ⟨wr.heap.size, 0, none⟩ 1 1 [.int .i64 x, .int .i64 (x + 1), .int .i64 a, .int .i64 b] (by rfl) (by rfl) (World.news_of_block (cs := #[.int .i64 x, .int .i64 (x + 1), .int .i64 a, .int .i64 b]) (t := 40) (fr := (0, 0)) (heap_alloc_new _ _)) (by simp [Value.oneCell']) (by omega) (by simp only [maxLen, List.length_nil]; omega) (by simp only [List.length_nil]; omega) (by simp; omega) (wr.heap.size + 1) (by simp) ?_; intro gg cap w4 hown4 hgrow4 hat4 hlt4; have hb4 : Below w2.heap.size w2 w4 := (HBB.out.alloc hsz _).drew.drew.drew.grown hgrow4 (by simp; omega) (fun k e => (HLT.out k e).1)))
          clear hwr
          have hq := owns_snoc (m := ⟨x, x + 1, a, b⟩) (by simp) hown4
          have HQ := Lib.hid hq
          clear hq hown4
          go_wp2
          go_roundw
          case rel => exact ⟨x + 1, by go_num, by omega, hb4, by rw [HST.out]; exact HQ.out⟩
          case measure => simp [intOf]; omega
        · obtain ⟨mf, mb, ms, md⟩ := m
          rw [List.concat_eq_append] at hL
          have hrow := HROW.out
          rw [hL] at hrow hlen
          rw [List.length_append, List.length_singleton] at hrow hlen
          have hgl : (L ++ [(⟨mf, mb, ms, md⟩ : Mv)]).getLast? = some ⟨mf, mb, ms, md⟩ := by simp
          obtain ⟨gm, cm, rfl, -, hgm, hc0, hc1, hcell, hfr⟩ := ownsRow_open hrow
          have hmc : (mvCells (L ++ [(⟨mf, mb, ms, md⟩ : Mv)]))[L.length * 4 + 1]? = some (.int .i64 mb) ∧ (mvCells (L ++ [(⟨mf, mb, ms, md⟩ : Mv)]))[L.length * 4 + 2]? = some (.int .i64 ms) ∧ (mvCells (L ++ [(⟨mf, mb, ms, md⟩ : Mv)]))[L.length * 4 + 3]? = some (.int .i64 md) :=
            (mvCells_at (L ++ [(⟨mf, mb, ms, md⟩ : Mv)]) L.length ⟨mf, mb, ms, md⟩ (by simp)).2
          have fm1 := hcell _ _ hmc.1
          have fm2 := hcell _ _ hmc.2.1
          have fm3 := hcell _ _ hmc.2.2
          have ff1 := hfr (L.length * 4 + 1)
          have HR := Lib.hid hrow
          have HLT := Lib.hid hrow.lt
          have HS2 : Hid (refFold p q G (x + 1) = refStep p q G (L ++ [⟨mf, mb, ms, md⟩]) x) := by rw [HS.out, hL]; rfl
          have HGL := Lib.hid hgl
          have HAB := Lib.hid hab
          have HKS : Hid (∀ W, Below w2.heap.size w2 W → Below w2.heap.size w2 W ∧ W.cell? ⟨ga, x, none⟩ = some (.int .i64 (owner p G x)) ∧ W.cell? ⟨gb, x, none⟩ = some (.int .i64 (owner q G x))) := fun W hW => ⟨hW, hac.out W hW x hlt⟩
          clear hcell hfr hmc hrow HROW hgl hab HS hL
          unfold maxLen at hc1
          by_cases c1 : mb = x
          · have d1 : (mb == (x : Int)) = true := beq_iff_eq.2 c1
            by_cases c2 : ms = owner p G x
            · have d2 : (ms == owner p G x) = true := beq_iff_eq.2 c2
              by_cases c3 : md = owner q G x
              · have d3 : (md == owner q G x) = true := beq_iff_eq.2 c3
                have hstep : refFold p q G (x + 1) = L ++ [⟨mf, mb + 1, ms, md⟩] := by rw [HS2.out, refStep, if_neg HAB.out, HGL.out]; simp only [c1, c2, c3, and_self, if_true, List.dropLast_concat]
                have HST := Lib.hid hstep
                have C1 := Lib.hid c1
                clear hstep HS2 HGL HAB c1 c2 c3
                generalize owner p G x = a at *
                generalize owner q G x = b at *
                have hmb : -1000000 < mb ∧ mb < 1000000 := by have := C1.out; omega
                obtain ⟨hmb1, hmb2⟩ := hmb
                go_wp2_with go_region
                go_roundw
                case rel => exact ⟨x + 1, by go_num, by omega, (HBB.out.setCell (p := ⟨gm, L.length * 4 + 1, none⟩) (HLT.out gm rfl).1 _).drew.drew, by rw [HST.out]; exact owns_turn HR.out⟩
                case measure => simp [intOf]; omega
              · have d3 : (md == owner q G x) = false := beq_eq_false_iff_ne.2 c3
                have C3 := Lib.hid c3
                clear c1 c2 c3
                have hstep : refFold p q G (x + 1) = (L ++ [⟨mf, mb, ms, md⟩]) ++ [⟨x, x + 1, owner p G x, owner q G x⟩] := by rw [HS2.out, refStep, if_neg HAB.out, HGL.out]; exact if_neg (fun h => C3.out h.2.2)
                have HST := Lib.hid hstep
                clear hstep HS2 HGL HAB
                generalize owner p G x = a at *
                generalize owner q G x = b at *
                go_wp2_with go_region
                have hwr : IntKind.i64.wrap ((x : Int) + 1) = (x : Int) + 1 := IntWalk.i64_in _ (by omega)
                go_region_held3 (fun W => Below w2.heap.size w2 W ∧ W.cell? ⟨ga, x, none⟩ = some (.int .i64 a) ∧ W.cell? ⟨gb, x, none⟩ = some (.int .i64 b))
                  (first
                    | exact HKS.out _ HBB.out.drew.drew.drew
                    | exact HKS.out _ (HBB.out.alloc hsz _).drew.drew.drew
                    | exact HKS.out _ hb4)
                  ((refine step_append_lies _ (by rfl) _ _ _ (by rfl) w2.heap.size 40 i0 _ 4 32 Try.underlying31 hi0 hz0 hz1 hz2 rfl (by omega) _ _ _ (by rfl) ((HR.out.alloc _).drew.drew.drew) ⟨wr.heap.size, 0, none⟩ 1 1 [.int .i64 x, .int .i64 (x + 1), .int .i64 a, .int .i64 b] (by rfl) (by rfl) (World.news_of_block (cs := #[.int .i64 x, .int .i64 (x + 1), .int .i64 a, .int .i64 b]) (t := 40) (fr := (0, 0)) (heap_alloc_new _ _)) (by simp [Value.oneCell']) (by omega) (by simp only [maxLen]; omega) (by omega) (by simp; omega) (wr.heap.size + 1) (by simp) ?_; intro gg cap w4 hown4 hgrow4 hat4 hlt4; have hb4 : Below w2.heap.size w2 w4 := (HBB.out.alloc hsz _).drew.drew.drew.grown hgrow4 (by simp; omega) (fun k e => (HLT.out k e).1)))
                clear hwr
                have hq := owns_snoc (m := ⟨x, x + 1, a, b⟩) (by simp) hown4
                have HQ := Lib.hid hq
                clear hq hown4
                go_wp2
                go_roundw
                case rel => exact ⟨x + 1, by go_num, by omega, hb4, by rw [HST.out]; exact HQ.out⟩
                case measure => simp [intOf]; omega
            · have d2 : (ms == owner p G x) = false := beq_eq_false_iff_ne.2 c2
              have C2 := Lib.hid c2
              clear c1 c2
              have hstep : refFold p q G (x + 1) = (L ++ [⟨mf, mb, ms, md⟩]) ++ [⟨x, x + 1, owner p G x, owner q G x⟩] := by rw [HS2.out, refStep, if_neg HAB.out, HGL.out]; exact if_neg (fun h => C2.out h.2.1)
              have HST := Lib.hid hstep
              clear hstep HS2 HGL HAB
              generalize owner p G x = a at *
              generalize owner q G x = b at *
              go_wp2_with go_region
              have hwr : IntKind.i64.wrap ((x : Int) + 1) = (x : Int) + 1 := IntWalk.i64_in _ (by omega)
              go_region_held3 (fun W => Below w2.heap.size w2 W ∧ W.cell? ⟨ga, x, none⟩ = some (.int .i64 a) ∧ W.cell? ⟨gb, x, none⟩ = some (.int .i64 b))
                (first
                  | exact HKS.out _ HBB.out.drew.drew.drew
                  | exact HKS.out _ (HBB.out.alloc hsz _).drew.drew.drew
                  | exact HKS.out _ hb4)
                ((refine step_append_lies _ (by rfl) _ _ _ (by rfl) w2.heap.size 40 i0 _ 4 32 Try.underlying31 hi0 hz0 hz1 hz2 rfl (by omega) _ _ _ (by rfl) ((HR.out.alloc _).drew.drew.drew) ⟨wr.heap.size, 0, none⟩ 1 1 [.int .i64 x, .int .i64 (x + 1), .int .i64 a, .int .i64 b] (by rfl) (by rfl) (World.news_of_block (cs := #[.int .i64 x, .int .i64 (x + 1), .int .i64 a, .int .i64 b]) (t := 40) (fr := (0, 0)) (heap_alloc_new _ _)) (by simp [Value.oneCell']) (by omega) (by simp only [maxLen]; omega) (by omega) (by simp; omega) (wr.heap.size + 1) (by simp) ?_; intro gg cap w4 hown4 hgrow4 hat4 hlt4; have hb4 : Below w2.heap.size w2 w4 := (HBB.out.alloc hsz _).drew.drew.drew.grown hgrow4 (by simp; omega) (fun k e => (HLT.out k e).1)))
              clear hwr
              have hq := owns_snoc (m := ⟨x, x + 1, a, b⟩) (by simp) hown4
              have HQ := Lib.hid hq
              clear hq hown4
              go_wp2
              go_roundw
              case rel => exact ⟨x + 1, by go_num, by omega, hb4, by rw [HST.out]; exact HQ.out⟩
              case measure => simp [intOf]; omega
          · have d1 : (mb == (x : Int)) = false := beq_eq_false_iff_ne.2 c1
            have C1 := Lib.hid c1
            clear c1
            have hstep : refFold p q G (x + 1) = (L ++ [⟨mf, mb, ms, md⟩]) ++ [⟨x, x + 1, owner p G x, owner q G x⟩] := by rw [HS2.out, refStep, if_neg HAB.out, HGL.out]; exact if_neg (fun h => C1.out h.1)
            have HST := Lib.hid hstep
            clear hstep HS2 HGL HAB
            generalize owner p G x = a at *
            generalize owner q G x = b at *
            go_wp2_with go_region
            have hwr : IntKind.i64.wrap ((x : Int) + 1) = (x : Int) + 1 := IntWalk.i64_in _ (by omega)
            go_region_held3 (fun W => Below w2.heap.size w2 W ∧ W.cell? ⟨ga, x, none⟩ = some (.int .i64 a) ∧ W.cell? ⟨gb, x, none⟩ = some (.int .i64 b))
              (first
                | exact HKS.out _ HBB.out.drew.drew.drew
                | exact HKS.out _ (HBB.out.alloc hsz _).drew.drew.drew
                | exact HKS.out _ hb4)
              ((refine step_append_lies _ (by rfl) _ _ _ (by rfl) w2.heap.size 40 i0 _ 4 32 Try.underlying31 hi0 hz0 hz1 hz2 rfl (by omega) _ _ _ (by rfl) ((HR.out.alloc _).drew.drew.drew) ⟨wr.heap.size, 0, none⟩ 1 1 [.int .i64 x, .int .i64 (x + 1), .int .i64 a, .int .i64 b] (by rfl) (by rfl) (World.news_of_block (cs := #[.int .i64 x, .int .i64 (x + 1), .int .i64 a, .int .i64 b]) (t := 40) (fr := (0, 0)) (heap_alloc_new _ _)) (by simp [Value.oneCell']) (by omega) (by simp only [maxLen]; omega) (by omega) (by simp; omega) (wr.heap.size + 1) (by simp) ?_; intro gg cap w4 hown4 hgrow4 hat4 hlt4; have hb4 : Below w2.heap.size w2 w4 := (HBB.out.alloc hsz _).drew.drew.drew.grown hgrow4 (by simp; omega) (fun k e => (HLT.out k e).1)))
            clear hwr
            have hq := owns_snoc (m := ⟨x, x + 1, a, b⟩) (by simp) hown4
            have HQ := Lib.hid hq
            clear hq hown4
            go_wp2
            go_roundw
            case rel => exact ⟨x + 1, by go_num, by omega, hb4, by rw [HST.out]; exact HQ.out⟩
            case measure => simp [intOf]; omega
    · have hxG : x = G := by omega
      subst hxG
      go_wp2
      go_ret2
      exact ⟨_, rfl, below_trans HB.out hb, by rw [HGG.out]; exact ownsRow_mono hrow HB.out.size⟩
end Go.Proofs.Ytdbbipdkaahplaa
