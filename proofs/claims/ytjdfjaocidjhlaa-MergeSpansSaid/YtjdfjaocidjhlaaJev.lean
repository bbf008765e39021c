/- The walk of the law's join: events joined one behind the other. -/
import Derived.Test.YtjdfjaocidjhlaaGaps
import Derived.Test.YtjdfjaocidjhlaaOrd2
namespace Go.Proofs.Ytjdfjaocidjhlaa
open Go.RowKit Go.Shelf

set_option maxHeartbeats 1000000 in
theorem time_any (t : Int) (w : World) : Calls Try.prog 18 #[.int .i64 t] w fun e w' => e = .returned (.int .i64 (Int.tmod t 2000)) ∧ w' = w := by
  go_enter Try.func18, Try.ntmps18
  go_wp2
  go_ret
  exact ⟨rfl, rfl⟩
theorem tmod_small {t : Int} (h : -2000 < t ∧ t < 2000) : Int.tmod t 2000 = t := by
  rcases Int.le_total 0 t with h0 | h0
  · exact Int.tmod_eq_of_lt h0 h.2
  · have h1 := Int.neg_tmod (a := -t) (b := 2000)
    have h2 : Int.tmod (-t) 2000 = -t := Int.tmod_eq_of_lt (by omega) (by omega)
    rw [Int.neg_neg, h2] at h1
    omega
theorem wcells_two (A C : List Wn) (x y : Wn) (h : y = ⟨x.s, x.e, x.h, y.c, y.u, x.lo, x.hi, x.si, x.pa⟩) : ((wcells (A ++ [x] ++ C)).set (A.length * 9 + 3) (.int .i64 y.c)).set (A.length * 9 + 4) (.int .i64 y.u) = wcells (A ++ [y] ++ C) := by
  have hl : (wcells A).length = A.length * 9 := wcells_length A
  rw [h]
  simp only [wcells_append, List.append_assoc]
  rw [← hl, List.set_append_right _ _ (by omega), List.set_append_right _ _ (by omega)]
  simp [wcells, Wn.cells]
theorem joinW_jnt (g : Int) (l : List Wn) (t : Int) : joinW l t (t + g) (-5000) t = l.take (frm l t) ++ [jnt g l t] ++ l.drop (too l (t + g)) := rfl
/-- Where a join's loop stands. -/
structure Jl (g : Int) (p : List Int) (w wr : World) (v : Value) (k : Nat) : Prop where
  le : k ≤ p.length
  below : Below w.heap.size w wr
  own : ∃ l, Evs g (p.take k) l ∧ wr.ownsRow w.heap.size 43 9 v l.length (wcells l)
theorem evs_len {g : Int} {p : List Int} {l : List Wn} (hg : 1 ≤ g) (h : Evs g p l) : l.length ≤ p.length := by
  have h1 := h.ss.total hg
  have h2 : ∀ m : List Wn, (∀ x ∈ m, 1 ≤ wt g (fun _ => 1) p x.s x.e) → (m.length : Int) ≤ ((m.map Wn.sp).map fun x => wt g (fun _ => 1) p x.s x.e).sum := by
    intro m
    induction m with
    | nil => simp
    | cons x m ih =>
      intro hm
      have := hm x (List.mem_cons_self ..)
      have := ih fun y hy => hm y (List.mem_cons_of_mem _ hy)
      simp only [List.map_cons, List.sum_cons, List.length_cons]
      show _ ≤ wt g (fun _ => 1) p x.s x.e + _
      omega
  have h3 := h2 l fun x hx => by have := h.c x hx; omega
  omega
set_option maxRecDepth 100000 in
set_option maxHeartbeats 8000000 in
theorem join_any (sv : Value) (p : List Int) (g : Int) (hg : 1 ≤ g) (hg2 : g ≤ 50) (hp : ∀ t ∈ p, -2000 < t ∧ t < 2000) (hlen : p.length ≤ 100) (w : World) (hI : Nums w.heap.size w sv p) :
    Calls Try.prog 19 #[sv, .int .i64 g] w fun e w' => ∃ v l, e = .returned (.tuple #[v, .bool true]) ∧ Evs g p l ∧ w'.ownsRow w.heap.size 43 9 v l.length (wcells l) ∧ Below w.heap.size w w' := by
  obtain ⟨A, cp, rfl, hcell⟩ := id hI
  have HCE := Lib.hid hcell
  clear hcell hI
  go_enter Try.func19, Try.ntmps19
  go_wp2
  go_loopw [6, 7] (fun v6 i wr => ∃ k : Nat, i = .int .i64 k ∧ Jl g p w wr v6 k) (fun _ i _ => p.length - (intOf i).toNat)
  case atStart => exact ⟨0, rfl, ⟨Nat.zero_le _, Below.refl _ _, [], Evs.nil g, World.ownsRow_nil _ _ _ _⟩⟩
  case round =>
    obtain ⟨k, rfl, hj⟩ := hrel
    have hk := hj.le
    by_cases hlt : k < p.length
    · obtain ⟨b, off, rfl, hb, hcs⟩ := HCE.out (by omega)
      obtain ⟨t, ht⟩ : ∃ t, p[k]? = some t := ⟨_, List.getElem?_eq_getElem hlt⟩
      have hct : wr.cell? ⟨b, off + k, none⟩ = some (.int .i64 t) := (hj.below.cell (p := ⟨b, off + k, none⟩) hb).trans (hcs k t ht)
      have hb2 : b < wr.heap.size := by have := hj.below.size; omega
      have htb := hp t (List.mem_of_getElem? ht)
      have HTM := Lib.hid (tmod_small htb)
      obtain ⟨t1, t2⟩ := htb
      obtain ⟨l, hev, hos⟩ := hj.own
      have hpk : ∀ s ∈ p.take k, -2000 < s ∧ s < 2000 := fun s hs => hp s (List.mem_of_mem_take hs)
      have hkl : (p.take k).length ≤ 100 := by simp; omega
      obtain ⟨st, j1, j2, j3, j4, j5, j6, j7⟩ := hev.step hg hg2 ⟨t1, t2⟩ hpk hkl
      have hTS : p.take (k + 1) = p.take k ++ [t] := by rw [List.take_add_one, ht]; rfl
      rw [← hTS] at st
      have hll := evs_len hg hev
      have HST := Lib.hid st
      have HBL := Lib.hid hj.below
      have HJO := Lib.hid (Join_yes u6 l t (t + g) (-5000) t wr (Rw.of_owns hos) hev.ap (by omega) (by simp at hll; omega))
      have hfl := frm_le l t
      have hal : (l.take (frm l t)).length = frm l t := by simp; omega
      have hw2 := wcells_two (l.take (frm l t)) (l.drop (too l (t + g))) (jnt g l t) (bump t (jnt g l t)) rfl
      rw [joinW_jnt] at HJO j7
      rw [hal] at hw2
      have hap := apB_iff.2 j7
      have hst2 : stp g l t = l.take (frm l t) ++ [bump t (jnt g l t)] ++ l.drop (too l (t + g)) := rfl
      rw [hst2] at HST
      have hgt : (l.take (frm l t) ++ [jnt g l t] ++ l.drop (too l (t + g)))[frm l t]? = some (jnt g l t) := by
        rw [List.append_assoc, List.getElem?_append_right (by omega), hal]; simp
      have hln : (l.take (frm l t) ++ [bump t (jnt g l t)] ++ l.drop (too l (t + g))).length = (l.take (frm l t) ++ [jnt g l t] ++ l.drop (too l (t + g))).length := by simp
      generalize l.take (frm l t) ++ [bump t (jnt g l t)] ++ l.drop (too l (t + g)) = R2 at *
      generalize l.take (frm l t) ++ [jnt g l t] ++ l.drop (too l (t + g)) = R at *
      generalize frm l t = f at *
      generalize jnt g l t = J at *
      have hca : ∀ i u, J.cells[i]? = some u → (wcells R)[f * 9 + i]? = some u := fun i u hu => wcells_at R f J hgt i u hu
      have hfR : f < R.length := (List.getElem?_eq_some_iff.1 hgt).1
      obtain ⟨nR, hnR⟩ : ∃ nR, R.length = nR := ⟨_, rfl⟩
      rw [hnR] at hln hfR HJO
      have HAP : Hid (∀ v W, Rw W v R → Calls Try.prog 13 #[v] W fun e w' => e = .returned (.bool true) ∧ Below W.heap.size W w') := fun v W h => hap ▸ Apart_any v R W h
      have HCA := Lib.hid hca
      have HW2 : Hid (((wcells R).set (f * 9 + 3) (.int .i64 (J.c + 1))).set (f * 9 + 4) (.int .i64 (J.u + t)) = wcells R2) := hw2
      have HLN := Lib.hid hln
      obtain ⟨Js, Je, Jh, Jc, Ju, Jlo, Jhi, Jsi, Jpa⟩ := J
      simp only at j1 j2 j3 j4 j5 j6
      have d1 : decide (t < Js) = false := by simp; omega
      have d2 : decide (Je < t + g) = false := by simp; omega
      have d3 : decide (nR ≤ f) = false := by simp; omega
      have d4 : decide ((nR : Int) ≤ (f : Int)) = false := by simp; omega
      clear hca hw2 hln hap hgt hst2 hal hfl j7 st hev hpk hkl hTS hos hj hcs
      go_wp2_with (first
        | (go_at_call 18; (with_reducible refine (time_any _ _).mono ?_); rintro e w0 ⟨rfl, rfl⟩; rw [HTM.out])
        | (go_at_call 11; (with_reducible refine HJO.out.mono ?_); rintro e w1 ⟨v1, rfl, hb1, ho1⟩
           obtain ⟨a1, c1, rfl, -, -⟩ := ownsRow_shape ho1
           have HR1 := Lib.hid ((hnR ▸ Rw.of_owns (hnR ▸ ho1) : Rw w1 (.slice a1 nR c1) R))
           obtain ⟨q, rfl, hq0, hq1, -, -, hqc, hqf⟩ := ownsRow_at ho1 (by omega)
           have z0 := hqc _ _ (HCA.out 0 _ rfl)
           have z1 := hqc _ _ (HCA.out 1 _ rfl)
           have z3 := hqc _ _ (HCA.out 3 _ rfl)
           have z4 := hqc _ _ (HCA.out 4 _ rfl)
           rw [Nat.add_zero] at z0
           have f3 := hqf (f * 9 + 3)
           have f4 := hqf (f * 9 + 4)
           have HB1 := Lib.hid hb1
           have HO1 := Lib.hid ho1
           clear hb1 ho1 hqc hqf)
        | (go_at_call 13; (with_reducible refine (HAP.out _ _ HR1.out).mono ?_); rintro e w2 ⟨rfl, hb2⟩
           have y3 : w2.cell? ⟨q, f * 9 + 3, none⟩ = some (.int .i64 Jc) := (hb2.cell (p := ⟨q, f * 9 + 3, none⟩) hq1).trans z3
           have y4 : w2.cell? ⟨q, f * 9 + 4, none⟩ = some (.int .i64 Ju) := (hb2.cell (p := ⟨q, f * 9 + 4, none⟩) hq1).trans z4
           have HO2 := Lib.hid (own_below HO1.out hb2)
           obtain ⟨q', hqe, -, hq2, -, -, -, hqf⟩ := ownsRow_at HO2.out (by omega)
           cases hqe
           have g3 := hqf (f * 9 + 3)
           have g4 := hqf (f * 9 + 3 + 1)
           clear hqf
           have HB2 := Lib.hid hb2
           clear hb2))
      go_roundw
      case rel =>
        have o1 := ownsRow_set (j := f * 9 + 3) HO2.out (.int .i64 (Jc + 1))
        have o2 := ownsRow_set (j := f * 9 + 4) o1 (.int .i64 (Ju + t))
        rw [HW2.out] at o2
        have hw0 := HBL.out.size
        have hw1 := HB1.out.size
        have b1 : Below w.heap.size w w2 := HBL.out.trans ((HB1.out.mono hw0).trans (HB2.out.mono (by omega)))
        refine ⟨k + 1, by simp, ⟨hlt, (b1.setCell (by show w.heap.size ≤ q; omega) _).setCell (by show w.heap.size ≤ q; omega) _, R2, HST.out, ?_⟩⟩
        rw [HLN.out]
        exact own_mono o2 hw0
      case measure => simp [intOf]; omega
    · obtain rfl : k = p.length := by omega
      obtain ⟨l, hev, hos⟩ := hj.own
      rw [List.take_length] at hev
      have HE := Lib.hid hev
      have HO := Lib.hid hos
      have HB := Lib.hid hj.below
      clear hj hev hos
      go_wp2
      go_ret2
      exact ⟨_, l, rfl, HE.out, HO.out, HB.out⟩
end Go.Proofs.Ytjdfjaocidjhlaa
