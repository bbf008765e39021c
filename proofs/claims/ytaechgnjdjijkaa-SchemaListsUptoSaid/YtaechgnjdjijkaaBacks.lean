/- Backs: Skip, Back, Back2, Ks, KeyAgain. -/
import Derived.Test.YtaechgnjdjijkaaRead
import Derived.Test.YtaechgnjdjijkaaWire2
import Derived.Test.YtaechgnjdjijkaaKno
import Derived.DataShut
/- schema.Skip. -/
namespace Go.Proofs.Ytaechgnjdjijkaa
open Go.RowKit Go.Lib

/-- Where so many numbers end. -/
def skN (bs : List UInt8) : Nat → Nat → Option Nat
  | 0, a => some a
  | n + 1, a => if (rdAt bs a).2.2 ≠ 0 then none else skN bs n (a + (rdAt bs a).2.1)
/-- A key and where its state ends. -/
noncomputable def skTo (bs : List UInt8) (a0 : Nat) : Option (ByteArray × Nat) :=
  if txE bs.length bs a0 ≠ 0 then none
  else
    let a1 := a0 + (rdAt bs a0).2.1 + (rdAt bs a0).1
    if (rdAt bs a1).2.2 ≠ 0 then none
    else
      let a2 := a1 + (rdAt bs a1).2.1
      if (rdAt bs a2).2.2 ≠ 0 then none
      else match skN bs ((rdAt bs a2).1 * 9) (a2 + (rdAt bs a2).2.1) with
        | none => none
        | some a => some (⟨(cut bs (a0 + (rdAt bs a0).2.1) (rdAt bs a0).1).toArray⟩, a)
/-- What Skip answers. -/
def skAns (r : Option (ByteArray × Nat)) : Value := match r with
  | none => .tuple #[.string ⟨#[]⟩, .int .i64 0, .int .i64 290]
  | some (k, a) => .tuple #[.string k, .int .i64 (a : Int), .int .i64 0]
set_option maxRecDepth 100000 in
set_option maxHeartbeats 1000000 in
theorem Skip_any (A : Option Addr) (m cap : Nat) (bs : List UInt8) (W : World) (hr : Rd W (.slice A m cap) m (bc bs)) (hm : bs.length = m) (hmax : m ≤ 140737488355328) :
    Calls Try.prog 11 #[.slice A m cap] W fun e w' => e = .returned (skAns (skTo bs 0)) ∧ Below W.heap.size W w' := by
  subst hm
  obtain ⟨R, hR⟩ : ∃ R, skTo bs 0 = R := ⟨_, rfl⟩
  rw [hR]
  have HR := Lib.hid hR
  clear hR
  have HNR := Lib.hid (NewReader_any A bs.length cap bs W hr rfl (by omega))
  have HMX := Lib.hid hmax
  clear hr
  have HGF : Hid (∀ g w w', Below W.heap.size W w → W.heap.size ≤ g → w.grownBy w' (some g) → Below W.heap.size W w') := Lib.hid fun g w w' hb hg h => hb.grown h hb.size (fun _ e => by cases e; exact hg)
  go_enter Try.func11, Try.ntmps11
  go_wp2_with fail
  refine HNR.out.mono ?_
  rintro e w1 ⟨g, v, rfl, hb1, hg1, hr1⟩
  have HB1 := Lib.hid hb1
  have HGE := Lib.hid hg1
  have HR1 := Lib.hid hr1
  clear hb1 hg1 hr1 HNR
  obtain ⟨B0, hB0⟩ : ∃ B0, W.heap.size = B0 := ⟨_, rfl⟩
  rw [hB0] at HR1
  clear hB0
  go_wp2_with fail
--WALK
  by_cases htx : txE bs.length bs 0 = 0
  · have HT := Lib.hid (Text_ok B0 g 0 bs.length v bs w1 HR1.out (by omega) HMX.out htx)
    obtain ⟨K, hK⟩ : ∃ K : ByteArray, (⟨(cut bs (0 + (rdAt bs 0).2.1) (rdAt bs 0).1).toArray⟩ : ByteArray) = K := ⟨_, rfl⟩
    obtain ⟨a1, ha1⟩ : ∃ a1, 0 + (rdAt bs 0).2.1 + (rdAt bs 0).1 = a1 := ⟨_, rfl⟩
    have hR1 : R = (if (rdAt bs a1).2.2 ≠ 0 then none else
      let a2 := a1 + (rdAt bs a1).2.1
      if (rdAt bs a2).2.2 ≠ 0 then none
      else match skN bs ((rdAt bs a2).1 * 9) (a2 + (rdAt bs a2).2.1) with
        | none => none
        | some a => some (K, a)) := by
      rw [← HR.out, ← hK, ← ha1]; unfold skTo; rw [if_neg (by omega)]
    have HRA := Lib.hid hR1
    rw [hK, ha1] at HT
    clear hR1 hK ha1 htx HR
    refine HT.out.mono ?_
    rintro e w2 ⟨rfl, hr2, hg2⟩
    have HB2 := Lib.hid (HGF.out _ _ _ HB1.out HGE.out hg2)
    have HR2 := Lib.hid hr2
    have hle1 := hr2.le
    clear hr2 hg2 HT
    go_wp2_with fail
    have HN2 := Lib.hid (RNumber_g B0 g a1 v bs w2 HR2.out)
    by_cases hd : (rdAt bs a1).2.2 = 0
    · rw [hd] at HN2
      obtain ⟨D, hD⟩ : ∃ D, (rdAt bs a1).1 = D := ⟨_, rfl⟩
      obtain ⟨a2, ha2⟩ : ∃ a2, a1 + (rdAt bs a1).2.1 = a2 := ⟨_, rfl⟩
      have hR2 : R = (if (rdAt bs a2).2.2 ≠ 0 then none
        else match skN bs ((rdAt bs a2).1 * 9) (a2 + (rdAt bs a2).2.1) with
          | none => none
          | some a => some (K, a)) := by
        rw [HRA.out, ← ha2, if_neg (by omega)]
      have HRC := Lib.hid hR2
      rw [hD, ha2] at HN2
      clear hR2 hD ha2 hd HRA
      refine HN2.out.mono ?_
      rintro e w3 ⟨rfl, hr3, hg3⟩
      have HB3 := Lib.hid (HGF.out _ _ _ HB2.out HGE.out hg3)
      have HR3 := Lib.hid hr3
      have hle2 := hr3.le
      clear hr3 hg3 HN2
      go_wp2_with fail
      have HN3 := Lib.hid (RNumber_g B0 g a2 v bs w3 HR3.out)
      by_cases hd : (rdAt bs a2).2.2 = 0
      · rw [hd] at HN3
        obtain ⟨M, hM⟩ : ∃ M, (rdAt bs a2).1 = M := ⟨_, rfl⟩
        obtain ⟨a3, ha3⟩ : ∃ a3, a2 + (rdAt bs a2).2.1 = a3 := ⟨_, rfl⟩
        have hMl : M < 18446744073709551616 := by rw [← hM]; exact (rdAt_facts bs a2 hle2).1
        have hR3 : R = (match skN bs (M * 9) a3 with
            | none => none
            | some a => some (K, a)) := by
          rw [HRC.out, ← hM, ← ha3, if_neg (by omega)]
        have HRD := Lib.hid hR3
        rw [hM, ha3] at HN3
        clear hR3 hM ha3 hd HRC
        refine HN3.out.mono ?_
        rintro e w4 ⟨rfl, hr4, hg4⟩
        have HB4 := Lib.hid (HGF.out _ _ _ HB3.out HGE.out hg4)
        have HR4 := Lib.hid hr4
        clear hr4 hg4 HN3
        go_wp2_with fail
        go_loopw [7, 8] (fun e n wr => ∃ (z : Int) (a r : Nat), e = .int .i64 z ∧ n = .int .u64 (r : Int) ∧ r < 18446744073709551616 ∧ Below W.heap.size W wr ∧ Rr wr B0 g v bs a ∧ (z = 0 → skN bs (r * 9) a = skN bs (M * 9) a3) ∧ (z ≠ 0 → skN bs (M * 9) a3 = none)) (fun _ n _ => (intOf n).toNat)
        case atStart => exact ⟨0, a3, M, rfl, rfl, hMl, HB4.out, HR4.out, fun _ => rfl, fun h => absurd rfl h⟩
        case round =>
          obtain ⟨z, a, r, rfl, rfl, hrl, hb, hra, h0, h1⟩ := hrel
          have HB := Lib.hid hb
          have HRA := Lib.hid hra
          by_cases hz : z = 0
          · subst hz
            have hs := h0 rfl
            clear h0 h1
            by_cases hr0 : r = 0
            · subst hr0
              have hsome : Hid (R = some (K, a)) := Lib.hid (by rw [HRD.out, ← hs]; simp [skN])
              have HPL := Lib.hid (Place_any B0 g a v bs wr hra)
              clear hs hb hra
              go_wp2_with fail
              refine HPL.out.mono ?_
              rintro e w5 ⟨rfl, rfl⟩
              go_wp2
              obtain rfl := hsome.out
              go_ret3
              exact ⟨rfl, HB.out⟩
            · have HS := Lib.hid hs
              have hrp : 0 < r := Nat.pos_of_ne_zero hr0
              clear hs hb hra
              go_wp2_with fail
              go_loopw [7, 9] (fun e n wr => ∃ (z : Int) (a j : Nat), e = .int .i64 z ∧ n = .int .i64 (j : Int) ∧ j ≤ 9 ∧ Below W.heap.size W wr ∧ Rr wr B0 g v bs a ∧ (z = 0 → skN bs ((r - 1) * 9 + (9 - j)) a = skN bs (M * 9) a3) ∧ (z ≠ 0 → skN bs (M * 9) a3 = none)) (fun _ n _ => 9 - (intOf n).toNat)
              case atStart => exact ⟨0, a, 0, rfl, rfl, by omega, HB.out, HRA.out, fun _ => by rw [← HS.out]; congr 1; omega, fun h => absurd rfl h⟩
              case round =>
                obtain ⟨z, a', j, rfl, rfl, hj9, hb, hra, h0, h1⟩ := hrel
                have HB5 := Lib.hid hb
                have HRA5 := Lib.hid hra
                have HH0 := Lib.hid h0
                have HH1 := Lib.hid h1
                clear hb hra h0 h1
                by_cases hz : z = 0
                · subst hz
                  by_cases hj : j = 9
                  · subst hj
                    go_wp2_with fail
                    go_roundw
                    case rel => exact ⟨0, a', r - 1, rfl, congrArg (Value.int .u64) (by omega), by omega, HB5.out, HRA5.out, fun h => by rw [← HH0.out (by first | rfl | trivial), Nat.sub_self, Nat.add_zero], HH1.out⟩
                    case measure => simp [intOf]; omega
                  · have HNN := Lib.hid (RNumber_g B0 g a' v bs _ HRA5.out)
                    have hjl : j < 9 := by omega
                    go_wp2_with fail
                    refine HNN.out.mono ?_
                    rintro e w6 ⟨rfl, hr6, hg6⟩
                    have HB6 := Lib.hid (HGF.out _ _ _ HB5.out HGE.out hg6)
                    have HR6 := Lib.hid hr6
                    clear hr6 hg6
                    have hsk : skN bs ((r - 1) * 9 + (9 - j)) a' = if (rdAt bs a').2.2 ≠ 0 then none else skN bs ((r - 1) * 9 + (9 - (j + 1))) (a' + (rdAt bs a').2.1) := by
                      have : (r - 1) * 9 + (9 - j) = (r - 1) * 9 + (9 - (j + 1)) + 1 := by omega
                      rw [this, skN]
                    have HSK := Lib.hid hsk
                    clear hsk
                    go_wp2_with fail
                    go_roundw
                    case rel => exact ⟨((rdAt bs a').2.2 : Int), _, j + 1, rfl, congrArg (Value.int .i64) (by omega), by omega, HB6.out, HR6.out, fun h => by rw [← HH0.out (by first | rfl | trivial), HSK.out, if_neg (by omega)], fun h => by rw [← HH0.out (by first | rfl | trivial), HSK.out, if_pos (by omega)]⟩
                    case measure => simp [intOf]; omega
                · rcases Nat.lt_or_eq_of_le hj9 with hj | hj
                  · go_wp2_with fail
                    go_roundw
                    case rel => exact ⟨z, a', r - 1, rfl, congrArg (Value.int .u64) (by omega), by omega, HB5.out, HRA5.out, fun h => absurd h hz, HH1.out⟩
                    case measure => simp [intOf]; omega
                  · subst hj
                    go_wp2_with fail
                    go_roundw
                    case rel => exact ⟨z, a', r - 1, rfl, congrArg (Value.int .u64) (by omega), by omega, HB5.out, HRA5.out, fun h => absurd h hz, HH1.out⟩
                    case measure => simp [intOf]; omega
          · have hno : Hid (R = none) := Lib.hid (by rw [HRD.out, h1 hz])
            clear h0 h1 hb hra
            rcases Nat.eq_zero_or_pos r with hr0 | hr0
            · subst hr0
              go_wp2
              obtain rfl := hno.out
              go_ret3
              exact ⟨rfl, HB.out⟩
            · go_wp2
              obtain rfl := hno.out
              go_ret3
              exact ⟨rfl, HB.out⟩
      · have hno : Hid (R = none) := Lib.hid (by rw [HRC.out, if_pos hd])
        have hM0 := ((rdAt_facts bs a2 hle2).2.2.2 hd).1
        rw [hM0] at HN3
        obtain ⟨zn, hzn⟩ : ∃ zn, (rdAt bs a2).2.2 = zn := ⟨_, rfl⟩
        rw [hzn] at hd HN3
        obtain ⟨zz, hzz⟩ : ∃ zz : Int, (zn : Int) = zz := ⟨_, rfl⟩
        have hz0 : ¬ zz = 0 := by omega
        rw [hzz] at HN3
        clear hd hM0 hzn hzz
        refine HN3.out.mono ?_
        rintro e w4 ⟨rfl, hr4, hg4⟩
        have HB4 := Lib.hid (HGF.out _ _ _ HB3.out HGE.out hg4)
        clear hr4 hg4 HN3
        go_wp2_with fail
        go_loopw [7, 8] (fun e n wr => e = .int .i64 zz ∧ n = .int .u64 0 ∧ wr = w4) (fun _ _ _ => 0)
        case atStart => exact ⟨rfl, rfl, rfl⟩
        case round =>
          obtain ⟨rfl, rfl, rfl⟩ := hrel
          go_wp2
          obtain rfl := hno.out
          go_ret3
          exact ⟨rfl, HB4.out⟩
    · have hno : Hid (R = none) := Lib.hid (by rw [HRA.out, if_pos hd])
      obtain ⟨zn, hzn⟩ : ∃ zn, (rdAt bs a1).2.2 = zn := ⟨_, rfl⟩
      rw [hzn] at hd HN2
      obtain ⟨zz, hzz⟩ : ∃ zz : Int, (zn : Int) = zz := ⟨_, rfl⟩
      have hz0 : ¬ zz = 0 := by omega
      rw [hzz] at HN2
      clear hd hzn hzz
      refine HN2.out.mono ?_
      rintro e w3 ⟨rfl, hr3, hg3⟩
      have HB3 := Lib.hid (HGF.out _ _ _ HB2.out HGE.out hg3)
      clear hr3 hg3 HN2
      go_wp2_with fail
      go_loopw [7, 8] (fun e n wr => e = .int .i64 zz ∧ n = .int .u64 0 ∧ wr = w3) (fun _ _ _ => 0)
      case atStart => exact ⟨rfl, rfl, rfl⟩
      case round =>
        obtain ⟨rfl, rfl, rfl⟩ := hrel
        go_wp2
        obtain rfl := hno.out
        go_ret3
        exact ⟨rfl, HB3.out⟩
  · have HT := Lib.hid (Text_bad B0 g 0 bs.length v bs w1 HR1.out (by omega) HMX.out htx)
    have hno : Hid (R = none) := Lib.hid (by rw [← HR.out]; unfold skTo; rw [if_pos htx])
    obtain ⟨zn, hzn⟩ : ∃ zn, txE bs.length bs 0 = zn := ⟨_, rfl⟩
    rw [hzn] at htx HT
    obtain ⟨zz, hzz⟩ : ∃ zz : Int, (zn : Int) = zz := ⟨_, rfl⟩
    have hz0 : ¬ zz = 0 := by omega
    rw [hzz] at HT
    clear htx hzn hzz HR
    refine HT.out.mono ?_
    rintro e w3 ⟨rfl, hr3, hg3⟩
    have HB3 := Lib.hid (HGF.out _ _ _ HB1.out HGE.out hg3)
    clear hr3 hg3 HT
    go_wp2_with fail
    go_loopw [7, 8] (fun e n wr => e = .int .i64 zz ∧ n = .int .u64 0 ∧ wr = w3) (fun _ _ _ => 0)
    case atStart => exact ⟨rfl, rfl, rfl⟩
    case round =>
      obtain ⟨rfl, rfl, rfl⟩ := hrel
      go_wp2
      obtain rfl := hno.out
      go_ret3
      exact ⟨rfl, HB3.out⟩
end Go.Proofs.Ytaechgnjdjijkaa

/- What was written is read: plainly. -/
namespace Go.Proofs.Ytaechgnjdjijkaa
open Go.RowKit Go.Lib

/-- A window's field. -/
def fld (x : Wn) : Nat → Int
  | 0 => x.s
  | 1 => x.e
  | 2 => x.h
  | 3 => x.c
  | 4 => x.u
  | 5 => x.lo
  | 6 => x.hi
  | 7 => x.si
  | _ => x.pa
/-- Its first ones. -/
def part (x : Wn) : Nat → Wn
  | 0 => wn0
  | k + 1 => (part x k).put k (fld x k)
theorem part_nine (x : Wn) : part x 9 = x := by
  obtain ⟨a, b, c, d, e, f, g, h, i⟩ := x
  simp only [part, Wn.put, fld, wn0]
theorem part_one (x : Wn) : (part x 1).s = x.s := rfl
theorem abX_of {bs : List UInt8} {a : Nat} {f v : Int} {n : Nat} (h : rdAt bs a = ((v - f).toNat, n, 0)) (h1 : f ≤ v) (h2 : v ≤ 9223372036854775807) : abX bs a f = (v, 0) := by
  unfold abX abV
  rw [h]
  simp only
  have e : (((v - f).toNat : Nat) : Int) = v - f := by omega
  rw [e, if_pos ⟨trivial, by omega⟩]
  simp only
  congr 1
  omega
theorem sgAt_of {bs : List UInt8} {a : Nat} {v : Int} {n : Nat} (h : rdAt bs a = (zig v, n, 0)) : sgAt bs a = v := by
  unfold sgAt
  rw [h]
  simp only [if_pos]
  exact unz_zig v
theorem wrap64_nat {v : Int} (h1 : 0 ≤ v) (h2 : v ≤ 9223372036854775807) : wrap64 ((v.toNat : Nat) : Int) = v := by
  unfold wrap64; omega
theorem fget_of {bs : List UInt8} {last : Option Int} {x : Wn} (hw : Wr9 last x) {a : Nat} : ∀ (k : Nat) (n : Nat), k < 9 → rdAt bs a = (fnum last x k, n, 0) → fget bs last (part x k) a k = (fld x k, 0) := by
  have ho := hw.ok
  unfold okW at ho
  simp only [Bool.and_eq_true, wi_iff, decide_eq_true_eq] at ho
  have hs := hw.fit.s
  have he := hw.fit.e
  unfold In64 at hs he
  intro k n hk h
  match k, hk with
  | 0, _ =>
    unfold fget
    cases last with
    | none => simp only; rw [sgAt_of h, h]; rfl
    | some s =>
      simp only
      obtain ⟨h1, h2⟩ := hw.le s rfl
      have hv : x.s ≤ 9223372036854775807 := by omega
      exact abX_of (v := x.s) h h2 hv
  | 1, _ =>
    unfold fget
    have h' : rdAt bs a = (((x.e - 1) - x.s).toNat, n, 0) := by rw [h]; show ((x.e - x.s - 1).toNat, n, 0) = _; rw [show x.e - x.s - 1 = x.e - 1 - x.s by omega]
    rw [part_one, abX_of h' (by omega) (by omega)]
    simp only [fld]
    rw [show x.e - 1 + 1 = x.e by omega, wrap64_in (by omega) (by omega)]
  | 2, _ => unfold fget; rw [sgAt_of (v := x.h) h, h]; rfl
  | 3, _ => unfold fget; rw [h]; show (wrap64 ((x.c.toNat : Nat) : Int), (0 : Int)) = _; rw [wrap64_nat (by omega) (by omega)]; rfl
  | 4, _ => unfold fget; rw [sgAt_of (v := x.u) h, h]; rfl
  | 5, _ => unfold fget; rw [sgAt_of (v := x.lo) h, h]; rfl
  | 6, _ => unfold fget; rw [sgAt_of (v := x.hi) h, h]; rfl
  | 7, _ => unfold fget; rw [h]; show (wrap64 ((x.si.toNat : Nat) : Int), (0 : Int)) = _; rw [wrap64_nat (by omega) (by omega)]; rfl
  | 8, _ => unfold fget; rw [h]; show (wrap64 ((x.pa.toNat : Nat) : Int), (0 : Int)) = _; rw [wrap64_nat (by omega) (by omega)]; rfl
  | j + 9, h => omega
theorem rdTo_back {last : Option Int} {x : Wn} (hw : Wr9 last x) (pre : List UInt8) : ∀ (k : Nat) (post : List UInt8), k ≤ 9 → rdTo (pre ++ (winTo last x k ++ post)) last pre.length k = some (part x k, pre.length + (winTo last x k).length)
  | 0, post, _ => by simp [rdTo, part, winTo]
  | k + 1, post, hk => by
    have e : pre ++ (winTo last x (k + 1) ++ post) = pre ++ (winTo last x k ++ (num7 (fnum last x k) ++ post)) := by rw [winTo_succ, List.append_assoc]
    have ih := rdTo_back hw pre k (num7 (fnum last x k) ++ post) (by omega)
    have hr : rdAt (pre ++ (winTo last x k ++ (num7 (fnum last x k) ++ post))) (pre.length + (winTo last x k).length) = (fnum last x k, (num7 (fnum last x k)).length, 0) := by
      have := rdAt_num7 (pre ++ winTo last x k) post (fnum last x k) (fnum_lt hw k)
      rw [List.append_assoc, List.length_append] at this
      exact this
    have hf := fget_of (bs := pre ++ (winTo last x k ++ (num7 (fnum last x k) ++ post))) hw k _ (by omega) hr
    rw [e, rdTo_succ ih (by rw [hf]), hf, hr, winTo_succ, List.length_append]
    simp only [part]
    rw [Nat.add_assoc]
def wF (l : List Wn) : Nat → Nat → List UInt8
  | 0, _ => []
  | j + 1, k => winAt l k ++ wF l j (k + 1)
theorem winsTo_wF (l : List Wn) : ∀ (j k : Nat), winsTo l (k + j) = winsTo l k ++ wF l j k
  | 0, k => by simp [wF]
  | j + 1, k => by
    have := winsTo_wF l j (k + 1)
    rw [show k + (j + 1) = k + 1 + j by omega, this, winsTo_succ, wF, List.append_assoc]
theorem lastS_take {l : List Wn} {k : Nat} (hk : k < l.length) : lastS (l.take k) = lastOf l k := by
  unfold lastS lastOf
  cases k with
  | zero => simp
  | succ k =>
    rw [if_neg (by omega), List.getLast?_take]
    simp
    rw [List.getElem?_eq_getElem (by omega)]
    simp
theorem rdWs_back {l : List Wn} (h : ∀ (i : Nat) (x : Wn), l[i]? = some x → Wr9 (lastOf l i) x) : ∀ (j k : Nat) (pre post : List UInt8), k + j = l.length → rdWs (pre ++ (wF l j k ++ post)) j pre.length (l.take k) = some (l, pre.length + (wF l j k).length)
  | 0, k, pre, post, hk => by simp [rdWs, wF, show k = l.length by omega]
  | j + 1, k, pre, post, hk => by
    have hkl : k < l.length := by omega
    have hx : l[k]? = some (l[k]'hkl) := List.getElem?_eq_getElem hkl
    have hw := h k _ hx
    have hwa : winAt l k = winTo (lastOf l k) (l[k]'hkl) 9 := by unfold winAt; rw [hx]
    have hb := rdTo_back hw pre 9 (wF l j (k + 1) ++ post) (Nat.le_refl _)
    have e : pre ++ (wF l (j + 1) k ++ post) = pre ++ (winTo (lastOf l k) (l[k]'hkl) 9 ++ (wF l j (k + 1) ++ post)) := by rw [wF, hwa, List.append_assoc]
    have ih := rdWs_back h j (k + 1) (pre ++ winTo (lastOf l k) (l[k]'hkl) 9) post (by omega)
    rw [List.append_assoc, List.length_append] at ih
    rw [e, rdWs, lastS_take hkl, hb]
    simp only
    rw [part_nine, ← List.take_succ_eq_append_getElem hkl, ih, wF, hwa, List.length_append, Nat.add_assoc]
theorem rdKey_back (c : Cf) (k : Kn) (hf : k.Fit) (he : putE c k = 0) (hl : k.ws.length < 18446744073709551616) (post : List UInt8) : rdKey c (keyBytes k ++ post) 0 = some (k, (keyBytes k).length) := by
  obtain ⟨hj, hp⟩ := putE_ok he
  have hsz := hp.1
  have hd := wi_iff.1 hp.2.1
  obtain ⟨D, hD⟩ : ∃ D, num7 k.dr.toNat = D := ⟨_, rfl⟩
  obtain ⟨N, hN⟩ : ∃ N, num7 k.ws.length = N := ⟨_, rfl⟩
  have hw0 : winsTo k.ws k.ws.length = wF k.ws k.ws.length 0 := by
    have := winsTo_wF k.ws k.ws.length 0
    rw [Nat.zero_add] at this
    rw [this]; simp [winsTo]
  obtain ⟨F, hF⟩ : ∃ F, wF k.ws k.ws.length 0 = F := ⟨_, rfl⟩
  obtain ⟨T, hT⟩ : ∃ T, num7 k.key.size ++ k.key.data.toList = T := ⟨_, rfl⟩
  have hTl : T.length = (num7 k.key.size).length + k.key.size := by rw [← hT]; simp
  have hkb : keyBytes k = T ++ (D ++ (N ++ F)) := by unfold keyBytes; rw [hT, hD, hN, hw0, hF]; simp
  obtain ⟨t1, t2, t3⟩ := text_back [] (D ++ (N ++ (F ++ post))) k.key 256 hsz (by omega)
  rw [hT] at t1 t2 t3
  have hbs : keyBytes k ++ post = [] ++ (T ++ (D ++ (N ++ (F ++ post)))) := by rw [hkb]; simp
  rw [← hbs] at t1 t2 t3
  have d1 : rdAt (keyBytes k ++ post) T.length = (k.dr.toNat, D.length, 0) := by
    have := rdAt_num7 T (N ++ (F ++ post)) k.dr.toNat (by omega)
    rw [hD] at this
    rw [hbs]; exact this
  have n1 : rdAt (keyBytes k ++ post) (T.length + D.length) = (k.ws.length, N.length, 0) := by
    have := rdAt_num7 (T ++ D) (F ++ post) k.ws.length hl
    rw [hN, List.length_append] at this
    rw [hbs]; simpa using this
  have w1 : rdWs (keyBytes k ++ post) k.ws.length (T.length + D.length + N.length) [] = some (k.ws, T.length + D.length + N.length + F.length) := by
    have := rdWs_back (wr9_of hp hf) k.ws.length 0 (T ++ D ++ N) post (by omega)
    rw [hF] at this
    rw [hbs]; simpa [Nat.add_assoc] using this
  unfold rdKey
  rw [if_neg (by simpa using t1)]
  simp only [List.length_nil] at t2 t3
  simp only [t2]
  have e1 : 0 + (num7 k.key.size).length + k.key.size = T.length := by omega
  simp only [e1, d1, n1]
  rw [if_neg (by simp), if_neg (by simp), w1]
  simp only
  rw [t3, wrap64_nat (by omega) (by omega)]
  have hk : (⟨k.key, k.dr, k.ws⟩ : Kn) = k := rfl
  rw [hk, if_pos (keyB_yes hp)]
  rw [hkb]
  simp [Nat.add_assoc]
end Go.Proofs.Ytaechgnjdjijkaa

/- What was written is skipped; what is read stays so with more behind it: plainly. -/
namespace Go.Proofs.Ytaechgnjdjijkaa
open Go.RowKit Go.Lib

def nsOf (l : List Wn) (i : Nat) : List Nat := match l[i]? with
  | some x => (List.range 9).map (fnum (lastOf l i) x)
  | none => []
theorem winAt_ns (l : List Wn) (i : Nat) : winAt l i = (nsOf l i).flatMap num7 := by
  unfold winAt nsOf winTo
  cases l[i]? with
  | none => rfl
  | some x => simp [List.flatMap_map]
def nsTo (l : List Wn) (k : Nat) : List Nat := (List.range k).flatMap (nsOf l)
theorem nsTo_succ (l : List Wn) (k : Nat) : nsTo l (k + 1) = nsTo l k ++ nsOf l k := by simp [nsTo, List.range_succ]
theorem winsTo_ns (l : List Wn) : ∀ k, winsTo l k = (nsTo l k).flatMap num7
  | 0 => rfl
  | k + 1 => by rw [winsTo_succ, nsTo_succ, List.flatMap_append, ← winsTo_ns l k, winAt_ns]
theorem nsOf_len {l : List Wn} {i : Nat} (h : i < l.length) : (nsOf l i).length = 9 := by
  unfold nsOf
  rw [List.getElem?_eq_getElem h]
  simp
theorem nsTo_len {l : List Wn} : ∀ {k : Nat}, k ≤ l.length → (nsTo l k).length = k * 9
  | 0, _ => by simp [nsTo]
  | k + 1, h => by rw [nsTo_succ, List.length_append, nsTo_len (by omega), nsOf_len (by omega)]; omega
theorem nsTo_lt {l : List Wn} (h : ∀ (i : Nat) (x : Wn), l[i]? = some x → Wr9 (lastOf l i) x) (k : Nat) : ∀ n ∈ nsTo l k, n < 18446744073709551616 := by
  intro n hn
  unfold nsTo at hn
  rw [List.mem_flatMap] at hn
  obtain ⟨i, -, hi⟩ := hn
  unfold nsOf at hi
  cases hx : l[i]? with
  | none => rw [hx] at hi; simp at hi
  | some x =>
    rw [hx] at hi
    simp only [List.mem_map] at hi
    obtain ⟨j, -, rfl⟩ := hi
    exact fnum_lt (h i x hx) j
theorem skN_back : ∀ (ns : List Nat) (pre post : List UInt8), (∀ n ∈ ns, n < 18446744073709551616) → skN (pre ++ (ns.flatMap num7 ++ post)) ns.length pre.length = some (pre.length + (ns.flatMap num7).length)
  | [], pre, post, _ => by simp [skN]
  | n :: ns, pre, post, h => by
    have hr := rdAt_num7 pre (ns.flatMap num7 ++ post) n (h n (by simp))
    have ih := skN_back ns (pre ++ num7 n) post (fun m hm => h m (by simp [hm]))
    rw [List.append_assoc, List.length_append] at ih
    rw [List.flatMap_cons, List.append_assoc, List.length_cons, skN, hr]
    rw [if_neg (by simp), ih, List.length_append, Nat.add_assoc]
theorem skTo_back (ses : Bool) (k : Kn) (hf : k.Fit) (hp : KeyP ses k) (hl : k.ws.length < 18446744073709551616) (post : List UInt8) : skTo (keyBytes k ++ post) 0 = some (k.key, (keyBytes k).length) := by
  have hsz := hp.1
  have hd := wi_iff.1 hp.2.1
  obtain ⟨D, hD⟩ : ∃ D, num7 k.dr.toNat = D := ⟨_, rfl⟩
  obtain ⟨N, hN⟩ : ∃ N, num7 k.ws.length = N := ⟨_, rfl⟩
  have hw0 := winsTo_ns k.ws k.ws.length
  obtain ⟨F, hF⟩ : ∃ F, (nsTo k.ws k.ws.length).flatMap num7 = F := ⟨_, rfl⟩
  obtain ⟨T, hT⟩ : ∃ T, num7 k.key.size ++ k.key.data.toList = T := ⟨_, rfl⟩
  have hTl : T.length = (num7 k.key.size).length + k.key.size := by rw [← hT]; simp
  have hkb : keyBytes k = T ++ (D ++ (N ++ F)) := by unfold keyBytes; rw [hT, hD, hN, hw0, hF]; simp
  have hlen : k.key.size ≤ (keyBytes k ++ post).length := by rw [hkb]; simp only [List.length_append]; omega
  obtain ⟨M, hM⟩ : ∃ M, (keyBytes k ++ post).length = M := ⟨_, rfl⟩
  rw [hM] at hlen
  obtain ⟨t1, t2, t3⟩ := text_back [] (D ++ (N ++ (F ++ post))) k.key M hlen (by omega)
  rw [hT] at t1 t2 t3
  have hbs : keyBytes k ++ post = [] ++ (T ++ (D ++ (N ++ (F ++ post)))) := by rw [hkb]; simp
  rw [← hbs] at t1 t2 t3
  have d1 : rdAt (keyBytes k ++ post) T.length = (k.dr.toNat, D.length, 0) := by
    have := rdAt_num7 T (N ++ (F ++ post)) k.dr.toNat (by omega)
    rw [hD] at this
    rw [hbs]; exact this
  have n1 : rdAt (keyBytes k ++ post) (T.length + D.length) = (k.ws.length, N.length, 0) := by
    have := rdAt_num7 (T ++ D) (F ++ post) k.ws.length hl
    rw [hN, List.length_append] at this
    rw [hbs]; simpa using this
  have w1 : skN (keyBytes k ++ post) (k.ws.length * 9) (T.length + D.length + N.length) = some (T.length + D.length + N.length + F.length) := by
    have := skN_back (nsTo k.ws k.ws.length) (T ++ D ++ N) post (nsTo_lt (wr9_of hp hf) _)
    rw [hF, nsTo_len (Nat.le_refl _)] at this
    rw [hbs]; simpa [Nat.add_assoc] using this
  unfold skTo
  rw [hM, if_neg (by simpa using t1)]
  simp only [List.length_nil] at t2 t3
  simp only [t2]
  have e1 : 0 + (num7 k.key.size).length + k.key.size = T.length := by omega
  simp only [e1, d1, n1]
  rw [if_neg (by simp), if_neg (by simp), w1]
  simp only
  rw [t3, hkb]
  simp [Nat.add_assoc]

/-! With more behind it. -/
theorem rdN_more (more : List UInt8) : ∀ (l : List UInt8) (i x : Nat), (rdN i x l).2.2 = 0 → rdN i x (l ++ more) = rdN i x l
  | [], i, x, h => by simp [rdN] at h
  | b :: r, i, x, h => by
    rw [List.cons_append]
    rw [rdN] at h ⊢
    rw [rdN]
    split
    · rfl
    · rename_i h1
      rw [if_neg h1] at h
      split
      · rename_i h2
        rw [if_pos h2] at h
        exact rdN_more more r _ _ h
      · rfl
theorem rdAt_lt {bs : List UInt8} {a : Nat} (h : (rdAt bs a).2.2 = 0) : a < bs.length := by
  rcases Nat.lt_or_ge a bs.length with h1 | h1
  · exact h1
  · unfold rdAt at h
    rw [List.drop_eq_nil_of_le h1] at h
    simp [rdN] at h
theorem rdAt_more {bs : List UInt8} (more : List UInt8) {a : Nat} (h : (rdAt bs a).2.2 = 0) : rdAt (bs ++ more) a = rdAt bs a := by
  have hl := rdAt_lt h
  unfold rdAt at h ⊢
  rw [List.drop_append_of_le_length (by omega), rdN_more more _ _ _ h]
theorem abX_more {bs : List UInt8} (more : List UInt8) {a : Nat} {f : Int} (h : (abX bs a f).2 = 0) : abX (bs ++ more) a f = abX bs a f ∧ (rdAt bs a).2.2 = 0 := by
  have h0 : (rdAt bs a).2.2 = 0 := by
    unfold abX abV at h
    split at h
    · rename_i s hs
      split at hs
      · rename_i hh; exact hh.1
      · cases hs
    · cases h
  refine ⟨?_, h0⟩
  unfold abX abV
  rw [rdAt_more more h0]
theorem sg_more {bs : List UInt8} (more : List UInt8) {a : Nat} (h : ((rdAt bs a).2.2 : Int) = 0) : (sgAt (bs ++ more) a, ((rdAt (bs ++ more) a).2.2 : Int)) = (sgAt bs a, ((rdAt bs a).2.2 : Int)) ∧ rdAt (bs ++ more) a = rdAt bs a := by
  have h0 := rdAt_more more (bs := bs) (a := a) (Int.ofNat.inj h)
  refine ⟨?_, h0⟩
  unfold sgAt
  rw [h0]
theorem ct_more {bs : List UInt8} (more : List UInt8) {a : Nat} (h : ((rdAt bs a).2.2 : Int) = 0) : (wrap64 ((rdAt (bs ++ more) a).1 : Int), ((rdAt (bs ++ more) a).2.2 : Int)) = (wrap64 ((rdAt bs a).1 : Int), ((rdAt bs a).2.2 : Int)) ∧ rdAt (bs ++ more) a = rdAt bs a := by
  have h0 := rdAt_more more (bs := bs) (a := a) (Int.ofNat.inj h)
  refine ⟨?_, h0⟩
  rw [h0]
theorem fget_more {bs : List UInt8} (more : List UInt8) {last : Option Int} {x : Wn} {a : Nat} (k : Nat) (h : (fget bs last x a k).2 = 0) : fget (bs ++ more) last x a k = fget bs last x a k ∧ rdAt (bs ++ more) a = rdAt bs a := by
  unfold fget at h ⊢
  split
  · split
    · exact sg_more more h
    · rename_i s
      obtain ⟨h1, h2⟩ := abX_more more (f := s) h
      exact ⟨h1, rdAt_more more h2⟩
  · obtain ⟨h1, h2⟩ := abX_more more (f := x.s) h
    rw [h1]
    exact ⟨rfl, rdAt_more more h2⟩
  · exact sg_more more h
  · exact ct_more more h
  · exact sg_more more h
  · exact sg_more more h
  · exact sg_more more h
  · split at h
    all_goals first | exact ct_more more h | contradiction
theorem rdTo_more {bs : List UInt8} (more : List UInt8) {last : Option Int} {at0 : Nat} : ∀ (k : Nat) (r : Wn × Nat), rdTo bs last at0 k = some r → rdTo (bs ++ more) last at0 k = some r
  | 0, r, h => h
  | k + 1, r, h => by
    rw [rdTo] at h ⊢
    cases hk : rdTo bs last at0 k with
    | none => rw [hk] at h; cases h
    | some y =>
      obtain ⟨x, a⟩ := y
      rw [hk] at h
      rw [rdTo_more more k _ hk]
      simp only at h ⊢
      split at h
      · rename_i h0
        obtain ⟨h1, h2⟩ := fget_more more k h0
        rw [h1, h2, if_pos h0]
        exact h
      · cases h
theorem rdWs_more {bs : List UInt8} (more : List UInt8) : ∀ (n a : Nat) (l : List Wn) (r : List Wn × Nat), rdWs bs n a l = some r → rdWs (bs ++ more) n a l = some r
  | 0, a, l, r, h => h
  | n + 1, a, l, r, h => by
    rw [rdWs] at h ⊢
    cases hk : rdTo bs (lastS l) a 9 with
    | none => rw [hk] at h; cases h
    | some y =>
      obtain ⟨x, a'⟩ := y
      rw [hk] at h
      rw [rdTo_more more 9 _ hk]
      exact rdWs_more more n _ _ r h
theorem skN_more {bs : List UInt8} (more : List UInt8) : ∀ (n a r : Nat), skN bs n a = some r → skN (bs ++ more) n a = some r
  | 0, a, r, h => h
  | n + 1, a, r, h => by
    rw [skN] at h ⊢
    split at h
    · cases h
    · rename_i h0
      have h0' : (rdAt bs a).2.2 = 0 := by omega
      rw [rdAt_more more h0', if_neg h0]
      exact skN_more more n _ r h
theorem txE_zero {m : Nat} {bs : List UInt8} {a : Nat} (h : txE m bs a = 0) : (rdAt bs a).2.2 = 0 ∧ (rdAt bs a).1 ≤ m ∧ a + (rdAt bs a).2.1 + (rdAt bs a).1 ≤ bs.length ∨ ((rdAt bs a).2.2 = 0 ∧ (rdAt bs a).1 = 0 ∧ bs.length < a + (rdAt bs a).2.1) := by
  unfold txE at h
  split at h
  · rename_i h0
    unfold hdE at h0
    split at h0
    · rename_i h1
      split at h0
      · cases h0
      · rename_i h2
        split at h
        · cases h
        · rename_i h3
          have := rdAt_lt h1
          rcases Nat.lt_or_ge bs.length (a + (rdAt bs a).2.1) with h4 | h4
          · exact .inr ⟨h1, by omega, h4⟩
          · exact .inl ⟨h1, by omega, by omega⟩
    · omega
  · rename_i h0; exact absurd h h0
theorem txE_ok {m : Nat} {bs : List UInt8} {a : Nat} (h : txE m bs a = 0) : (rdAt bs a).2.2 = 0 ∧ (rdAt bs a).1 ≤ m ∧ a + (rdAt bs a).2.1 + (rdAt bs a).1 ≤ bs.length := by
  rcases txE_zero h with h | ⟨h1, h2, h3⟩
  · exact h
  · have := (rdAt_facts bs a (Nat.le_of_lt (rdAt_lt h1))).2.1
    omega
theorem txE_more {m m' : Nat} {bs : List UInt8} (more : List UInt8) {a : Nat} (h : txE m bs a = 0) (hm : m ≤ m') : txE m' (bs ++ more) a = 0 := by
  obtain ⟨h1, h2, h3⟩ := txE_ok h
  unfold txE
  rw [rdAt_more more h1]
  have hh : hdE m' (rdAt bs a) = 0 := by unfold hdE; rw [if_pos h1, if_neg (by omega)]
  rw [if_pos hh, if_neg (by rw [List.length_append]; omega)]
theorem cut_more {bs : List UInt8} (more : List UInt8) {a n : Nat} (h : a + n ≤ bs.length) : cut (bs ++ more) a n = cut bs a n := by
  unfold cut
  rw [List.take_append_of_le_length h]
theorem rdKey_more {c : Cf} {bs : List UInt8} (more : List UInt8) {r : Kn × Nat} (h : rdKey c bs 0 = some r) : rdKey c (bs ++ more) 0 = some r := by
  unfold rdKey at h ⊢
  split at h
  · cases h
  · rename_i h0
    have h0' : txE 256 bs 0 = 0 := by omega
    obtain ⟨t1, t2, t3⟩ := txE_ok h0'
    rw [if_neg (by rw [txE_more more h0' (Nat.le_refl _)]; simp), rdAt_more more t1, cut_more more (by omega)]
    simp only at h ⊢
    split at h
    · cases h
    · rename_i h1
      rw [rdAt_more more (a := 0 + (rdAt bs 0).2.1 + (rdAt bs 0).1) (by omega), if_neg h1]
      split at h
      · cases h
      · rename_i h2
        rw [rdAt_more more (a := 0 + (rdAt bs 0).2.1 + (rdAt bs 0).1 + (rdAt bs (0 + (rdAt bs 0).2.1 + (rdAt bs 0).1)).2.1) (by omega), if_neg h2]
        split at h
        · cases h
        · rename_i l a hw
          rw [rdWs_more more _ _ _ _ hw]
          exact h
theorem skTo_more {bs : List UInt8} (more : List UInt8) {r : ByteArray × Nat} (h : skTo bs 0 = some r) : skTo (bs ++ more) 0 = some r := by
  unfold skTo at h ⊢
  split at h
  · cases h
  · rename_i h0
    have h0' : txE bs.length bs 0 = 0 := by omega
    obtain ⟨t1, t2, t3⟩ := txE_ok h0'
    rw [if_neg (by rw [txE_more more h0' (by rw [List.length_append]; omega)]; simp), rdAt_more more t1, cut_more more (by omega)]
    simp only at h ⊢
    split at h
    · cases h
    · rename_i h1
      rw [rdAt_more more (a := 0 + (rdAt bs 0).2.1 + (rdAt bs 0).1) (by omega), if_neg h1]
      split at h
      · cases h
      · rename_i h2
        rw [rdAt_more more (a := 0 + (rdAt bs 0).2.1 + (rdAt bs 0).1 + (rdAt bs (0 + (rdAt bs 0).2.1 + (rdAt bs 0).1)).2.1) (by omega), if_neg h2]
        split at h
        · cases h
        · rename_i a hw
          rw [skN_more more _ _ _ hw]
          exact h
theorem skN_le {bs : List UInt8} : ∀ (n a r : Nat), a ≤ bs.length → skN bs n a = some r → r ≤ bs.length
  | 0, a, r, ha, h => by cases h; exact ha
  | n + 1, a, r, ha, h => by
    rw [skN] at h
    split at h
    · cases h
    · exact skN_le n _ r (rdAt_facts bs a ha).2.1 h
theorem rdWs_le {bs : List UInt8} : ∀ (n a : Nat) (l : List Wn) (l' : List Wn) (a' : Nat), a ≤ bs.length → (∀ x ∈ l, x.Fit) → rdWs bs n a l = some (l', a') → a' ≤ bs.length ∧ (∀ x ∈ l', x.Fit)
  | 0, a, l, l', a', ha, hl, h => by cases h; exact ⟨ha, hl⟩
  | n + 1, a, l, l', a', ha, hl, h => by
    rw [rdWs] at h
    cases hk : rdTo bs (lastS l) a 9 with
    | none => rw [hk] at h; cases h
    | some y =>
      obtain ⟨x, a2⟩ := y
      rw [hk] at h
      have hls : ∀ s, lastS l = some s → In64 s := fun s hs => by
        unfold lastS at hs
        cases hg : l.getLast? with
        | none => rw [hg] at hs; cases hs
        | some z => rw [hg] at hs; cases hs; exact (hl z (List.mem_of_getLast? hg)).s
      obtain ⟨h1, h2, -⟩ := rdTo_facts hls ha 9 x a2 hk
      refine rdWs_le n a2 _ l' a' h2 (fun z hz => ?_) h
      rw [List.mem_append, List.mem_singleton] at hz
      rcases hz with hz | rfl
      · exact hl z hz
      · exact h1
theorem skTo_le {bs : List UInt8} {k : ByteArray} {a : Nat} (h : skTo bs 0 = some (k, a)) : a ≤ bs.length := by
  unfold skTo at h
  split at h
  · cases h
  · rename_i h0
    obtain ⟨t1, t2, t3⟩ := txE_ok (m := bs.length) (bs := bs) (a := 0) (by omega)
    simp only at h
    split at h
    · cases h
    · have f1 := (rdAt_facts bs _ t3).2.1
      split at h
      · cases h
      · have f2 := (rdAt_facts bs _ f1).2.1
        split at h
        · cases h
        · rename_i r hw
          cases h
          exact skN_le _ _ _ f2 hw
theorem rdKey_le {c : Cf} {bs : List UInt8} {k : Kn} {a : Nat} (h : rdKey c bs 0 = some (k, a)) : a ≤ bs.length ∧ k.Fit := by
  unfold rdKey at h
  split at h
  · cases h
  · rename_i h0
    obtain ⟨t1, t2, t3⟩ := txE_ok (m := 256) (bs := bs) (a := 0) (by omega)
    simp only at h
    split at h
    · cases h
    · have f1 := (rdAt_facts bs _ t3).2.1
      split at h
      · cases h
      · have f2 := (rdAt_facts bs _ f1).2.1
        split at h
        · cases h
        · rename_i l r hw
          split at h
          · cases h
            obtain ⟨g1, g2⟩ := rdWs_le _ _ _ _ _ f2 (by simp) hw
            exact ⟨g1, wrap64_I _, g2⟩
          · cases h
/-! Beginnings. -/
theorem take_split {l : List UInt8} {m : Nat} (h : m < l.length) : ∃ t, l = l.take m ++ t ∧ (l.take m).length = m := ⟨l.drop m, (List.take_append_drop m l).symm, by simp; omega⟩
theorem cut_no (c : Cf) (k : Kn) (hf : k.Fit) (he : putE c k = 0) (hl : k.ws.length < 18446744073709551616) {m : Nat} (hm : m < (keyBytes k).length) : rdKey c ((keyBytes k).take m) 0 = none ∧ skTo ((keyBytes k).take m) 0 = none := by
  obtain ⟨t, ht, hlen⟩ := take_split hm
  have h1 := rdKey_back c k hf he hl []
  have h2 := skTo_back _ k hf (putE_ok he).2 hl []
  rw [List.append_nil] at h1 h2
  constructor
  · cases hr : rdKey c ((keyBytes k).take m) 0 with
    | none => rfl
    | some y =>
      obtain ⟨x, a⟩ := y
      have h3 := (rdKey_le hr).1
      have h4 := rdKey_more t hr
      rw [← ht, h1] at h4
      cases h4
      omega
  · cases hr : skTo ((keyBytes k).take m) 0 with
    | none => rfl
    | some y =>
      obtain ⟨x, a⟩ := y
      have h3 := skTo_le hr
      have h4 := skTo_more t hr
      rw [← ht, h2] at h4
      cases h4
      omega
theorem begin_same (c : Cf) (j k : Kn) (hfj : j.Fit) (hfk : k.Fit) (hj : putE c j = 0) (hk : putE c k = 0) (hlj : j.ws.length < 18446744073709551616) (hlk : k.ws.length < 18446744073709551616) (h : (keyBytes j).take (min (keyBytes j).length (keyBytes k).length) = (keyBytes k).take (min (keyBytes j).length (keyBytes k).length)) : j = k := by
  rcases Nat.le_total (keyBytes j).length (keyBytes k).length with hle | hle
  · rw [Nat.min_eq_left hle, List.take_length] at h
    have e : keyBytes k = keyBytes j ++ (keyBytes k).drop (keyBytes j).length := by
      conv => lhs; rw [← List.take_append_drop (keyBytes j).length (keyBytes k)]
      rw [← h]
    have h1 := rdKey_back c j hfj hj hlj ((keyBytes k).drop (keyBytes j).length)
    have h2 := rdKey_back c k hfk hk hlk []
    rw [List.append_nil] at h2
    rw [← e, h2] at h1
    cases h1
    rfl
  · rw [Nat.min_eq_right hle, List.take_length] at h
    have e : keyBytes j = keyBytes k ++ (keyBytes j).drop (keyBytes k).length := by
      conv => lhs; rw [← List.take_append_drop (keyBytes k).length (keyBytes j)]
      rw [h]
    have h1 := rdKey_back c k hfk hk hlk ((keyBytes j).drop (keyBytes k).length)
    have h2 := rdKey_back c j hfj hj hlj []
    rw [List.append_nil] at h2
    rw [← e, h2] at h1
    cases h1
    rfl
theorem keyBytes_pos (k : Kn) : 0 < (keyBytes k).length := by
  unfold keyBytes
  have := num7_pos k.dr.toNat
  simp only [List.length_append]
  omega
end Go.Proofs.Ytaechgnjdjijkaa

/- Keys' states in a row in memory; all keys' states, read: plainly. -/
namespace Go.Proofs.Ytaechgnjdjijkaa
open Go.RowKit Go.Lib

/-- A key's state and where its windows lie. -/
structure Km where
  k : Kn
  A : Option Addr
  cap : Nat
def Km.win (x : Km) : Value := .slice x.A x.k.ws.length x.cap
def Km.cells (x : Km) : List Value := [.string x.k.key, .int .i64 x.k.dr, .slice x.A x.k.ws.length x.cap]
def Km.arr (x : Km) : Array Value := #[.string x.k.key, .int .i64 x.k.dr, .slice x.A x.k.ws.length x.cap]
def Km.val (x : Km) : Value := .agg #[.string x.k.key, .int .i64 x.k.dr, .slice x.A x.k.ws.length x.cap]
def kcells (l : List Km) : List Value := l.flatMap Km.cells
theorem kcells_append (a b : List Km) : kcells (a ++ b) = kcells a ++ kcells b := by simp [kcells]
theorem kcells_length (l : List Km) : (kcells l).length = l.length * 3 := flat_length Km.cells 3 (fun _ => rfl) l
theorem kcells_at (l : List Km) (k : Nat) (x : Km) (h : l[k]? = some x) (j : Nat) (u : Value) (hj : x.cells[j]? = some u) : (kcells l)[k * 3 + j]? = some u := flat_at Km.cells 3 (fun _ => rfl) l k x h j u hj
theorem km_one (x : Km) : ∀ u ∈ x.cells, u.oneCell' = true := by
  intro u hu
  simp only [Km.cells, List.mem_cons, List.not_mem_nil, or_false] at hu
  rcases hu with rfl | rfl | rfl <;> rfl
theorem kcells_one (l : List Km) : ∀ u ∈ kcells l, u.oneCell' = true := by
  intro u hu
  simp only [kcells, List.mem_flatMap] at hu
  obtain ⟨x, _, hx⟩ := hu
  exact km_one x u hx
/-- Its windows lie there. -/
def Km.Ok (w : World) (x : Km) : Prop := Rd w (.slice x.A x.k.ws.length x.cap) x.k.ws.length (wcells x.k.ws)
/-- Its windows lie in new memory. -/
def Km.Own (w : World) (B : Nat) (x : Km) : Prop := w.ownsRow B 93 9 (.slice x.A x.k.ws.length x.cap) x.k.ws.length (wcells x.k.ws)
theorem Km.Own.ok {w : World} {B : Nat} {x : Km} (h : x.Own w B) : x.Ok w := Rd.of_owns h
theorem Km.Ok.below {w w' : World} {x : Km} (h : x.Ok w) (hb : Below w.heap.size w w') : x.Ok w' := Rd.below h hb
theorem Km.Own.mono {w : World} {B B' : Nat} {x : Km} (h : x.Own w B) (hb : B' ≤ B) : x.Own w B' := own_mono h hb
theorem Km.Own.below {w w' : World} {B : Nat} {x : Km} (h : x.Own w B) (hb : Below w.heap.size w w') : x.Own w' B := own_below h hb
theorem Km.Ok.rk {w : World} {x : Km} (h : x.Ok w) : Rk w x.val x.k := ⟨x.A, x.cap, rfl, h⟩
/-- A slice that reads as keys' states. -/
structure Rks (w : World) (v : Value) (n : Nat) (l : List Km) : Prop where
  rd : Rd w v n (kcells l)
  len : l.length = n
  ok : ∀ x ∈ l, x.Ok w
theorem Rks.below {w w' : World} {v : Value} {n : Nat} {l : List Km} (h : Rks w v n l) (hb : Below w.heap.size w w') : Rks w' v n l := ⟨h.rd.below hb, h.len, fun x hx => (h.ok x hx).below hb⟩
/-- A slice of keys' states in new memory. -/
structure Oks (w : World) (B : Nat) (v : Value) (n : Nat) (l : List Km) : Prop where
  own : w.ownsRow B 29 3 v n (kcells l)
  len : l.length = n
  each : ∀ x ∈ l, x.Own w B
theorem Oks.rks {w : World} {B : Nat} {v : Value} {n : Nat} {l : List Km} (h : Oks w B v n l) : Rks w v n l := ⟨Rd.of_owns h.own, h.len, fun x hx => (h.each x hx).ok⟩
theorem Oks.below {w w' : World} {B : Nat} {v : Value} {n : Nat} {l : List Km} (h : Oks w B v n l) (hb : Below w.heap.size w w') : Oks w' B v n l := ⟨own_below h.own hb, h.len, fun x hx => (h.each x hx).below hb⟩
theorem Oks.mono {w : World} {B B' : Nat} {v : Value} {n : Nat} {l : List Km} (h : Oks w B v n l) (hb : B' ≤ B) : Oks w B' v n l := ⟨own_mono h.own hb, h.len, fun x hx => (h.each x hx).mono hb⟩
/-- Behind what has turned elsewhere. -/
theorem Km.Own.grown {w w' : World} {B : Nat} {x : Km} {row : Option Nat} (h : x.Own w B) (hg : w.grownBy w' row) (hr : ∀ r, row = some r → (Value.slice x.A x.k.ws.length x.cap).ownBlock ≠ some r) : x.Own w' B :=
  own_heap h fun r hr' => hg.block r (h.lt r hr').2 (fun e => hr r e.symm hr')
theorem Km.Own.ne {w : World} {B B' : Nat} {x : Km} {v : Value} {n : Nat} {xs : List Value} (h : x.Own w B) (ho : w.ownsRow B' 29 3 v n xs) : ∀ r, v.ownBlock = some r → (Value.slice x.A x.k.ws.length x.cap).ownBlock ≠ some r := fun r hr e => by
  rcases own_own_ne h ho (by decide) with h1 | h1
  · rw [h1] at e; cases e
  · exact h1 (e.trans hr.symm)
/-- One behind them. -/
theorem Oks.snoc {w w' : World} {B : Nat} {v v' : Value} {n : Nat} {l : List Km} {x : Km} (h : Oks w B v n l) (hx : x.Own w B) (ho : w'.ownsRow B 29 3 v' (n + 1) (kcells l ++ x.cells)) (hg : w.grownBy w' v.ownBlock) : Oks w' B v' (n + 1) (l ++ [x]) := by
  refine ⟨?_, by simp [h.len], fun y hy => ?_⟩
  · rw [kcells_append]
    have : kcells [x] = x.cells := by simp [kcells]
    rw [this]; exact ho
  · rw [List.mem_append, List.mem_singleton] at hy
    rcases hy with hy | rfl
    · exact (h.each y hy).grown hg ((h.each y hy).ne h.own)
    · exact hx.grown hg (hx.ne h.own)
/-- The key's state at a place of a slice. -/
theorem rks_at {w : World} {A : Option Addr} {n cap : Nat} {l : List Km} (h : Rks w (.slice A n cap) n l) {k : Nat} {x : Km} (hk : l[k]? = some x) :
    ∃ g off, A = some ⟨g, off, none⟩ ∧ g < w.heap.size ∧ w.cell? ⟨g, off + k * 3, none⟩ = some (.string x.k.key) ∧ w.cell? ⟨g, off + k * 3 + 1, none⟩ = some (.int .i64 x.k.dr) ∧ w.cell? ⟨g, off + k * 3 + 2, none⟩ = some (.slice x.A x.k.ws.length x.cap) := by
  obtain ⟨_, _, hv, _, _, hr⟩ := h.rd
  cases hv
  have hlt := (List.getElem?_eq_some_iff.1 hk).1
  have := h.len
  obtain ⟨g, off, hA, hg, hc⟩ := hr (by omega)
  have e : ∀ (j : Nat) (u : Value), x.cells[j]? = some u → w.cell? ⟨g, off + k * 3 + j, none⟩ = some u := fun j u hj => by rw [Nat.add_assoc]; exact hc _ _ (kcells_at l k x hk j u hj)
  exact ⟨g, off, hA, hg, e 0 _ rfl, e 1 _ rfl, e 2 _ rfl⟩
theorem keyInfo : (Try.prog.info? 29).map (fun i => (i.zero, i.size, i.bytes)) = some (some (.agg #[.string ⟨#[]⟩, .int .i64 0, .slice none 0 0]), 3, 48) := by kernel_rfl

/-! Plainly. -/
/-- Is one key not below another one? -/
def geS (a b : ByteArray) : Bool := !Op.bytesLess a.toList b.toList
/-- Is the last key not below this one? -/
def notUp (l : List Kn) (k : Kn) : Bool := match l.getLast? with
  | none => false
  | some y => geS y.key k.key
/-- All keys' states, read behind these. -/
noncomputable def rdAll (c : Cf) : Nat → List UInt8 → List Kn → Option (List Kn)
  | 0, _, l => some l
  | n + 1, bs, l => if bs.length = 0 then some l else match rdKey c bs 0 with
    | none => none
    | some (k, a) => if notUp l k then none else rdAll c n (bs.drop a) (l ++ [k])
theorem rdAll_nil (c : Cf) (n : Nat) (l : List Kn) : rdAll c n [] l = some l := by cases n <;> simp [rdAll]
theorem rdWs_ge {bs : List UInt8} : ∀ (n a : Nat) (l : List Wn) (l' : List Wn) (a' : Nat), a ≤ bs.length → (∀ x ∈ l, x.Fit) → rdWs bs n a l = some (l', a') → a + 9 * n ≤ a' ∧ l'.length = l.length + n
  | 0, a, l, l', a', ha, hl, h => by cases h; exact ⟨Nat.le_refl _, rfl⟩
  | n + 1, a, l, l', a', ha, hl, h => by
    rw [rdWs] at h
    cases hk : rdTo bs (lastS l) a 9 with
    | none => rw [hk] at h; cases h
    | some y =>
      obtain ⟨x, a2⟩ := y
      rw [hk] at h
      have hls : ∀ s, lastS l = some s → In64 s := fun s hs => by
        unfold lastS at hs
        cases hg : l.getLast? with
        | none => rw [hg] at hs; cases hs
        | some z => rw [hg] at hs; cases hs; exact (hl z (List.mem_of_getLast? hg)).s
      obtain ⟨h1, h2, h3⟩ := rdTo_facts hls ha 9 x a2 hk
      obtain ⟨h4, h5⟩ := rdWs_ge n a2 _ l' a' h2 (fun z hz => by
        rw [List.mem_append, List.mem_singleton] at hz
        rcases hz with hz | rfl
        · exact hl z hz
        · exact h1) h
      rw [List.length_append, List.length_singleton] at h5
      omega
theorem cut_size {bs : List UInt8} {a n : Nat} (h : a + n ≤ bs.length) : (⟨(cut bs a n).toArray⟩ : ByteArray).size = n := by
  show (cut bs a n).toArray.size = n
  simp [cut_length bs a n h]
theorem rdKey_pos {c : Cf} {bs : List UInt8} {k : Kn} {a : Nat} (h : rdKey c bs 0 = some (k, a)) : k.key.size + 9 * k.ws.length + 3 ≤ a ∧ KeyP (c.k == 3) k := by
  unfold rdKey at h
  split at h
  · cases h
  · rename_i h0
    obtain ⟨t1, t2, t3⟩ := txE_ok (m := 256) (bs := bs) (a := 0) (by omega)
    simp only at h
    split at h
    · cases h
    · rename_i h1
      have f1 := (rdAt_facts bs _ t3).2.1
      split at h
      · cases h
      · rename_i h2
        have f2 := (rdAt_facts bs _ f1).2.1
        have p0 := rdAt_pos (Nat.zero_le _) t1
        have p1 := rdAt_pos t3 (by omega)
        have p2 := rdAt_pos f1 (by omega)
        split at h
        · cases h
        · rename_i l r hw
          split at h
          · rename_i hk
            cases h
            obtain ⟨g1, g2⟩ := rdWs_ge _ _ _ _ _ f2 (by simp) hw
            refine ⟨?_, keyB_iff.1 hk⟩
            simp only
            rw [cut_size t3]
            have g3 : l.length = _ := g2.trans (Nat.zero_add _)
            omega
          · cases h
end Go.Proofs.Ytaechgnjdjijkaa

/- A key's state that was read, written again: plainly. -/
namespace Go.Proofs.Ytaechgnjdjijkaa
open Go.RowKit Go.Lib

theorem cut_cut (bs : List UInt8) (a n m : Nat) : cut bs a n ++ cut bs (a + n) m = cut bs a (n + m) := by
  have h := cut_add bs a n (a + n + m) (by omega)
  unfold cut at h ⊢
  rw [h, show a + (n + m) = a + n + m by omega]
theorem fld_put (y : Wn) (z : Int) (j k : Nat) (hj : j < 9) (hk : k < 9) : fld (y.put k z) j = if j = k then z else fld y j := by
  have a : j = 0 ∨ j = 1 ∨ j = 2 ∨ j = 3 ∨ j = 4 ∨ j = 5 ∨ j = 6 ∨ j = 7 ∨ j = 8 := by omega
  have b : k = 0 ∨ k = 1 ∨ k = 2 ∨ k = 3 ∨ k = 4 ∨ k = 5 ∨ k = 6 ∨ k = 7 ∨ k = 8 := by omega
  rcases b with rfl | rfl | rfl | rfl | rfl | rfl | rfl | rfl | rfl <;> rcases a with rfl | rfl | rfl | rfl | rfl | rfl | rfl | rfl | rfl <;> rfl
theorem okW_parts {x : Wn} (h : okW x = true) : (0 ≤ x.c ∧ x.c ≤ 9007199254740992) ∧ (0 ≤ x.si ∧ x.si ≤ 9007199254740992) ∧ (0 ≤ x.pa ∧ x.pa ≤ 9007199254740992) ∧ x.s < x.e ∧ -4611687117939015680 ≤ x.s ∧ x.e ≤ 4611687117939015680 := by
  unfold okW at h
  simp only [Bool.and_eq_true, wi_iff, decide_eq_true_eq] at h
  omega
theorem wrap64_ge {n : Nat} {v : Int} (hn : n < 18446744073709551616) (h : wrap64 (n : Int) = v) (h0 : 0 ≤ v) : v.toNat = n := by
  unfold wrap64 at h
  omega
theorem abX_zero {bs : List UInt8} {a : Nat} {f : Int} (h : (abX bs a f).2 = 0) : (rdAt bs a).2.2 = 0 ∧ ((rdAt bs a).1 : Int) ≤ 9223372036854775807 - f ∧ (abX bs a f).1 = f + ((rdAt bs a).1 : Int) := by
  unfold abX abV at h ⊢
  by_cases hc : (rdAt bs a).2.2 = 0 ∧ ((rdAt bs a).1 : Int) ≤ 9223372036854775807 - f
  · rw [if_pos hc]
    exact ⟨hc.1, hc.2, rfl⟩
  · rw [if_neg hc] at h
    cases h
/-- A number that was read into a window's field is the field's number. -/
theorem fget_again {bs : List UInt8} {last : Option Int} {x y : Wn} {a j : Nat} (hj : j < 9) (hx : okW x = true) (hfx : x.Fit) (ha : a ≤ bs.length) (hs : 0 < j → y.s = x.s) (h : (fget bs last y a j).2 = 0) (hz : (fget bs last y a j).1 = fld x j) :
    (rdAt bs a).1 = fnum last x j := by
  obtain ⟨hc, hsi, hpa, hse, hsl, hel⟩ := okW_parts hx
  have hlt := (rdAt_facts bs a ha).1
  have hg : ∀ {v : Int}, sgAt bs a = v → ((rdAt bs a).2.2 : Int) = 0 → (rdAt bs a).1 = zig v := fun {v} h1 h2 => by
    unfold sgAt at h1
    rw [if_pos (by omega)] at h1
    rw [← h1, zig_unz]
  match j, hj with
  | 0, _ =>
    cases last with
    | none => exact hg hz h
    | some s =>
      obtain ⟨_, h2, h3⟩ := abX_zero h
      have hz' : (abX bs a s).1 = x.s := hz
      show _ = (x.s - s).toNat
      omega
  | 1, _ =>
    have h' : (abX bs a y.s).2 = 0 := h
    have hz' : wrap64 ((abX bs a y.s).1 + 1) = x.e := hz
    obtain ⟨_, h2, h3⟩ := abX_zero h'
    have hys := hs (by omega)
    rw [h3, hys] at hz'
    rw [hys] at h2
    show _ = (x.e - x.s - 1).toNat
    unfold wrap64 at hz'
    have := hfx.s
    have := hfx.e
    unfold In64 at *
    omega
  | 2, _ => exact hg hz h
  | 3, _ => exact (wrap64_ge hlt hz hc.1).symm
  | 4, _ => exact hg hz h
  | 5, _ => exact hg hz h
  | 6, _ => exact hg hz h
  | 7, _ => exact (wrap64_ge hlt hz hsi.1).symm
  | 8, _ => exact (wrap64_ge hlt hz hpa.1).symm
theorem rdTo_again {bs : List UInt8} {last : Option Int} {at0 : Nat} (hl : ∀ s, last = some s → In64 s) (h0 : at0 ≤ bs.length) (x : Wn) (hx : okW x = true) (hfx : x.Fit) : ∀ (k : Nat) (y : Wn) (a : Nat), k ≤ 9 → rdTo bs last at0 k = some (y, a) → (∀ j, j < k → fld x j = fld y j) →
    at0 ≤ a ∧ winTo last x k = cut bs at0 (a - at0)
  | 0, y, a, _, h, _ => by
    cases h
    exact ⟨Nat.le_refl _, by simp [winTo, cut]⟩
  | k + 1, y, a, hk, h, hf => by
    rw [rdTo] at h
    cases hy : rdTo bs last at0 k with
    | none => rw [hy] at h; cases h
    | some q =>
      obtain ⟨y1, a1⟩ := q
      rw [hy] at h
      simp only at h
      split at h
      · rename_i h2
        cases h
        obtain ⟨_, g2, g3⟩ := rdTo_facts hl h0 k y1 a1 hy
        have hfk := hf k (by omega)
        rw [fld_put _ _ _ _ (by omega) (by omega), if_pos rfl] at hfk
        have hfl : ∀ j, j < k → fld x j = fld y1 j := fun j hj => by
          have := hf j (by omega)
          rwa [fld_put _ _ _ _ (by omega) (by omega), if_neg (by omega)] at this
        obtain ⟨i1, i2⟩ := rdTo_again hl h0 x hx hfx k y1 a1 (by omega) hy hfl
        have hn := fget_again (by omega) hx hfx g2 (fun h => (hfl 0 h).symm) h2 hfk.symm
        have he := fget_err k h2
        refine ⟨by omega, ?_⟩
        rw [winTo_succ, i2, ← hn, rdAt_again bs a1 he]
        have := cut_cut bs at0 (a1 - at0) (rdAt bs a1).2.1
        rw [show at0 + (a1 - at0) = a1 by omega] at this
        rw [this]
        congr 1
        omega
      · cases h
theorem rdWs_pre {bs : List UInt8} : ∀ (n a : Nat) (l : List Wn) (l' : List Wn) (a' : Nat), rdWs bs n a l = some (l', a') → ∃ t, l' = l ++ t ∧ t.length = n
  | 0, a, l, l', a', h => by cases h; exact ⟨[], by simp, rfl⟩
  | n + 1, a, l, l', a', h => by
    rw [rdWs] at h
    cases hk : rdTo bs (lastS l) a 9 with
    | none => rw [hk] at h; cases h
    | some y =>
      rw [hk] at h
      obtain ⟨t, h1, h2⟩ := rdWs_pre n _ _ l' a' h
      exact ⟨y.1 :: t, by rw [h1]; simp, by simp [h2]⟩
theorem rdWs_again {bs : List UInt8} : ∀ (n a : Nat) (l : List Wn) (l' : List Wn) (a' : Nat), a ≤ bs.length → (∀ x ∈ l, x.Fit) → rdWs bs n a l = some (l', a') → (∀ x ∈ l', okW x = true) →
    a ≤ a' ∧ wF l' n l.length = cut bs a (a' - a)
  | 0, a, l, l', a', ha, hl, h, _ => by
    cases h
    exact ⟨Nat.le_refl _, by simp [wF, cut]⟩
  | n + 1, a, l, l', a', ha, hl, h, hok => by
    rw [rdWs] at h
    cases hk : rdTo bs (lastS l) a 9 with
    | none => rw [hk] at h; cases h
    | some y =>
      obtain ⟨x, a2⟩ := y
      rw [hk] at h
      simp only at h
      have hls : ∀ s, lastS l = some s → In64 s := fun s hs => by
        unfold lastS at hs
        cases hg : l.getLast? with
        | none => rw [hg] at hs; cases hs
        | some z => rw [hg] at hs; cases hs; exact (hl z (List.mem_of_getLast? hg)).s
      obtain ⟨h1, h2, h3⟩ := rdTo_facts hls ha 9 x a2 hk
      obtain ⟨t, ht, -⟩ := rdWs_pre n _ _ l' a' h
      have hx' : l'[l.length]? = some x := by rw [ht]; simp
      have hxm : x ∈ l' := List.mem_of_getElem? hx'
      have hla : lastS l = lastOf l' l.length := by
        have hlt : l.length < l'.length := (List.getElem?_eq_some_iff.1 hx').1
        have := lastS_take (l := l') hlt
        rw [← this, ht]; simp
      obtain ⟨j1, j2⟩ := rdTo_again hls ha x (hok x hxm) h1 9 x a2 (Nat.le_refl _) hk (fun _ _ => rfl)
      obtain ⟨i1, i2⟩ := rdWs_again n a2 (l ++ [x]) l' a' h2 (fun z hz => by
        rw [List.mem_append, List.mem_singleton] at hz
        rcases hz with hz | rfl
        · exact hl z hz
        · exact h1) h hok
      rw [List.length_append, List.length_singleton] at i2
      refine ⟨by omega, ?_⟩
      have hwa : winAt l' l.length = winTo (lastOf l' l.length) x 9 := by unfold winAt; rw [hx']
      rw [wF, hwa, ← hla, j2, i2]
      have := cut_cut bs a (a2 - a) (a' - a2)
      rw [show a + (a2 - a) = a2 by omega] at this
      rw [this]
      congr 1
      omega
/-- What is read is written as what was read. -/
theorem rdKey_again {c : Cf} {bs : List UInt8} {k : Kn} {a : Nat} (h : rdKey c bs 0 = some (k, a)) : keyBytes k = bs.take a := by
  obtain ⟨-, hkp⟩ := rdKey_pos h
  unfold rdKey at h
  split at h
  · cases h
  · rename_i h0
    obtain ⟨x1, x2, x3⟩ := text_again bs 256 0 (Nat.zero_le _) (by omega)
    obtain ⟨t1, t2, t3⟩ := txE_ok (m := 256) (bs := bs) (a := 0) (by omega)
    simp only at h
    generalize hB : (⟨(cut bs (0 + (rdAt bs 0).2.1) (rdAt bs 0).1).toArray⟩ : ByteArray) = K at h
    have hKs : K.size = (rdAt bs 0).1 := by rw [← hB]; exact cut_size t3
    have hKd : K.data.toList = cut bs (0 + (rdAt bs 0).2.1) (rdAt bs 0).1 := by rw [← hB]
    generalize ha1 : 0 + (rdAt bs 0).2.1 + (rdAt bs 0).1 = a1 at *
    split at h
    · cases h
    · rename_i h1
      have f1 := (rdAt_facts bs _ t3).2.1
      split at h
      · cases h
      · rename_i h2
        have f2 := (rdAt_facts bs _ f1).2.1
        split at h
        · cases h
        · rename_i l r hw
          split at h
          · rename_i hkb
            cases h
            have hd := wi_iff.1 hkp.2.1
            have hlt := (rdAt_facts bs _ t3).1
            have hdr := wrap64_ge hlt rfl hd.1
            have hok : ∀ x ∈ l, okW x = true := fun x hx => by
              obtain ⟨i, hi⟩ := List.getElem?_of_mem hx
              exact (hkp.2.2 i x (List.getElem?_eq_some_iff.1 hi).1 hi).1
            obtain ⟨g1, g2⟩ := rdWs_again _ _ _ _ _ f2 (by simp) hw hok
            obtain ⟨-, g3⟩ := rdWs_ge _ _ _ _ _ f2 (by simp) hw
            simp only [List.length_nil, Nat.zero_add] at g2 g3
            have hw0 : winsTo l l.length = wF l l.length 0 := by
              have := winsTo_wF l l.length 0
              rw [Nat.zero_add] at this
              rw [this]; simp [winsTo]
            unfold keyBytes
            simp only at hdr ⊢
            rw [hw0, hKs, hKd, x2, hdr, g3, rdAt_again bs a1 (by omega), rdAt_again bs _ (Decidable.not_not.1 h2), g2]
            have e0 : (bs.take a1).drop 0 = cut bs 0 a1 := by unfold cut; rw [Nat.zero_add]
            rw [e0]
            have c1 := cut_cut bs 0 a1 (rdAt bs a1).2.1
            rw [Nat.zero_add] at c1
            rw [c1]
            have c2 := cut_cut bs 0 (a1 + (rdAt bs a1).2.1) (rdAt bs (a1 + (rdAt bs a1).2.1)).2.1
            rw [Nat.zero_add] at c2
            rw [c2]
            have c3 := cut_cut bs 0 (a1 + (rdAt bs a1).2.1 + (rdAt bs (a1 + (rdAt bs a1).2.1)).2.1) (a - (a1 + (rdAt bs a1).2.1 + (rdAt bs (a1 + (rdAt bs a1).2.1)).2.1))
            rw [Nat.zero_add] at c3
            rw [c3]
            unfold cut
            rw [Nat.zero_add, List.drop_zero]
            congr 1
            omega
          · cases h
end Go.Proofs.Ytaechgnjdjijkaa
