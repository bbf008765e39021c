/- What was written is read: plainly. -/
import Derived.Test.YtaechgnjdjijkaaSkip
import Derived.Test.YtaechgnjdjijkaaPlain2
namespace Go.Proofs.Ytaechgnjdjijkaa
open Go.RowKit Go.Lib

/-- A window's field. -/
def fld (x : Wn) : Nat → Int
  | 0 => x.s
  | 1 => x.e
  | 2 => x.h
  | 3 => x.c
  | 4 => x.u
  | 5 => x.lo
  | 6 => x.hi
  | 7 => x.si
  | _ => x.pa
/-- Its first ones. -/
def part (x : Wn) : Nat → Wn
  | 0 => wn0
  | k + 1 => (part x k).put k (fld x k)
theorem part_nine (x : Wn) : part x 9 = x := by
  obtain ⟨a, b, c, d, e, f, g, h, i⟩ := x
  simp only [part, Wn.put, fld, wn0]
theorem part_one (x : Wn) : (part x 1).s = x.s := rfl
theorem abX_of {bs : List UInt8} {a : Nat} {f v : Int} {n : Nat} (h : rdAt bs a = ((v - f).toNat, n, 0)) (h1 : f ≤ v) (h2 : v ≤ 9223372036854775807) : abX bs a f = (v, 0) := by
  unfold abX abV
  rw [h]
  simp only
  have e : (((v - f).toNat : Nat) : Int) = v - f := by omega
  rw [e, if_pos ⟨trivial, by omega⟩]
  simp only
  congr 1
  omega
theorem sgAt_of {bs : List UInt8} {a : Nat} {v : Int} {n : Nat} (h : rdAt bs a = (zig v, n, 0)) : sgAt bs a = v := by
  unfold sgAt
  rw [h]
  simp only [if_pos]
  exact unz_zig v
theorem wrap64_nat {v : Int} (h1 : 0 ≤ v) (h2 : v ≤ 9223372036854775807) : wrap64 ((v.toNat : Nat) : Int) = v := by
  unfold wrap64; omega
theorem fget_of {bs : List UInt8} {last : Option Int} {x : Wn} (hw : Wr9 last x) {a : Nat} : ∀ (k : Nat) (n : Nat), k < 9 → rdAt bs a = (fnum last x k, n, 0) → fget bs last (part x k) a k = (fld x k, 0) := by
  have ho := hw.ok
  unfold okW at ho
  simp only [Bool.and_eq_true, wi_iff, decide_eq_true_eq] at ho
  have hs := hw.fit.s
  have he := hw.fit.e
  unfold In64 at hs he
  intro k n hk h
  match k, hk with
  | 0, _ =>
    unfold fget
    cases last with
    | none => simp only; rw [sgAt_of h, h]; rfl
    | some s =>
      simp only
      obtain ⟨h1, h2⟩ := hw.le s rfl
      have hv : x.s ≤ 9223372036854775807 := by omega
      exact abX_of (v := x.s) h h2 hv
  | 1, _ =>
    unfold fget
    have h' : rdAt bs a = (((x.e - 1) - x.s).toNat, n, 0) := by rw [h]; show ((x.e - x.s - 1).toNat, n, 0) = _; rw [show x.e - x.s - 1 = x.e - 1 - x.s by omega]
    rw [part_one, abX_of h' (by omega) (by omega)]
    simp only [fld]
    rw [show x.e - 1 + 1 = x.e by omega, wrap64_in (by omega) (by omega)]
  | 2, _ => unfold fget; rw [sgAt_of (v := x.h) h, h]; rfl
  | 3, _ => unfold fget; rw [h]; show (wrap64 ((x.c.toNat : Nat) : Int), (0 : Int)) = _; rw [wrap64_nat (by omega) (by omega)]; rfl
  | 4, _ => unfold fget; rw [sgAt_of (v := x.u) h, h]; rfl
  | 5, _ => unfold fget; rw [sgAt_of (v := x.lo) h, h]; rfl
  | 6, _ => unfold fget; rw [sgAt_of (v := x.hi) h, h]; rfl
  | 7, _ => unfold fget; rw [h]; show (wrap64 ((x.si.toNat : Nat) : Int), (0 : Int)) = _; rw [wrap64_nat (by omega) (by omega)]; rfl
  | 8, _ => unfold fget; rw [h]; show (wrap64 ((x.pa.toNat : Nat) : Int), (0 : Int)) = _; rw [wrap64_nat (by omega) (by omega)]; rfl
  | j + 9, h => omega
theorem rdTo_back {last : Option Int} {x : Wn} (hw : Wr9 last x) (pre : List UInt8) : ∀ (k : Nat) (post : List UInt8), k ≤ 9 → rdTo (pre ++ (winTo last x k ++ post)) last pre.length k = some (part x k, pre.length + (winTo last x k).length)
  | 0, post, _ => by simp [rdTo, part, winTo]
  | k + 1, post, hk => by
    have e : pre ++ (winTo last x (k + 1) ++ post) = pre ++ (winTo last x k ++ (num7 (fnum last x k) ++ post)) := by rw [winTo_succ, List.append_assoc]
    have ih := rdTo_back hw pre k (num7 (fnum last x k) ++ post) (by omega)
    have hr : rdAt (pre ++ (winTo last x k ++ (num7 (fnum last x k) ++ post))) (pre.length + (winTo last x k).length) = (fnum last x k, (num7 (fnum last x k)).length, 0) := by
      have := rdAt_num7 (pre ++ winTo last x k) post (fnum last x k) (fnum_lt hw k)
      rw [List.append_assoc, List.length_append] at this
      exact this
    have hf := fget_of (bs := pre ++ (winTo last x k ++ (num7 (fnum last x k) ++ post))) hw k _ (by omega) hr
    rw [e, rdTo_succ ih (by rw [hf]), hf, hr, winTo_succ, List.length_append]
    simp only [part]
    rw [Nat.add_assoc]
def wF (l : List Wn) : Nat → Nat → List UInt8
  | 0, _ => []
  | j + 1, k => winAt l k ++ wF l j (k + 1)
theorem winsTo_wF (l : List Wn) : ∀ (j k : Nat), winsTo l (k + j) = winsTo l k ++ wF l j k
  | 0, k => by simp [wF]
  | j + 1, k => by
    have := winsTo_wF l j (k + 1)
    rw [show k + (j + 1) = k + 1 + j by omega, this, winsTo_succ, wF, List.append_assoc]
theorem lastS_take {l : List Wn} {k : Nat} (hk : k < l.length) : lastS (l.take k) = lastOf l k := by
  unfold lastS lastOf
  cases k with
  | zero => simp
  | succ k =>
    rw [if_neg (by omega), List.getLast?_take]
    simp
    rw [List.getElem?_eq_getElem (by omega)]
    simp
theorem rdWs_back {l : List Wn} (h : ∀ (i : Nat) (x : Wn), l[i]? = some x → Wr9 (lastOf l i) x) : ∀ (j k : Nat) (pre post : List UInt8), k + j = l.length → rdWs (pre ++ (wF l j k ++ post)) j pre.length (l.take k) = some (l, pre.length + (wF l j k).length)
  | 0, k, pre, post, hk => by simp [rdWs, wF, show k = l.length by omega]
  | j + 1, k, pre, post, hk => by
    have hkl : k < l.length := by omega
    have hx : l[k]? = some (l[k]'hkl) := List.getElem?_eq_getElem hkl
    have hw := h k _ hx
    have hwa : winAt l k = winTo (lastOf l k) (l[k]'hkl) 9 := by unfold winAt; rw [hx]
    have hb := rdTo_back hw pre 9 (wF l j (k + 1) ++ post) (Nat.le_refl _)
    have e : pre ++ (wF l (j + 1) k ++ post) = pre ++ (winTo (lastOf l k) (l[k]'hkl) 9 ++ (wF l j (k + 1) ++ post)) := by rw [wF, hwa, List.append_assoc]
    have ih := rdWs_back h j (k + 1) (pre ++ winTo (lastOf l k) (l[k]'hkl) 9) post (by omega)
    rw [List.append_assoc, List.length_append] at ih
    rw [e, rdWs, lastS_take hkl, hb]
    simp only
    rw [part_nine, ← List.take_succ_eq_append_getElem hkl, ih, wF, hwa, List.length_append, Nat.add_assoc]
theorem rdKey_back (c : Cf) (k : Kn) (hf : k.Fit) (he : putE c k = 0) (hl : k.ws.length < 18446744073709551616) (post : List UInt8) : rdKey c (keyBytes k ++ post) 0 = some (k, (keyBytes k).length) := by
  obtain ⟨hj, hp⟩ := putE_ok he
  have hsz := hp.1
  have hd := wi_iff.1 hp.2.1
  obtain ⟨D, hD⟩ : ∃ D, num7 k.dr.toNat = D := ⟨_, rfl⟩
  obtain ⟨N, hN⟩ : ∃ N, num7 k.ws.length = N := ⟨_, rfl⟩
  have hw0 : winsTo k.ws k.ws.length = wF k.ws k.ws.length 0 := by
    have := winsTo_wF k.ws k.ws.length 0
    rw [Nat.zero_add] at this
    rw [this]; simp [winsTo]
  obtain ⟨F, hF⟩ : ∃ F, wF k.ws k.ws.length 0 = F := ⟨_, rfl⟩
  obtain ⟨T, hT⟩ : ∃ T, num7 k.key.size ++ k.key.data.toList = T := ⟨_, rfl⟩
  have hTl : T.length = (num7 k.key.size).length + k.key.size := by rw [← hT]; simp
  have hkb : keyBytes k = T ++ (D ++ (N ++ F)) := by unfold keyBytes; rw [hT, hD, hN, hw0, hF]; simp
  obtain ⟨t1, t2, t3⟩ := text_back [] (D ++ (N ++ (F ++ post))) k.key 256 hsz (by omega)
  rw [hT] at t1 t2 t3
  have hbs : keyBytes k ++ post = [] ++ (T ++ (D ++ (N ++ (F ++ post)))) := by rw [hkb]; simp
  rw [← hbs] at t1 t2 t3
  have d1 : rdAt (keyBytes k ++ post) T.length = (k.dr.toNat, D.length, 0) := by
    have := rdAt_num7 T (N ++ (F ++ post)) k.dr.toNat (by omega)
    rw [hD] at this
    rw [hbs]; exact this
  have n1 : rdAt (keyBytes k ++ post) (T.length + D.length) = (k.ws.length, N.length, 0) := by
    have := rdAt_num7 (T ++ D) (F ++ post) k.ws.length hl
    rw [hN, List.length_append] at this
    rw [hbs]; simpa using this
  have w1 : rdWs (keyBytes k ++ post) k.ws.length (T.length + D.length + N.length) [] = some (k.ws, T.length + D.length + N.length + F.length) := by
    have := rdWs_back (wr9_of hp hf) k.ws.length 0 (T ++ D ++ N) post (by omega)
    rw [hF] at this
    rw [hbs]; simpa [Nat.add_assoc] using this
  unfold rdKey
  rw [if_neg (by simpa using t1)]
  simp only [List.length_nil] at t2 t3
  simp only [t2]
  have e1 : 0 + (num7 k.key.size).length + k.key.size = T.length := by omega
  simp only [e1, d1, n1]
  rw [if_neg (by simp), if_neg (by simp), w1]
  simp only
  rw [t3, wrap64_nat (by omega) (by omega)]
  have hk : (⟨k.key, k.dr, k.ws⟩ : Kn) = k := rfl
  rw [hk, if_pos (keyB_yes hp)]
  rw [hkb]
  simp [Nat.add_assoc]
end Go.Proofs.Ytaechgnjdjijkaa
