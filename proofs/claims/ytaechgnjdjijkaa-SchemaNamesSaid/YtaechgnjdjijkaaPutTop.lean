/- schema.Put and Size. -/
import Derived.Test.YtaechgnjdjijkaaPut
import Derived.Test.YtaechgnjdjijkaaSame
namespace Go.Proofs.Ytaechgnjdjijkaa
open Go.RowKit Go.Lib

/-- What is wrong of a job and a key's state. -/
noncomputable def putE (c : Cf) (k : Kn) : Int := if job c then (if keyB (c.k == 3) k then 0 else 6) else 4
theorem Key_any (c : Cf) (hf : c.Fit) (k : Kn) (kv : Value) (w : World) (hr : Rk w kv k) : Calls Try.prog 50 #[c.val, kv] w fun e w' => e = .returned (.int .i64 (putE c k)) ∧ Below w.heap.size w w' := by
  unfold putE
  by_cases hj : job c = true
  · rw [if_pos hj]
    exact Key_row c hf hj k kv w hr
  · rw [if_neg hj]
    obtain ⟨A, cap, rfl, -⟩ := hr
    exact Key_job c hf (by simpa using hj) _ _ _ rfl w
theorem putE_ok {c : Cf} {k : Kn} (h : putE c k = 0) : job c = true ∧ KeyP (c.k == 3) k := by
  unfold putE at h
  split at h
  · rename_i hj
    split at h
    · rename_i hk; exact ⟨hj, keyB_iff.1 hk⟩
    · cases h
  · cases h
theorem wr9_of {ses : Bool} {k : Kn} (hok : KeyP ses k) (hf : k.Fit) : ∀ (i : Nat) (x : Wn), k.ws[i]? = some x → Wr9 (lastOf k.ws i) x := fun i x hx => by
  have hi := (List.getElem?_eq_some_iff.1 hx).1
  obtain ⟨h1, h2⟩ := hok.2.2 i x hi hx
  refine ⟨hf.ws x (List.mem_of_getElem? hx), h1, fun s hs => ?_⟩
  unfold lastOf at hs
  split at hs
  · cases hs
  · rename_i h0
    have hy : k.ws[i - 1]? = some (k.ws[i - 1]'(by omega)) := List.getElem?_eq_getElem (by omega)
    generalize k.ws[i - 1]'(by omega) = y at hy
    rw [hy] at hs
    simp only [Option.map_some, Option.some.injEq] at hs
    subst hs
    have h3 := h2 y (by omega) hy
    unfold ordW at h3
    simp at h3
    exact ⟨(hf.ws y (List.mem_of_getElem? hy)).s, by omega⟩
theorem winsTo_len {l : List Wn} (h : ∀ (i : Nat) (x : Wn), l[i]? = some x → Wr9 (lastOf l i) x) : ∀ i, (winsTo l i).length ≤ 90 * i
  | 0 => by simp [winsTo]
  | i + 1 => by
    have := winsTo_len h i
    rw [winsTo_succ, List.length_append]
    unfold winAt
    split
    · rename_i x hx
      have := winTo_len (h i x hx) 9
      omega
    · simp; omega
theorem keyBytes_len {ses : Bool} {k : Kn} (hok : KeyP ses k) (hf : k.Fit) (hl : k.ws.length < 18446744073709551616) : (keyBytes k).length ≤ k.key.size + 90 * k.ws.length + 30 := by
  have h1 := winsTo_len (wr9_of hok hf) k.ws.length
  have hd := wi_iff.1 hok.2.1
  have hk := hok.1
  have h2 := num7_le k.dr.toNat (by omega)
  have h3 := num7_le k.ws.length hl
  have h4 := num7_le k.key.size (by omega)
  have h5 : k.key.data.toList.length = k.key.size := rfl
  unfold keyBytes
  simp only [List.length_append]
  omega
theorem win_room {W : World} {A : Option Addr} {n cap : Nat} {l : List Wn} (h : Rd W (.slice A n cap) n (wcells l)) : ∀ q off, A = some ⟨q, off, none⟩ → 0 < n → q < W.heap.size := fun q off hA hn => by
  obtain ⟨_, _, hv, _, _, hr⟩ := h
  cases hv
  obtain ⟨g, o, h1, h2, _⟩ := hr hn
  rw [hA] at h1
  cases h1
  exact h2

set_option maxRecDepth 100000 in
theorem Put_bad (c : Cf) (hf : c.Fit) (k : Kn) (kv : Value) (W : World) (hr : Rk W kv k) (he : putE c k ≠ 0) : Calls Try.prog 19 #[c.val, kv] W fun e w' => e = .returned (.tuple #[.slice none 0 0, .int .i64 (putE c k)]) ∧ Below W.heap.size W w' := by
  obtain ⟨A, cap, rfl, hrd⟩ := id hr
  have HK : Hid (∀ w, Below W.heap.size W w → Calls Try.prog 50 #[c.val, .agg #[.string k.key, .int .i64 k.dr, .slice A k.ws.length cap]] w fun e w' => e = .returned (.int .i64 (putE c k)) ∧ Below w.heap.size w w') := Lib.hid fun w hb => Key_any c hf k _ w (hr.below hb)
  obtain ⟨z, hz⟩ : ∃ z, putE c k = z := ⟨_, rfl⟩
  rw [hz] at he HK ⊢
  have hnz : (z != 0) = true := by simpa using he
  clear hr hf hrd hz he
  unfold Cf.val at HK ⊢
  obtain ⟨g, so, kd, sz, sl, o, ga, la, ea, di⟩ := c
  obtain ⟨S, D, ws⟩ := k
  simp only at HK ⊢
  generalize ws.length = n at *
  go_enter Try.func19, Try.ntmps19
  go_wp2_with (first
    | (go_at_call 50; (with_reducible refine (HK.out _ ((below_alloc W _).alloc (by simp) _)).mono ?_); rintro e w1 ⟨rfl, hb⟩; have HB := Lib.hid hb; clear hb))
  go_ret2
  exact ⟨rfl, ((below_alloc W _).alloc (by simp) _).trans (HB.out.mono (by simp; omega))⟩

set_option maxRecDepth 100000 in
theorem Put_ok (c : Cf) (hf : c.Fit) (k : Kn) (hkf : k.Fit) (kv : Value) (W : World) (hr : Rk W kv k) (he : putE c k = 0) (hn : k.key.size + 90 * k.ws.length + 200 ≤ 140737488355328) :
    Calls Try.prog 19 #[c.val, kv] W fun e w' => ∃ v', e = .returned (.tuple #[v', .int .i64 0]) ∧ Below W.heap.size W w' ∧ w'.ownsRow W.heap.size 5 1 v' (keyBytes k).length (bc (keyBytes k)) := by
  obtain ⟨A, cap, rfl, hrd⟩ := id hr
  have HK : Hid (∀ w, Below W.heap.size W w → Calls Try.prog 50 #[c.val, .agg #[.string k.key, .int .i64 k.dr, .slice A k.ws.length cap]] w fun e w' => e = .returned (.int .i64 0) ∧ Below w.heap.size w w') := Lib.hid fun w hb => by
    have h := Key_any c hf k _ w (hr.below hb)
    rw [he] at h
    exact h
  obtain ⟨-, hkp⟩ := putE_ok he
  have HP : Hid (∀ w g v, Below W.heap.size W w → Wr w w.heap.size g v [] → W.heap.size ≤ g → Calls Try.prog 52 #[.pointer (some ⟨g, 0, none⟩), .agg #[.string k.key, .int .i64 k.dr, .slice A k.ws.length cap]] w fun e w' => e = .returned (.tuple #[]) ∧ ∃ v', Wr w' W.heap.size g v' (keyBytes k) ∧ Wch w w' g v v') := Lib.hid fun w g v hb hw hg =>
    put_any W.heap.size g v _ [] k w (hw.mono hb.size) hb.size hg (hr.below hb) (fun s d q off n cp h h0 => by cases h; exact win_room hrd q off rfl h0) hkf _ hkp (by simp; omega)
  have hkl := keyBytes_len hkp hkf (by omega)
  have HBY : Hid (∀ w g v, Wr w W.heap.size g v (keyBytes k) → Calls Try.prog 53 #[.pointer (some ⟨g, 0, none⟩)] w fun e w' => ∃ v', e = .returned v' ∧ Below w.heap.size w w' ∧ w'.ownsRow w.heap.size 5 1 v' (keyBytes k).length (bc (keyBytes k))) := Lib.hid fun w g v h =>
    Bytes_any W.heap.size g v _ w h (by omega)
  generalize keyBytes k = KB at *
  clear hr hf hrd hkf he hkp
  unfold Cf.val at HK ⊢
  obtain ⟨g, so, kd, sz, sl, o, ga, la, ea, di⟩ := c
  obtain ⟨S, D, ws⟩ := k
  simp only at HK HP ⊢
  generalize ws.length = n at *
  go_enter Try.func19, Try.ntmps19
  go_wp2_with (first
    | (go_at_call 50; (with_reducible refine (HK.out _ ((below_alloc W _).alloc (by simp) _)).mono ?_); rintro e w1 ⟨rfl, hb⟩
       have bk1 : Bk w1 (W.heap.size + 1) 29 #[.string S, .int .i64 D, .slice A n cap] := (Bk.new' _ _ _ _ (by simp)).below hb
       have HB := Lib.hid (((below_alloc W _).alloc (by simp) _).trans (hb.mono (by simp; omega)))
       have hsz1 := hb.size
       simp only [World.size_alloc] at hsz1
       have z0 : w1.cell? ⟨W.heap.size + 1, 0, none⟩ = some (.string S) := bk1.cell 0
       have z1 : w1.cell? ⟨W.heap.size + 1, 1, none⟩ = some (.int .i64 D) := bk1.cell 1
       have z2 : w1.cell? ⟨W.heap.size + 1, 2, none⟩ = some (.slice A n cap) := bk1.cell 2
       clear hb bk1)
    | (go_at_call 51; (with_reducible refine (NewWriter_any _).mono ?_); rintro e w2 ⟨rfl, hw2⟩
       have HW2 := Lib.hid hw2
       have hsz2 : w2.heap.size = w1.heap.size + 1 := by rw [← hw2]; simp
       have HB2 : Hid (Below W.heap.size W w2) := Lib.hid (by rw [← hw2]; exact HB.out.alloc (by omega) _)
       have HWR : Hid (Wr w2 w2.heap.size w1.heap.size (.slice none 0 0) []) := Lib.hid (by rw [← hw2]; exact wr_new _ _)
       have y0 : w2.cell? ⟨W.heap.size + 1, 0, none⟩ = some (.string S) := by rw [← hw2]; exact ((below_alloc w1 _).cell (p := ⟨W.heap.size + 1, 0, none⟩) (by show W.heap.size + 1 < _; omega)).trans z0
       have y1 : w2.cell? ⟨W.heap.size + 1, 1, none⟩ = some (.int .i64 D) := by rw [← hw2]; exact ((below_alloc w1 _).cell (p := ⟨W.heap.size + 1, 1, none⟩) (by show W.heap.size + 1 < _; omega)).trans z1
       have y2 : w2.cell? ⟨W.heap.size + 1, 2, none⟩ = some (.slice A n cap) := by rw [← hw2]; exact ((below_alloc w1 _).cell (p := ⟨W.heap.size + 1, 2, none⟩) (by show W.heap.size + 1 < _; omega)).trans z2
       clear hw2 HW2)
    | (go_at_call 52; (with_reducible refine (HP.out _ _ _ HB2.out HWR.out (by omega)).mono ?_); rintro e w3 ⟨rfl, v3, hw3, hc3⟩
       have HW3 := Lib.hid hw3
       have HB3 : Hid (Below W.heap.size W w3) := Lib.hid (HB2.out.trans (hc3.below (by omega) (by omega) (fun r h => by simp [Value.ownBlock] at h)))
       clear hw3 hc3)
    | (go_at_call 53; (with_reducible refine (HBY.out _ _ _ HW3.out).mono ?_); rintro e w4 ⟨v4, rfl, hb4, ho4⟩
       have HB4 := Lib.hid hb4
       have HO4 := Lib.hid ho4
       clear hb4 ho4))
  go_ret2
  exact ⟨v4, rfl, HB3.out.trans (HB4.out.mono HB3.out.size), own_mono HO4.out HB3.out.size⟩
set_option maxRecDepth 100000 in
theorem Size_any (c : Cf) (hf : c.Fit) (k : Kn) (hkf : k.Fit) (kv : Value) (W : World) (hr : Rk W kv k) (hn : k.key.size + 90 * k.ws.length + 200 ≤ 140737488355328) :
    Calls Try.prog 22 #[c.val, kv] W fun e w' => e = .returned (.tuple #[.int .i64 (if putE c k = 0 then ((keyBytes k).length : Int) else 0), .int .i64 (putE c k)]) ∧ Below W.heap.size W w' := by
  have HP : Hid (∀ w, Below W.heap.size W w → Calls Try.prog 19 #[c.val, kv] w fun e w' => ∃ A cap, e = .returned (.tuple #[.slice A (if putE c k = 0 then (keyBytes k).length else 0) cap, .int .i64 (putE c k)]) ∧ Below w.heap.size w w') := Lib.hid fun w hb => by
    by_cases he : putE c k = 0
    · rw [if_pos he, he]
      refine (Put_ok c hf k hkf kv w (hr.below hb) he hn).mono fun e w' => ?_
      rintro ⟨v', rfl, h1, h2⟩
      obtain ⟨A, cap, rfl, _, _⟩ := ownsRow_shape h2
      exact ⟨A, cap, rfl, h1⟩
    · rw [if_neg he]
      refine (Put_bad c hf k kv w (hr.below hb) he).mono fun e w' => ?_
      rintro ⟨rfl, h1⟩
      exact ⟨none, 0, rfl, h1⟩
  obtain ⟨n, hnn⟩ : ∃ n : Nat, (if putE c k = 0 then (keyBytes k).length else 0) = n := ⟨_, rfl⟩
  have hz : (if putE c k = 0 then ((keyBytes k).length : Int) else 0) = (n : Int) := by rw [← hnn]; split <;> rfl
  rw [hnn] at HP
  rw [hz]
  generalize putE c k = z at *
  obtain ⟨A, cap, rfl, -⟩ := hr
  clear hnn hz hf hkf
  unfold Cf.val at HP ⊢
  obtain ⟨g, so, kd, sz, sl, o, ga, la, ea, di⟩ := c
  obtain ⟨S, D, ws⟩ := k
  simp only at HP ⊢
  generalize ws.length = m at *
  go_enter Try.func22, Try.ntmps22
  go_wp2_with (first
    | (go_at_call 19; (with_reducible refine (HP.out _ ((below_alloc W _).alloc (by simp) _)).mono ?_); rintro e w1 ⟨A1, cap1, rfl, hb⟩; have HB := Lib.hid hb; clear hb))
  go_ret2
  exact ⟨rfl, ((below_alloc W _).alloc (by simp) _).trans (HB.out.mono (by simp; omega))⟩
end Go.Proofs.Ytaechgnjdjijkaa
