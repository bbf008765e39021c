/- The document's Read: plainly. -/
import Derived.Test.YtaechgnjdjijkaaRefWin
import Derived.Test.YtaechgnjdjijkaaRefW
namespace Go.Proofs.Ytaechgnjdjijkaa
open Go.RowKit Go.Lib

theorem nsAt_back (pre : List UInt8) (ns : List Nat) (post : List UInt8) (h : ∀ n ∈ ns, n < 18446744073709551616) : nsAt (pre ++ (ns.flatMap num7 ++ post)) pre.length ns.length = some (ns, pre.length + (ns.flatMap num7).length) := by
  have key : ∀ k, k ≤ ns.length → nsAt (pre ++ (ns.flatMap num7 ++ post)) pre.length k = some (ns.take k, pre.length + ((ns.take k).flatMap num7).length) := by
    intro k
    induction k with
    | zero => intro _; simp [nsAt]
    | succ k ih =>
      intro hk
      have ih' := ih (by omega)
      have hkl : k < ns.length := by omega
      have e1 : ns = ns.take k ++ (ns[k] :: ns.drop (k + 1)) := by rw [← List.drop_eq_getElem_cons hkl, List.take_append_drop]
      have hr := rdAt_num7 (pre ++ (ns.take k).flatMap num7) ((ns.drop (k + 1)).flatMap num7 ++ post) ns[k] (h _ (List.getElem_mem hkl))
      have e2 : pre ++ (ns.take k).flatMap num7 ++ (num7 ns[k] ++ ((ns.drop (k + 1)).flatMap num7 ++ post)) = pre ++ (ns.flatMap num7 ++ post) := by
        have e3 : ns.flatMap num7 = (ns.take k).flatMap num7 ++ (num7 ns[k] ++ (ns.drop (k + 1)).flatMap num7) := by
          conv => lhs; rw [e1]
          rw [List.flatMap_append, List.flatMap_cons]
        rw [e3]
        simp only [List.append_assoc]
      rw [e2, List.length_append] at hr
      rw [nsAt, ih']
      simp only
      rw [hr]
      simp only [ne_eq, not_true_eq_false, if_false]
      rw [List.take_succ_eq_append_getElem hkl]
      simp only [List.flatMap_append, List.flatMap_cons, List.flatMap_nil, List.append_nil, List.length_append, Nat.add_assoc]
  have := key ns.length (Nat.le_refl _)
  rwa [List.take_length] at this
def fnums (last : Option Int) (x : Wn) : List Nat := [fnum last x 0, fnum last x 1, fnum last x 2, fnum last x 3, fnum last x 4, fnum last x 5, fnum last x 6, fnum last x 7, fnum last x 8]
theorem fnums_win (last : Option Int) (x : Wn) : (fnums last x).flatMap num7 = winTo last x 9 := by
  have h := win9 last x []
  simp only [List.nil_append] at h
  rw [← h]
  simp [fnums]
theorem cnt_nat {v : Int} (h0 : 0 ≤ v) (h1 : v ≤ 9007199254740992) : cnt v.toNat = v := by
  unfold cnt
  rw [if_neg (by omega)]
  omega
/-- The nine numbers of a window are the window. -/
theorem refW_back {last : Option Int} {x : Wn} (h : Wr9 last x) : refW (last.getD 0) last.isNone (fnums last x) = some x := by
  obtain ⟨hc, hsi, hpa, hse, hsl, hel⟩ := okW_parts h.ok
  have hs := h.fit.s
  have he := h.fit.e
  unfold In64 at hs he
  unfold refW fnums
  simp only [List.getD_cons_zero, List.getD_cons_succ]
  have e1 : ((fnum last x 1 : Nat) : Int) = x.e - x.s - 1 := by show (((x.e - x.s - 1).toNat : Nat) : Int) = _; omega
  have t2 : unz (fnum last x 2) = x.h := unz_zig _
  have t4 : unz (fnum last x 4) = x.u := unz_zig _
  have t5 : unz (fnum last x 5) = x.lo := unz_zig _
  have t6 : unz (fnum last x 6) = x.hi := unz_zig _
  have t3 : cnt (fnum last x 3) = x.c := cnt_nat hc.1 hc.2
  have t7 : cnt (fnum last x 7) = x.si := cnt_nat hsi.1 hsi.2
  have t8 : cnt (fnum last x 8) = x.pa := cnt_nat hpa.1 hpa.2
  rw [t2, t3, t4, t5, t6, t7, t8, e1]
  cases last with
  | none =>
    have t0 : unz (fnum none x 0) = x.s := unz_zig _
    rw [if_neg (by simp)]
    simp only [Option.isNone_none, if_true, t0]
    rw [if_neg (by omega)]
    congr 1
    obtain ⟨a, b, c, d, e, f, g, i, j⟩ := x
    simp only [Wn.mk.injEq, and_true]
    exact ⟨trivial, by omega⟩
  | some s =>
    obtain ⟨hs1, hs2⟩ := h.le s rfl
    unfold In64 at hs1
    have t0 : ((fnum (some s) x 0 : Nat) : Int) = x.s - s := by show (((x.s - s).toNat : Nat) : Int) = _; omega
    simp only [Option.getD_some, Option.isNone_some, t0, Bool.false_eq_true, if_false, true_and]
    rw [if_neg (by omega), if_neg (by omega)]
    congr 1
    obtain ⟨a, b, c, d, e, f, g, i, j⟩ := x
    simp only [Wn.mk.injEq, and_true]
    constructor <;> omega
theorem refWin_back {last : Option Int} {x : Wn} (h : Wr9 last x) (pre post : List UInt8) : refWin (pre ++ (winTo last x 9 ++ post)) (last.getD 0) last.isNone pre.length = some (x, pre.length + (winTo last x 9).length) := by
  have hn := nsAt_back pre (fnums last x) post (fun n hn => by
    simp only [fnums, List.mem_cons, List.not_mem_nil, or_false] at hn
    rcases hn with rfl | rfl | rfl | rfl | rfl | rfl | rfl | rfl | rfl <;> exact fnum_lt h _)
  rw [fnums_win] at hn
  have h9 : (fnums last x).length = 9 := rfl
  rw [h9] at hn
  unfold refWin
  rw [hn]
  simp only
  rw [refW_back h]
/-- So many windows, read behind these. -/
def refWs (bs : List UInt8) : Nat → Nat → List Wn → Option (List Wn × Nat)
  | 0, a, l => some (l, a)
  | n + 1, a, l => match refWin bs ((lastS l).getD 0) (lastS l).isNone a with
    | none => none
    | some (x, a') => refWs bs n a' (l ++ [x])
theorem refWs_back {l : List Wn} (h : ∀ (i : Nat) (x : Wn), l[i]? = some x → Wr9 (lastOf l i) x) : ∀ (j k : Nat) (pre post : List UInt8), k + j = l.length → refWs (pre ++ (wF l j k ++ post)) j pre.length (l.take k) = some (l, pre.length + (wF l j k).length)
  | 0, k, pre, post, hk => by simp [refWs, wF, show k = l.length by omega]
  | j + 1, k, pre, post, hk => by
    have hkl : k < l.length := by omega
    have hx : l[k]? = some (l[k]'hkl) := List.getElem?_eq_getElem hkl
    have hw := h k _ hx
    have hwa : winAt l k = winTo (lastOf l k) (l[k]'hkl) 9 := by unfold winAt; rw [hx]
    have hb := refWin_back hw pre (wF l j (k + 1) ++ post)
    have e : pre ++ (wF l (j + 1) k ++ post) = pre ++ (winTo (lastOf l k) (l[k]'hkl) 9 ++ (wF l j (k + 1) ++ post)) := by rw [wF, hwa, List.append_assoc]
    have ih := refWs_back h j (k + 1) (pre ++ winTo (lastOf l k) (l[k]'hkl) 9) post (by omega)
    rw [List.append_assoc, List.length_append] at ih
    rw [e, refWs, lastS_take hkl, hb]
    simp only
    rw [← List.take_succ_eq_append_getElem hkl, ih, wF, hwa, List.length_append, Nat.add_assoc]
theorem refW_fit {last : Int} {first : Bool} {l : List Nat} {x : Wn} (hl : In64 last) (hb : ∀ j, l.getD j 0 < 18446744073709551616) (h : refW last first l = some x) : x.Fit := by
  have u : ∀ j, In64 (unz (l.getD j 0)) := fun j => by
    have := hb j
    unfold In64 unz
    split <;> omega
  have c : ∀ j, In64 (cnt (l.getD j 0)) := fun j => by
    unfold In64 cnt
    split <;> omega
  unfold refW at h
  by_cases h0 : first = false ∧ 9223372036854775807 - last < (l.getD 0 0 : Int)
  · rw [if_pos h0] at h; cases h
  · rw [if_neg h0] at h
    have hs : In64 (if first = true then unz (l.getD 0 0) else last + (l.getD 0 0 : Int)) := by
      cases first with
      | true => exact u 0
      | false =>
        simp only [Bool.false_eq_true, if_false]
        have : ¬ (9223372036854775807 - last < (l.getD 0 0 : Int)) := fun h => h0 ⟨rfl, h⟩
        unfold In64 at *
        omega
    simp only at h
    generalize (if first = true then unz (l.getD 0 0) else last + (l.getD 0 0 : Int)) = s at h hs
    by_cases h1 : 9223372036854775807 - s ≤ (l.getD 1 0 : Int)
    · rw [if_pos h1] at h; cases h
    · rw [if_neg h1] at h
      cases h
      refine ⟨hs, ?_, u 2, c 3, u 4, u 5, u 6, c 7, c 8⟩
      unfold In64 at *
      simp only
      omega
theorem refWin_facts {bs : List UInt8} {last : Int} {first : Bool} {a a' : Nat} {x : Wn} (hl : In64 last) (ha : a ≤ bs.length) (h : refWin bs last first a = some (x, a')) : x.Fit ∧ a' ≤ bs.length := by
  unfold refWin at h
  cases hn : nsAt bs a 9 with
  | none => rw [hn] at h; cases h
  | some q =>
    obtain ⟨l, a2⟩ := q
    rw [hn] at h
    simp only at h
    obtain ⟨-, h2, h3⟩ := nsAt_facts ha 9 l a2 hn
    cases hw : refW last first l with
    | none => rw [hw] at h; cases h
    | some y =>
      rw [hw] at h
      cases h
      exact ⟨refW_fit hl h3 hw, h2⟩
theorem lastS_In {l : List Wn} (hl : ∀ x ∈ l, x.Fit) : In64 ((lastS l).getD 0) := by
  unfold lastS
  cases hg : l.getLast? with
  | none => show In64 0; unfold In64; omega
  | some z => exact (hl z (List.mem_of_getLast? hg)).s
theorem refWs_facts {bs : List UInt8} : ∀ (n a : Nat) (l l' : List Wn) (a' : Nat), a ≤ bs.length → (∀ x ∈ l, x.Fit) → refWs bs n a l = some (l', a') → (∀ x ∈ l', x.Fit) ∧ l'.length = l.length + n ∧ a' ≤ bs.length
  | 0, a, l, l', a', ha, hl, h => by cases h; exact ⟨hl, rfl, ha⟩
  | n + 1, a, l, l', a', ha, hl, h => by
    rw [refWs] at h
    cases hk : refWin bs ((lastS l).getD 0) (lastS l).isNone a with
    | none => rw [hk] at h; cases h
    | some y =>
      obtain ⟨x, a2⟩ := y
      rw [hk] at h
      obtain ⟨h1, h2⟩ := refWin_facts (lastS_In hl) ha hk
      obtain ⟨g1, g2, g3⟩ := refWs_facts n a2 _ l' a' h2 (fun z hz => by
        rw [List.mem_append, List.mem_singleton] at hz
        rcases hz with hz | rfl
        · exact hl z hz
        · exact h1) h
      rw [List.length_append, List.length_singleton] at g2
      exact ⟨g1, by omega, g3⟩
/-- A key's state, as the document reads it. -/
noncomputable def refRd (c : Cf) (bs : List UInt8) : Option (Kn × Nat) := match skTo bs 0 with
  | none => none
  | some (K, n) =>
    let a1 := 0 + (rdAt bs 0).2.1 + (rdAt bs 0).1
    let a2 := a1 + (rdAt bs a1).2.1
    match refWs bs (rdAt bs a2).1 (a2 + (rdAt bs a2).2.1) [] with
    | none => none
    | some (l, _) => if keyB (c.k == 3) ⟨K, cnt (rdAt bs a1).1, l⟩ = true ∧ keyBytes ⟨K, cnt (rdAt bs a1).1, l⟩ = bs.take n then some (⟨K, cnt (rdAt bs a1).1, l⟩, n) else none
theorem skTo_parts {bs : List UInt8} {K : ByteArray} {n : Nat} (h : skTo bs 0 = some (K, n)) : txE bs.length bs 0 = 0 ∧ (rdAt bs (0 + (rdAt bs 0).2.1 + (rdAt bs 0).1)).2.2 = 0 ∧ (rdAt bs (0 + (rdAt bs 0).2.1 + (rdAt bs 0).1 + (rdAt bs (0 + (rdAt bs 0).2.1 + (rdAt bs 0).1)).2.1)).2.2 = 0 ∧ n ≤ bs.length := by
  have hle := skTo_le h
  unfold skTo at h
  split at h
  · cases h
  · rename_i h0
    simp only at h
    split at h
    · cases h
    · rename_i h1
      split at h
      · cases h
      · rename_i h2
        exact ⟨by omega, by omega, by omega, hle⟩
theorem refRd_eq (c : Cf) (hj : job c = true) (bs : List UInt8) (hbs : bs.length < 18446744073709551616) : refRd c bs = rdKey c bs 0 := by
  cases hr : rdKey c bs 0 with
  | some q =>
    obtain ⟨k, a⟩ := q
    obtain ⟨hsz, hkp⟩ := rdKey_pos hr
    obtain ⟨hale, hkf⟩ := rdKey_le hr
    have hag := rdKey_again hr
    have hsplit : bs = keyBytes k ++ bs.drop a := by rw [hag, List.take_append_drop]
    have hlen : (keyBytes k).length = a := by rw [hag, List.length_take]; omega
    obtain ⟨post, hpost⟩ : ∃ post, bs.drop a = post := ⟨_, rfl⟩
    rw [hpost] at hsplit
    have hsk := skTo_back _ k hkf hkp (by omega) post
    rw [← hsplit, hlen] at hsk
    have hd := wi_iff.1 hkp.2.1
    have hsz2 := hkp.1
    obtain ⟨D, hD⟩ : ∃ D, num7 k.dr.toNat = D := ⟨_, rfl⟩
    obtain ⟨N, hN⟩ : ∃ N, num7 k.ws.length = N := ⟨_, rfl⟩
    have hw0 : winsTo k.ws k.ws.length = wF k.ws k.ws.length 0 := by
      have := winsTo_wF k.ws k.ws.length 0
      rw [Nat.zero_add] at this
      rw [this]; simp [winsTo]
    obtain ⟨F, hF⟩ : ∃ F, wF k.ws k.ws.length 0 = F := ⟨_, rfl⟩
    obtain ⟨T, hT⟩ : ∃ T, num7 k.key.size ++ k.key.data.toList = T := ⟨_, rfl⟩
    have hTl : T.length = (num7 k.key.size).length + k.key.size := by rw [← hT]; simp
    have hkb : keyBytes k = T ++ (D ++ (N ++ F)) := by unfold keyBytes; rw [hT, hD, hN, hw0, hF]; simp
    obtain ⟨-, t2, -⟩ := text_back [] (D ++ (N ++ (F ++ post))) k.key 256 hsz2 (by omega)
    rw [hT] at t2
    have hbs2 : bs = [] ++ (T ++ (D ++ (N ++ (F ++ post)))) := by rw [hsplit, hkb]; simp
    rw [← hbs2] at t2
    have d1 : rdAt bs T.length = (k.dr.toNat, D.length, 0) := by
      have := rdAt_num7 T (N ++ (F ++ post)) k.dr.toNat (by omega)
      rw [hD] at this
      rw [hbs2]; exact this
    have n1 : rdAt bs (T.length + D.length) = (k.ws.length, N.length, 0) := by
      have := rdAt_num7 (T ++ D) (F ++ post) k.ws.length (by omega)
      rw [hN, List.length_append] at this
      rw [hbs2]; simpa using this
    have w1 : refWs bs k.ws.length (T.length + D.length + N.length) [] = some (k.ws, T.length + D.length + N.length + F.length) := by
      have := refWs_back (wr9_of hkp hkf) k.ws.length 0 (T ++ D ++ N) post (by omega)
      rw [hF] at this
      rw [hbs2]; simpa [Nat.add_assoc] using this
    simp only [List.length_nil] at t2
    have e1 : 0 + (num7 k.key.size).length + k.key.size = T.length := by omega
    unfold refRd
    rw [hsk]
    simp only [t2, e1, d1, n1, w1]
    rw [cnt_nat hd.1 hd.2]
    have hk : (⟨k.key, k.dr, k.ws⟩ : Kn) = k := rfl
    rw [hk, if_pos ⟨keyB_yes hkp, hag⟩]
  | none =>
    cases hd : refRd c bs with
    | none => rfl
    | some q =>
      exfalso
      unfold refRd at hd
      cases hs : skTo bs 0 with
      | none => rw [hs] at hd; cases hd
      | some kn =>
        obtain ⟨K, n⟩ := kn
        rw [hs] at hd
        obtain ⟨p0, p1, p2, p3⟩ := skTo_parts hs
        obtain ⟨-, -, t3⟩ := txE_ok (m := bs.length) (bs := bs) (a := 0) p0
        have f1 := rdAt_facts bs _ t3
        have f2 := rdAt_facts bs _ f1.2.1
        simp only at hd
        split at hd
        · cases hd
        · rename_i l a' hw
          split at hd
          · rename_i hk
            obtain ⟨hk1, hk2⟩ := hk
            obtain ⟨g1, g2, -⟩ := refWs_facts _ _ _ _ _ f2.2.1 (by simp) hw
            have g3 : l.length = _ := g2.trans (Nat.zero_add _)
            have hfit : (⟨K, cnt (rdAt bs (0 + (rdAt bs 0).2.1 + (rdAt bs 0).1)).1, l⟩ : Kn).Fit := ⟨by show In64 (cnt _); unfold cnt In64; split <;> omega, g1⟩
            have he : putE c ⟨K, cnt (rdAt bs (0 + (rdAt bs 0).2.1 + (rdAt bs 0).1)).1, l⟩ = 0 := by unfold putE; rw [if_pos hj, if_pos hk1]
            have hb := rdKey_back c _ hfit he (by show l.length < _; rw [g3]; exact f2.1) (bs.drop n)
            rw [hk2, List.take_append_drop, hr] at hb
            cases hb
          · cases hd
end Go.Proofs.Ytaechgnjdjijkaa
