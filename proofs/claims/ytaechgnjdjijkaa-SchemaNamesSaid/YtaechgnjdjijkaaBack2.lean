/- What was written is skipped; what is read stays so with more behind it: plainly. -/
import Derived.Test.YtaechgnjdjijkaaBack
namespace Go.Proofs.Ytaechgnjdjijkaa
open Go.RowKit Go.Lib

def nsOf (l : List Wn) (i : Nat) : List Nat := match l[i]? with
  | some x => (List.range 9).map (fnum (lastOf l i) x)
  | none => []
theorem winAt_ns (l : List Wn) (i : Nat) : winAt l i = (nsOf l i).flatMap num7 := by
  unfold winAt nsOf winTo
  cases l[i]? with
  | none => rfl
  | some x => simp [List.flatMap_map]
def nsTo (l : List Wn) (k : Nat) : List Nat := (List.range k).flatMap (nsOf l)
theorem nsTo_succ (l : List Wn) (k : Nat) : nsTo l (k + 1) = nsTo l k ++ nsOf l k := by simp [nsTo, List.range_succ]
theorem winsTo_ns (l : List Wn) : ∀ k, winsTo l k = (nsTo l k).flatMap num7
  | 0 => rfl
  | k + 1 => by rw [winsTo_succ, nsTo_succ, List.flatMap_append, ← winsTo_ns l k, winAt_ns]
theorem nsOf_len {l : List Wn} {i : Nat} (h : i < l.length) : (nsOf l i).length = 9 := by
  unfold nsOf
  rw [List.getElem?_eq_getElem h]
  simp
theorem nsTo_len {l : List Wn} : ∀ {k : Nat}, k ≤ l.length → (nsTo l k).length = k * 9
  | 0, _ => by simp [nsTo]
  | k + 1, h => by rw [nsTo_succ, List.length_append, nsTo_len (by omega), nsOf_len (by omega)]; omega
theorem nsTo_lt {l : List Wn} (h : ∀ (i : Nat) (x : Wn), l[i]? = some x → Wr9 (lastOf l i) x) (k : Nat) : ∀ n ∈ nsTo l k, n < 18446744073709551616 := by
  intro n hn
  unfold nsTo at hn
  rw [List.mem_flatMap] at hn
  obtain ⟨i, -, hi⟩ := hn
  unfold nsOf at hi
  cases hx : l[i]? with
  | none => rw [hx] at hi; simp at hi
  | some x =>
    rw [hx] at hi
    simp only [List.mem_map] at hi
    obtain ⟨j, -, rfl⟩ := hi
    exact fnum_lt (h i x hx) j
theorem skN_back : ∀ (ns : List Nat) (pre post : List UInt8), (∀ n ∈ ns, n < 18446744073709551616) → skN (pre ++ (ns.flatMap num7 ++ post)) ns.length pre.length = some (pre.length + (ns.flatMap num7).length)
  | [], pre, post, _ => by simp [skN]
  | n :: ns, pre, post, h => by
    have hr := rdAt_num7 pre (ns.flatMap num7 ++ post) n (h n (by simp))
    have ih := skN_back ns (pre ++ num7 n) post (fun m hm => h m (by simp [hm]))
    rw [List.append_assoc, List.length_append] at ih
    rw [List.flatMap_cons, List.append_assoc, List.length_cons, skN, hr]
    rw [if_neg (by simp), ih, List.length_append, Nat.add_assoc]
theorem skTo_back (ses : Bool) (k : Kn) (hf : k.Fit) (hp : KeyP ses k) (hl : k.ws.length < 18446744073709551616) (post : List UInt8) : skTo (keyBytes k ++ post) 0 = some (k.key, (keyBytes k).length) := by
  have hsz := hp.1
  have hd := wi_iff.1 hp.2.1
  obtain ⟨D, hD⟩ : ∃ D, num7 k.dr.toNat = D := ⟨_, rfl⟩
  obtain ⟨N, hN⟩ : ∃ N, num7 k.ws.length = N := ⟨_, rfl⟩
  have hw0 := winsTo_ns k.ws k.ws.length
  obtain ⟨F, hF⟩ : ∃ F, (nsTo k.ws k.ws.length).flatMap num7 = F := ⟨_, rfl⟩
  obtain ⟨T, hT⟩ : ∃ T, num7 k.key.size ++ k.key.data.toList = T := ⟨_, rfl⟩
  have hTl : T.length = (num7 k.key.size).length + k.key.size := by rw [← hT]; simp
  have hkb : keyBytes k = T ++ (D ++ (N ++ F)) := by unfold keyBytes; rw [hT, hD, hN, hw0, hF]; simp
  have hlen : k.key.size ≤ (keyBytes k ++ post).length := by rw [hkb]; simp only [List.length_append]; omega
  obtain ⟨M, hM⟩ : ∃ M, (keyBytes k ++ post).length = M := ⟨_, rfl⟩
  rw [hM] at hlen
  obtain ⟨t1, t2, t3⟩ := text_back [] (D ++ (N ++ (F ++ post))) k.key M hlen (by omega)
  rw [hT] at t1 t2 t3
  have hbs : keyBytes k ++ post = [] ++ (T ++ (D ++ (N ++ (F ++ post)))) := by rw [hkb]; simp
  rw [← hbs] at t1 t2 t3
  have d1 : rdAt (keyBytes k ++ post) T.length = (k.dr.toNat, D.length, 0) := by
    have := rdAt_num7 T (N ++ (F ++ post)) k.dr.toNat (by omega)
    rw [hD] at this
    rw [hbs]; exact this
  have n1 : rdAt (keyBytes k ++ post) (T.length + D.length) = (k.ws.length, N.length, 0) := by
    have := rdAt_num7 (T ++ D) (F ++ post) k.ws.length hl
    rw [hN, List.length_append] at this
    rw [hbs]; simpa using this
  have w1 : skN (keyBytes k ++ post) (k.ws.length * 9) (T.length + D.length + N.length) = some (T.length + D.length + N.length + F.length) := by
    have := skN_back (nsTo k.ws k.ws.length) (T ++ D ++ N) post (nsTo_lt (wr9_of hp hf) _)
    rw [hF, nsTo_len (Nat.le_refl _)] at this
    rw [hbs]; simpa [Nat.add_assoc] using this
  unfold skTo
  rw [hM, if_neg (by simpa using t1)]
  simp only [List.length_nil] at t2 t3
  simp only [t2]
  have e1 : 0 + (num7 k.key.size).length + k.key.size = T.length := by omega
  simp only [e1, d1, n1]
  rw [if_neg (by simp), if_neg (by simp), w1]
  simp only
  rw [t3, hkb]
  simp [Nat.add_assoc]

/-! With more behind it. -/
theorem rdN_more (more : List UInt8) : ∀ (l : List UInt8) (i x : Nat), (rdN i x l).2.2 = 0 → rdN i x (l ++ more) = rdN i x l
  | [], i, x, h => by simp [rdN] at h
  | b :: r, i, x, h => by
    rw [List.cons_append]
    rw [rdN] at h ⊢
    rw [rdN]
    split
    · rfl
    · rename_i h1
      rw [if_neg h1] at h
      split
      · rename_i h2
        rw [if_pos h2] at h
        exact rdN_more more r _ _ h
      · rfl
theorem rdAt_lt {bs : List UInt8} {a : Nat} (h : (rdAt bs a).2.2 = 0) : a < bs.length := by
  rcases Nat.lt_or_ge a bs.length with h1 | h1
  · exact h1
  · unfold rdAt at h
    rw [List.drop_eq_nil_of_le h1] at h
    simp [rdN] at h
theorem rdAt_more {bs : List UInt8} (more : List UInt8) {a : Nat} (h : (rdAt bs a).2.2 = 0) : rdAt (bs ++ more) a = rdAt bs a := by
  have hl := rdAt_lt h
  unfold rdAt at h ⊢
  rw [List.drop_append_of_le_length (by omega), rdN_more more _ _ _ h]
theorem abX_more {bs : List UInt8} (more : List UInt8) {a : Nat} {f : Int} (h : (abX bs a f).2 = 0) : abX (bs ++ more) a f = abX bs a f ∧ (rdAt bs a).2.2 = 0 := by
  have h0 : (rdAt bs a).2.2 = 0 := by
    unfold abX abV at h
    split at h
    · rename_i s hs
      split at hs
      · rename_i hh; exact hh.1
      · cases hs
    · cases h
  refine ⟨?_, h0⟩
  unfold abX abV
  rw [rdAt_more more h0]
theorem sg_more {bs : List UInt8} (more : List UInt8) {a : Nat} (h : ((rdAt bs a).2.2 : Int) = 0) : (sgAt (bs ++ more) a, ((rdAt (bs ++ more) a).2.2 : Int)) = (sgAt bs a, ((rdAt bs a).2.2 : Int)) ∧ rdAt (bs ++ more) a = rdAt bs a := by
  have h0 := rdAt_more more (bs := bs) (a := a) (Int.ofNat.inj h)
  refine ⟨?_, h0⟩
  unfold sgAt
  rw [h0]
theorem ct_more {bs : List UInt8} (more : List UInt8) {a : Nat} (h : ((rdAt bs a).2.2 : Int) = 0) : (wrap64 ((rdAt (bs ++ more) a).1 : Int), ((rdAt (bs ++ more) a).2.2 : Int)) = (wrap64 ((rdAt bs a).1 : Int), ((rdAt bs a).2.2 : Int)) ∧ rdAt (bs ++ more) a = rdAt bs a := by
  have h0 := rdAt_more more (bs := bs) (a := a) (Int.ofNat.inj h)
  refine ⟨?_, h0⟩
  rw [h0]
theorem fget_more {bs : List UInt8} (more : List UInt8) {last : Option Int} {x : Wn} {a : Nat} (k : Nat) (h : (fget bs last x a k).2 = 0) : fget (bs ++ more) last x a k = fget bs last x a k ∧ rdAt (bs ++ more) a = rdAt bs a := by
  unfold fget at h ⊢
  split
  · split
    · exact sg_more more h
    · rename_i s
      obtain ⟨h1, h2⟩ := abX_more more (f := s) h
      exact ⟨h1, rdAt_more more h2⟩
  · obtain ⟨h1, h2⟩ := abX_more more (f := x.s) h
    rw [h1]
    exact ⟨rfl, rdAt_more more h2⟩
  · exact sg_more more h
  · exact ct_more more h
  · exact sg_more more h
  · exact sg_more more h
  · exact sg_more more h
  · split at h
    all_goals first | exact ct_more more h | contradiction
theorem rdTo_more {bs : List UInt8} (more : List UInt8) {last : Option Int} {at0 : Nat} : ∀ (k : Nat) (r : Wn × Nat), rdTo bs last at0 k = some r → rdTo (bs ++ more) last at0 k = some r
  | 0, r, h => h
  | k + 1, r, h => by
    rw [rdTo] at h ⊢
    cases hk : rdTo bs last at0 k with
    | none => rw [hk] at h; cases h
    | some y =>
      obtain ⟨x, a⟩ := y
      rw [hk] at h
      rw [rdTo_more more k _ hk]
      simp only at h ⊢
      split at h
      · rename_i h0
        obtain ⟨h1, h2⟩ := fget_more more k h0
        rw [h1, h2, if_pos h0]
        exact h
      · cases h
theorem rdWs_more {bs : List UInt8} (more : List UInt8) : ∀ (n a : Nat) (l : List Wn) (r : List Wn × Nat), rdWs bs n a l = some r → rdWs (bs ++ more) n a l = some r
  | 0, a, l, r, h => h
  | n + 1, a, l, r, h => by
    rw [rdWs] at h ⊢
    cases hk : rdTo bs (lastS l) a 9 with
    | none => rw [hk] at h; cases h
    | some y =>
      obtain ⟨x, a'⟩ := y
      rw [hk] at h
      rw [rdTo_more more 9 _ hk]
      exact rdWs_more more n _ _ r h
theorem skN_more {bs : List UInt8} (more : List UInt8) : ∀ (n a r : Nat), skN bs n a = some r → skN (bs ++ more) n a = some r
  | 0, a, r, h => h
  | n + 1, a, r, h => by
    rw [skN] at h ⊢
    split at h
    · cases h
    · rename_i h0
      have h0' : (rdAt bs a).2.2 = 0 := by omega
      rw [rdAt_more more h0', if_neg h0]
      exact skN_more more n _ r h
theorem txE_zero {m : Nat} {bs : List UInt8} {a : Nat} (h : txE m bs a = 0) : (rdAt bs a).2.2 = 0 ∧ (rdAt bs a).1 ≤ m ∧ a + (rdAt bs a).2.1 + (rdAt bs a).1 ≤ bs.length ∨ ((rdAt bs a).2.2 = 0 ∧ (rdAt bs a).1 = 0 ∧ bs.length < a + (rdAt bs a).2.1) := by
  unfold txE at h
  split at h
  · rename_i h0
    unfold hdE at h0
    split at h0
    · rename_i h1
      split at h0
      · cases h0
      · rename_i h2
        split at h
        · cases h
        · rename_i h3
          have := rdAt_lt h1
          rcases Nat.lt_or_ge bs.length (a + (rdAt bs a).2.1) with h4 | h4
          · exact .inr ⟨h1, by omega, h4⟩
          · exact .inl ⟨h1, by omega, by omega⟩
    · omega
  · rename_i h0; exact absurd h h0
theorem txE_ok {m : Nat} {bs : List UInt8} {a : Nat} (h : txE m bs a = 0) : (rdAt bs a).2.2 = 0 ∧ (rdAt bs a).1 ≤ m ∧ a + (rdAt bs a).2.1 + (rdAt bs a).1 ≤ bs.length := by
  rcases txE_zero h with h | ⟨h1, h2, h3⟩
  · exact h
  · have := (rdAt_facts bs a (Nat.le_of_lt (rdAt_lt h1))).2.1
    omega
theorem txE_more {m m' : Nat} {bs : List UInt8} (more : List UInt8) {a : Nat} (h : txE m bs a = 0) (hm : m ≤ m') : txE m' (bs ++ more) a = 0 := by
  obtain ⟨h1, h2, h3⟩ := txE_ok h
  unfold txE
  rw [rdAt_more more h1]
  have hh : hdE m' (rdAt bs a) = 0 := by unfold hdE; rw [if_pos h1, if_neg (by omega)]
  rw [if_pos hh, if_neg (by rw [List.length_append]; omega)]
theorem cut_more {bs : List UInt8} (more : List UInt8) {a n : Nat} (h : a + n ≤ bs.length) : cut (bs ++ more) a n = cut bs a n := by
  unfold cut
  rw [List.take_append_of_le_length h]
theorem rdKey_more {c : Cf} {bs : List UInt8} (more : List UInt8) {r : Kn × Nat} (h : rdKey c bs 0 = some r) : rdKey c (bs ++ more) 0 = some r := by
  unfold rdKey at h ⊢
  split at h
  · cases h
  · rename_i h0
    have h0' : txE 256 bs 0 = 0 := by omega
    obtain ⟨t1, t2, t3⟩ := txE_ok h0'
    rw [if_neg (by rw [txE_more more h0' (Nat.le_refl _)]; simp), rdAt_more more t1, cut_more more (by omega)]
    simp only at h ⊢
    split at h
    · cases h
    · rename_i h1
      rw [rdAt_more more (a := 0 + (rdAt bs 0).2.1 + (rdAt bs 0).1) (by omega), if_neg h1]
      split at h
      · cases h
      · rename_i h2
        rw [rdAt_more more (a := 0 + (rdAt bs 0).2.1 + (rdAt bs 0).1 + (rdAt bs (0 + (rdAt bs 0).2.1 + (rdAt bs 0).1)).2.1) (by omega), if_neg h2]
        split at h
        · cases h
        · rename_i l a hw
          rw [rdWs_more more _ _ _ _ hw]
          exact h
theorem skTo_more {bs : List UInt8} (more : List UInt8) {r : ByteArray × Nat} (h : skTo bs 0 = some r) : skTo (bs ++ more) 0 = some r := by
  unfold skTo at h ⊢
  split at h
  · cases h
  · rename_i h0
    have h0' : txE bs.length bs 0 = 0 := by omega
    obtain ⟨t1, t2, t3⟩ := txE_ok h0'
    rw [if_neg (by rw [txE_more more h0' (by rw [List.length_append]; omega)]; simp), rdAt_more more t1, cut_more more (by omega)]
    simp only at h ⊢
    split at h
    · cases h
    · rename_i h1
      rw [rdAt_more more (a := 0 + (rdAt bs 0).2.1 + (rdAt bs 0).1) (by omega), if_neg h1]
      split at h
      · cases h
      · rename_i h2
        rw [rdAt_more more (a := 0 + (rdAt bs 0).2.1 + (rdAt bs 0).1 + (rdAt bs (0 + (rdAt bs 0).2.1 + (rdAt bs 0).1)).2.1) (by omega), if_neg h2]
        split at h
        · cases h
        · rename_i a hw
          rw [skN_more more _ _ _ hw]
          exact h
theorem skN_le {bs : List UInt8} : ∀ (n a r : Nat), a ≤ bs.length → skN bs n a = some r → r ≤ bs.length
  | 0, a, r, ha, h => by cases h; exact ha
  | n + 1, a, r, ha, h => by
    rw [skN] at h
    split at h
    · cases h
    · exact skN_le n _ r (rdAt_facts bs a ha).2.1 h
theorem rdWs_le {bs : List UInt8} : ∀ (n a : Nat) (l : List Wn) (l' : List Wn) (a' : Nat), a ≤ bs.length → (∀ x ∈ l, x.Fit) → rdWs bs n a l = some (l', a') → a' ≤ bs.length ∧ (∀ x ∈ l', x.Fit)
  | 0, a, l, l', a', ha, hl, h => by cases h; exact ⟨ha, hl⟩
  | n + 1, a, l, l', a', ha, hl, h => by
    rw [rdWs] at h
    cases hk : rdTo bs (lastS l) a 9 with
    | none => rw [hk] at h; cases h
    | some y =>
      obtain ⟨x, a2⟩ := y
      rw [hk] at h
      have hls : ∀ s, lastS l = some s → In64 s := fun s hs => by
        unfold lastS at hs
        cases hg : l.getLast? with
        | none => rw [hg] at hs; cases hs
        | some z => rw [hg] at hs; cases hs; exact (hl z (List.mem_of_getLast? hg)).s
      obtain ⟨h1, h2, -⟩ := rdTo_facts hls ha 9 x a2 hk
      refine rdWs_le n a2 _ l' a' h2 (fun z hz => ?_) h
      rw [List.mem_append, List.mem_singleton] at hz
      rcases hz with hz | rfl
      · exact hl z hz
      · exact h1
theorem skTo_le {bs : List UInt8} {k : ByteArray} {a : Nat} (h : skTo bs 0 = some (k, a)) : a ≤ bs.length := by
  unfold skTo at h
  split at h
  · cases h
  · rename_i h0
    obtain ⟨t1, t2, t3⟩ := txE_ok (m := bs.length) (bs := bs) (a := 0) (by omega)
    simp only at h
    split at h
    · cases h
    · have f1 := (rdAt_facts bs _ t3).2.1
      split at h
      · cases h
      · have f2 := (rdAt_facts bs _ f1).2.1
        split at h
        · cases h
        · rename_i r hw
          cases h
          exact skN_le _ _ _ f2 hw
theorem rdKey_le {c : Cf} {bs : List UInt8} {k : Kn} {a : Nat} (h : rdKey c bs 0 = some (k, a)) : a ≤ bs.length ∧ k.Fit := by
  unfold rdKey at h
  split at h
  · cases h
  · rename_i h0
    obtain ⟨t1, t2, t3⟩ := txE_ok (m := 256) (bs := bs) (a := 0) (by omega)
    simp only at h
    split at h
    · cases h
    · have f1 := (rdAt_facts bs _ t3).2.1
      split at h
      · cases h
      · have f2 := (rdAt_facts bs _ f1).2.1
        split at h
        · cases h
        · rename_i l r hw
          split at h
          · cases h
            obtain ⟨g1, g2⟩ := rdWs_le _ _ _ _ _ f2 (by simp) hw
            exact ⟨g1, wrap64_I _, g2⟩
          · cases h
/-! Beginnings. -/
theorem take_split {l : List UInt8} {m : Nat} (h : m < l.length) : ∃ t, l = l.take m ++ t ∧ (l.take m).length = m := ⟨l.drop m, (List.take_append_drop m l).symm, by simp; omega⟩
theorem cut_no (c : Cf) (k : Kn) (hf : k.Fit) (he : putE c k = 0) (hl : k.ws.length < 18446744073709551616) {m : Nat} (hm : m < (keyBytes k).length) : rdKey c ((keyBytes k).take m) 0 = none ∧ skTo ((keyBytes k).take m) 0 = none := by
  obtain ⟨t, ht, hlen⟩ := take_split hm
  have h1 := rdKey_back c k hf he hl []
  have h2 := skTo_back _ k hf (putE_ok he).2 hl []
  rw [List.append_nil] at h1 h2
  constructor
  · cases hr : rdKey c ((keyBytes k).take m) 0 with
    | none => rfl
    | some y =>
      obtain ⟨x, a⟩ := y
      have h3 := (rdKey_le hr).1
      have h4 := rdKey_more t hr
      rw [← ht, h1] at h4
      cases h4
      omega
  · cases hr : skTo ((keyBytes k).take m) 0 with
    | none => rfl
    | some y =>
      obtain ⟨x, a⟩ := y
      have h3 := skTo_le hr
      have h4 := skTo_more t hr
      rw [← ht, h2] at h4
      cases h4
      omega
theorem begin_same (c : Cf) (j k : Kn) (hfj : j.Fit) (hfk : k.Fit) (hj : putE c j = 0) (hk : putE c k = 0) (hlj : j.ws.length < 18446744073709551616) (hlk : k.ws.length < 18446744073709551616) (h : (keyBytes j).take (min (keyBytes j).length (keyBytes k).length) = (keyBytes k).take (min (keyBytes j).length (keyBytes k).length)) : j = k := by
  rcases Nat.le_total (keyBytes j).length (keyBytes k).length with hle | hle
  · rw [Nat.min_eq_left hle, List.take_length] at h
    have e : keyBytes k = keyBytes j ++ (keyBytes k).drop (keyBytes j).length := by
      conv => lhs; rw [← List.take_append_drop (keyBytes j).length (keyBytes k)]
      rw [← h]
    have h1 := rdKey_back c j hfj hj hlj ((keyBytes k).drop (keyBytes j).length)
    have h2 := rdKey_back c k hfk hk hlk []
    rw [List.append_nil] at h2
    rw [← e, h2] at h1
    cases h1
    rfl
  · rw [Nat.min_eq_right hle, List.take_length] at h
    have e : keyBytes j = keyBytes k ++ (keyBytes j).drop (keyBytes k).length := by
      conv => lhs; rw [← List.take_append_drop (keyBytes k).length (keyBytes j)]
      rw [h]
    have h1 := rdKey_back c k hfk hk hlk ((keyBytes j).drop (keyBytes k).length)
    have h2 := rdKey_back c j hfj hj hlj []
    rw [List.append_nil] at h2
    rw [← e, h2] at h1
    cases h1
    rfl
theorem keyBytes_pos (k : Kn) : 0 < (keyBytes k).length := by
  unfold keyBytes
  have := num7_pos k.dr.toNat
  simp only [List.length_append]
  omega
end Go.Proofs.Ytaechgnjdjijkaa
