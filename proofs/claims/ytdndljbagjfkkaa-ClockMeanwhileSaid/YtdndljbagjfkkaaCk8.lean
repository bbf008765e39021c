/- A clock's calls, one contract each; plain laws on marks and outward marks; Ints. -/
import Derived.Test.YtdndljbagjfkkaaCk7
namespace Go.Proofs.Ytdndljbagjfkkaa
open Go.RowKit Go.Lib

theorem IsOut.uniq {L : List Int} {T : ByteArray → Option Int} {o o' : Int} (h : IsOut L T o) (h' : IsOut L T o') : o = o' := by
  obtain ⟨a, b, c⟩ := h
  obtain ⟨a', b', c'⟩ := h'
  have h1 : o ≤ o' := by
    rcases c' with e | ⟨s, e⟩
    · omega
    · exact b s o' e
  have h2 : o' ≤ o := by
    rcases c with e | ⟨s, e⟩
    · omega
    · exact b' s o e
  omega
theorem IsOut.set_mono {L L' : List Int} {T : ByteArray → Option Int} {o o' : Int} (h : IsOut L T o) (h' : IsOut L' T o') (hm : mnL L ≤ mnL L') : o ≤ o' := by
  rcases h'.2.2 with e | ⟨s, e⟩
  · have := h.1; omega
  · exact h.2.1 s o' e
theorem IsOut.freed {L : List Int} {T : ByteArray → Option Int} {o o' : Int} {s : ByteArray} (h : IsOut L T o) (h' : IsOut L (updT T s none) o') : o ≤ o' := by
  rcases h'.2.2 with e | ⟨u, e⟩
  · have := h.1; omega
  · by_cases hu : u = s
    · subst hu; rw [updT_same] at e; cases e
    · rw [updT_ne T _ hu] at e; exact h.2.1 u o' e
theorem IsOut.held {L : List Int} {T : ByteArray → Option Int} {o o' : Int} {s : ByteArray} {t : Int} (hT : T s = none) (h : IsOut L T o) (h' : IsOut L (updT T s (some t)) o') : o' ≤ o := by
  rcases h.2.2 with e | ⟨u, e⟩
  · have := h'.1; omega
  · have hu : u ≠ s := fun hu => by rw [hu, hT] at e; cases e
    exact h'.2.1 u o (by rw [updT_ne T _ hu]; exact e)
theorem IsOut.high {L : List Int} {T : ByteArray → Option Int} {o o' : Int} {s : ByteArray} {t : Int} (h : IsOut L T o) (h' : IsOut L (updT T s (some t)) o') (ht : mnL L ≤ t) : o ≤ o' := by
  rcases h'.2.2 with e | ⟨u, e⟩
  · have := h.1; omega
  · by_cases hu : u = s
    · subst hu; rw [updT_same] at e
      have := h.1
      have : t = o' := Option.some.inj e
      omega
    · rw [updT_ne T _ hu] at e; exact h.2.1 u o' e
/-- Each mark behind a Set. -/
theorem setL_at (L : List Int) (s t : Int) (i : Nat) : (setL L s t)[i]? = L[i]?.map fun x => if s = (i : Int) ∧ isTime t = true then max x t else x := by
  unfold setL
  by_cases h : 0 ≤ s ∧ s < (L.length : Int) ∧ isTime t = true
  · rw [if_pos h]
    obtain ⟨h1, h2, h3⟩ := h
    rw [List.getElem?_set]
    have hl : s.toNat < L.length := by omega
    by_cases hi : s.toNat = i
    · subst hi
      rw [if_pos rfl, if_pos hl, List.getElem?_eq_getElem hl]
      simp only [Option.map_some]
      rw [if_pos ⟨by omega, h3⟩, List.getD, List.getElem?_eq_getElem hl]
      rfl
    · rw [if_neg hi]
      cases hL : L[i]? with
      | none => rfl
      | some x =>
        simp only [Option.map_some]
        rw [if_neg (fun ⟨e, _⟩ => hi (by omega))]
  · rw [if_neg h]
    cases hL : L[i]? with
    | none => rfl
    | some x =>
      have hi := (List.getElem?_eq_some_iff.1 hL).1
      simp only [Option.map_some]
      rw [if_neg (fun ⟨e, e2⟩ => h ⟨by omega, by omega, e2⟩)]
theorem setL_comm (L : List Int) (s t s' t' : Int) : setL (setL L s t) s' t' = setL (setL L s' t') s t := by
  apply List.ext_getElem?
  intro i
  rw [setL_at, setL_at, setL_at, setL_at, Option.map_map, Option.map_map]
  congr 1
  funext x
  simp only [Function.comp]
  split <;> split <;> omega
theorem setL_le {L : List Int} {s t : Int} {i : Nat} {x y : Int} (hx : L[i]? = some x) (hy : (setL L s t)[i]? = some y) : x ≤ y := by
  rw [setL_at, hx] at hy
  simp only [Option.map_some, Option.some.injEq] at hy
  subst hy
  split <;> omega
theorem mnL_setL {L : List Int} (h : 0 < L.length) (s t : Int) : mnL L ≤ mnL (setL L s t) := by
  have hne : setL L s t ≠ [] := fun e => by have := setL_length L s t; rw [e] at this; simp at this; omega
  obtain ⟨i, hi⟩ := List.getElem?_of_mem (mnL_mem hne)
  have hl := (List.getElem?_eq_some_iff.1 hi).1
  rw [setL_length] at hl
  have hx : L[i]? = some L[i] := List.getElem?_eq_getElem hl
  exact Int.le_trans (mnL_le (List.mem_of_getElem? hx)) (setL_le hx hi)
section
variable {w w' : World} {X Y : Nat → Prop} {c : Nat} {L : List Int} {n : Nat} {T : ByteArray → Option Int}
theorem updT_id {s : ByteArray} (h : T s = none) : updT T s none = T := by
  funext u
  by_cases hu : u = s
  · subst hu; rw [updT_same, h]
  · rw [updT_ne T _ hu]
theorem Free_c (h : Ck w X c L n T) (s : ByteArray) (hs : s.size ≤ maxLen) (hn : n ≤ 4398046511104) : Calls Try.prog 14 #[.pointer (some ⟨c, 0, none⟩), .string s] w fun e w' => e = .returned (.bool (T s).isSome) ∧ (∃ n', Ck w' X c L n' (updT T s none) ∧ n' ≤ n) ∧ Only X w w' := by
  rcases hT : T s with _ | t
  · refine (Free_no h s hs hT).mono ?_
    rintro e w' ⟨rfl, rfl⟩
    exact ⟨rfl, ⟨n, by rw [updT_id hT]; exact h, Nat.le_refl _⟩, Only.refl X w⟩
  · cases n with
    | zero => rw [h.zero s] at hT; cases hT
    | succ n =>
      refine (Free_yes h s t hs hT hn).mono ?_
      rintro e w' ⟨rfl, hc, ho⟩
      exact ⟨rfl, ⟨n, hc, Nat.le_succ n⟩, ho⟩
theorem Ck.wide (h : Ck w X c L n T) (hy : ∀ k, X k → Y k) (hlt : ∀ k, Y k → k < w.heap.size) : Ck w Y c L n T := by
  obtain ⟨XH, mv, v, nb, f, nm, tm, N, h⟩ := h
  exact ⟨XH, mv, v, nb, f, nm, tm, N, h.wide hy hlt⟩
/-- The holds behind a Hold. -/
def holdT (T : ByteArray → Option Int) (s : ByteArray) (t : Int) : ByteArray → Option Int := if isTime t = true then updT T s (some t) else T
theorem Hold_c (h : Ck w X c L n T) (s : ByteArray) (t : Int) (hs : s.size ≤ maxLen) (hn : n ≤ 4398046511103) : Calls Try.prog 15 #[.pointer (some ⟨c, 0, none⟩), .string s, .int .i64 t] w fun e w' => e = .returned (.int .i64 (if isTime t = true then 0 else 2)) ∧ (∃ n', Ck w' (Xt X w w') c L n' (holdT T s t) ∧ n' ≤ n + 1 ∧ (isTime t = true → T s = none → n' = n + 1)) ∧ Only X w w' := by
  have xw : ∀ {w'}, Only X w w' → ∀ {n' T'}, Ck w' X c L n' T' → Ck w' (Xt X w w') c L n' T' := fun ho _ _ hc => hc.wide (fun k hk => .inl hk) (fun k hk => by
    rcases hk with h1 | h1
    · exact Nat.lt_of_lt_of_le (h.xl k h1) ho.size
    · exact h1.2)
  unfold holdT
  rcases ht : isTime t with _ | _
  · refine (Hold_bad h s t ht).mono ?_
    rintro e w' ⟨rfl, rfl⟩
    exact ⟨rfl, ⟨n, xw (Only.refl X w) h, Nat.le_succ n, fun e => by cases e⟩, Only.refl X w⟩
  · rcases hT : T s with _ | t0
    · refine (Hold_new h s t hs hT ht hn).mono ?_
      rintro e w' ⟨rfl, hc, ho⟩
      exact ⟨rfl, ⟨n + 1, hc, Nat.le_refl _, fun _ _ => rfl⟩, ho⟩
    · refine (Hold_old h s t t0 hs hT ht (by omega)).mono ?_
      rintro e w' ⟨rfl, hc, ho⟩
      exact ⟨rfl, ⟨n, xw ho hc, Nat.le_succ n, fun _ e => by cases e⟩, ho⟩
/-- What a Set tells. -/
def setR (L : List Int) (s t : Int) : Value := if 0 ≤ s ∧ s < (L.length : Int) ∧ isTime t = true then .tuple #[.int .i64 (mnL L), .int .i64 (mnL (setL L s t)), .int .i64 0] else .tuple #[.int .i64 0, .int .i64 0, .int .i64 5]
theorem Set_c (h : Ck w X c L n T) (s t : Int) : Calls Try.prog 13 #[.pointer (some ⟨c, 0, none⟩), .int .i64 s, .int .i64 t] w fun e w' => e = .returned (setR L s t) ∧ Ck w' X c (setL L s t) n T ∧ Only X w w' := by
  by_cases hh : 0 ≤ s ∧ s < (L.length : Int) ∧ isTime t = true
  · obtain ⟨k, rfl⟩ : ∃ k : Nat, s = (k : Int) := ⟨s.toNat, by omega⟩
    have e1 : setL L (k : Int) t = L.set k (max (L.getD k 0) t) := by unfold setL; rw [if_pos hh, Int.toNat_natCast]
    unfold setR
    rw [if_pos hh, e1]
    exact Set_yes h k t (by omega) hh.2.2
  · have e1 : setL L s t = L := by unfold setL; rw [if_neg hh]
    unfold setR
    rw [if_neg hh, e1]
    refine (Set_no h s t hh).mono ?_
    rintro e w' ⟨rfl, rfl⟩
    exact ⟨rfl, h, Only.refl X w⟩
end
set_option maxRecDepth 100000 in
theorem Ints_any (A B : Option Addr) (m k ca cb : Nat) (L M : List Int) (w : World) (ha : Rd w (.slice A m ca) m (ic L)) (hb : Rd w (.slice B k cb) k (ic M)) (hL : L.length = m) (hM : M.length = k) :
    Calls Try.prog 16 #[.slice A m ca, .slice B k cb] w fun e w' => e = .returned (.bool (decide (L = M))) ∧ Below w.heap.size w w' := by
  have hma : m ≤ maxLen := by obtain ⟨_, _, hv, h1, h2, _⟩ := ha; cases hv; omega
  unfold maxLen at hma
  by_cases hmk : m = k
  · subst hmk
    have d1 : ((m : Int) != (m : Int)) = false := by simp
    have HA := Lib.hid ha
    have HB := Lib.hid hb
    have HL := Lib.hid hL
    have HM := Lib.hid hM
    have H0 : Hid (Below w.heap.size w w) := Below.refl _ _
    clear ha hb hL hM
    go_enter Try.func16, Try.ntmps16
    go_wp2
    go_loopw [5] (fun iv wr => ∃ j : Nat, j ≤ m ∧ iv = .int .i64 j ∧ L.take j = M.take j ∧ Below w.heap.size w wr) (fun iv _ => m - (intOf iv).toNat)
    case atStart => exact ⟨0, Nat.zero_le _, rfl, rfl, H0.out⟩
    case round =>
      obtain ⟨j, hj, rfl, htk, hbw⟩ := hrel
      have HTK := Lib.hid htk
      have HBW := Lib.hid hbw
      clear htk
      by_cases hjm : j < m
      · have ra := HA.out.below hbw
        have rb := HB.out.below hbw
        obtain ⟨_, _, hva, _, _, ra⟩ := ra
        cases hva
        obtain ⟨_, _, hvb, _, _, rb⟩ := rb
        cases hvb
        obtain ⟨qa, oa, rfl, _, ra⟩ := ra (by omega)
        obtain ⟨qb, ob, rfl, _, rb⟩ := rb (by omega)
        obtain ⟨x, hx⟩ : ∃ x, L[j]? = some x := ⟨_, List.getElem?_eq_getElem (by have := HL.out; omega)⟩
        obtain ⟨y, hy⟩ : ∃ y, M[j]? = some y := ⟨_, List.getElem?_eq_getElem (by have := HM.out; omega)⟩
        have za := ra j _ (ic_at hx)
        have zb := rb j _ (ic_at hy)
        have hji : (j : Int) < (m : Int) := by omega
        have HX := Lib.hid hx
        have HY := Lib.hid hy
        clear ra rb hx hy hbw
        by_cases hxy : x = y
        · subst hxy
          have d2 : (x != x) = false := by simp
          go_wp2
          go_region
          all_goals go_outline
          go_wp2
          go_roundw
          case rel => exact ⟨j + 1, by omega, by go_num, by rw [List.take_add_one, List.take_add_one, HTK.out, HX.out, HY.out], HBW.out.drew⟩
          case measure => simp [intOf]; omega
        · have d2 : (x != y) = true := by simpa using hxy
          have HXY := Lib.hid hxy
          clear hxy
          go_wp2
          go_region
          all_goals go_outline
          go_wp2
          go_ret
          refine ⟨ret_bool ?_, HBW.out.drew⟩
          symm
          rw [decide_eq_false_iff_not]
          intro e
          have h := HX.out
          rw [e, HY.out] at h
          exact HXY.out (Option.some.inj h).symm
      · obtain rfl : j = m := by omega
        go_wp2
        go_ret
        refine ⟨ret_bool ?_, HBW.out⟩
        have h := HTK.out
        rw [List.take_of_length_le (by rw [HL.out]; exact Nat.le_refl _), List.take_of_length_le (by rw [HM.out]; exact Nat.le_refl _)] at h
        simp [h]
  · have d1 : ((m : Int) != (k : Int)) = true := by simp; omega
    have HR : Hid (true = true → false = decide (L = M)) := fun _ => by
      symm
      rw [decide_eq_false_iff_not]
      intro e; rw [e, hM] at hL; exact hmk hL.symm
    clear ha hb hL hM
    go_enter Try.func16, Try.ntmps16
    go_wp2
    go_ret
    exact ⟨ret_bool (HR.out trivial), Below.refl _ _⟩
end Go.Proofs.Ytdndljbagjfkkaa
