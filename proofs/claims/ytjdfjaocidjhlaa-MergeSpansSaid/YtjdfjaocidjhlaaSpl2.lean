/- Plain: two joins, one behind the other, in either order. -/
import Derived.Test.YtjdfjaocidjhlaaSpl
namespace Go.Proofs.Ytjdfjaocidjhlaa
open Go.RowKit

/-- A stretch of a row. -/
def sl (l : List Wn) (i j : Nat) : List Wn := (l.take j).drop i
theorem sl_length (l : List Wn) {i j : Nat} (h1 : i ≤ j) (h2 : j ≤ l.length) : (sl l i j).length = j - i := by unfold sl; simp; omega
theorem sl_append (l : List Wn) {i j k : Nat} (h1 : i ≤ j) (h2 : j ≤ k) : sl l i j ++ sl l j k = sl l i k := by
  unfold sl
  have e : (l.take k) = (l.take j) ++ (l.take k).drop j := by
    have := (List.take_append_drop j (l.take k)).symm
    rw [List.take_take, Nat.min_eq_left h2] at this
    exact this
  by_cases hj : j ≤ l.length
  · conv => rhs; rw [e]
    rw [List.drop_append_of_le_length (by simp; omega)]
  · have h3 : l.take j = l := List.take_of_length_le (by omega)
    have h4 : l.take k = l := List.take_of_length_le (by omega)
    rw [h3, h4, List.drop_eq_nil_of_le (i := j) (by omega), List.append_nil]
theorem sl_take (l : List Wn) (j : Nat) : l.take j = sl l 0 j := by unfold sl; simp
theorem sl_drop (l : List Wn) (j : Nat) : l.drop j = sl l j l.length := by unfold sl; simp
theorem sl_self (l : List Wn) (i : Nat) : sl l i i = [] := by unfold sl; simp
theorem sl_mem {l : List Wn} {i j : Nat} {x : Wn} (h : x ∈ sl l i j) : ∃ k, i ≤ k ∧ k < j ∧ l[k]? = some x := by
  obtain ⟨k, hk⟩ := List.getElem?_of_mem h
  unfold sl at hk
  rw [List.getElem?_drop] at hk
  obtain ⟨h1, h2⟩ := getElem?_take_of hk
  exact ⟨i + k, by omega, h1, h2⟩
theorem mem_sl {l : List Wn} {i j k : Nat} {x : Wn} (h1 : i ≤ k) (h2 : k < j) (h : l[k]? = some x) : x ∈ sl l i j := by
  unfold sl
  refine List.mem_of_getElem? (i := k - i) ?_
  rw [List.getElem?_drop, show i + (k - i) = k by omega, List.getElem?_take_of_lt h2]
  exact h

theorem cnt_take {p : Wn → Bool} {l : List Wn} (hidx : ∀ (k : Nat) (x : Wn), l[k]? = some x → (k < l.countP p ↔ p x = true)) : ∀ j, j ≤ l.length → (l.take j).countP p = min j (l.countP p)
  | 0, _ => by simp
  | j + 1, h => by
    have ih := cnt_take hidx j (by omega)
    have hx : l[j]? = some l[j] := List.getElem?_eq_getElem (by omega)
    have := hidx j _ hx
    rw [List.take_succ_eq_append_getElem (by omega), List.countP_append, ih]
    cases hp : p l[j] with
    | true => rw [List.countP_cons_of_pos hp]; have := this.2 hp; simp; omega
    | false => rw [List.countP_cons_of_neg (by simp [hp])]; have : ¬ j < l.countP p := fun hh => by have := this.1 hh; rw [hp] at this; cases this
               simp; omega
theorem cnt_sl {p : Wn → Bool} {l : List Wn} (hidx : ∀ (k : Nat) (x : Wn), l[k]? = some x → (k < l.countP p ↔ p x = true)) {i j : Nat} (h1 : i ≤ j) (h2 : j ≤ l.length) : (sl l i j).countP p = min j (l.countP p) - min i (l.countP p) := by
  have e1 := cnt_take hidx i (by omega)
  have e2 := cnt_take hidx j h2
  have e3 : l.take i ++ sl l i j = l.take j := by rw [sl_take, sl_take, sl_append l (Nat.zero_le _) h1]
  have e4 : (l.take i).countP p + (sl l i j).countP p = (l.take j).countP p := by rw [← List.countP_append, e3]
  omega
theorem frm_sl {l : List Wn} (h : Ap l) (S : Int) {i j : Nat} (h1 : i ≤ j) (h2 : j ≤ l.length) : frm (sl l i j) S = min j (frm l S) - min i (frm l S) :=
  cnt_sl (p := fun x => decide (x.e ≤ S)) (fun k x hk => by have := frm_idx h S hk; unfold frm at this; rw [this]; simp) h1 h2
theorem too_sl {l : List Wn} (h : Ap l) (E : Int) {i j : Nat} (h1 : i ≤ j) (h2 : j ≤ l.length) : too (sl l i j) E = min j (too l E) - min i (too l E) :=
  cnt_sl (p := fun x => decide (x.s < E)) (fun k x hk => by have := too_idx h E hk; unfold too at this; rw [this]; simp) h1 h2
theorem frm_append (a b : List Wn) (S : Int) : frm (a ++ b) S = frm a S + frm b S := List.countP_append
theorem too_append (a b : List Wn) (E : Int) : too (a ++ b) E = too a E + too b E := List.countP_append
theorem frm_one (x : Wn) (S : Int) : frm [x] S = if x.e ≤ S then 1 else 0 := by
  unfold frm
  by_cases h : x.e ≤ S <;> simp [h]
theorem too_one (x : Wn) (E : Int) : too [x] E = if x.s < E then 1 else 0 := by
  unfold too
  by_cases h : x.s < E <;> simp [h]

/-- A join where the three parts are known. -/
theorem joinW_of {A M C : List Wn} {S E W H : Int} (h1 : frm (A ++ M ++ C) S = A.length) (h2 : too (A ++ M ++ C) E = A.length + M.length) :
    joinW (A ++ M ++ C) S E W H = A ++ [jn S E W H M] ++ C := by
  unfold joinW midW
  rw [h1, h2]
  have e1 : (A ++ M ++ C).take A.length = A := by rw [List.append_assoc, List.take_left]
  have e2 : (A ++ M ++ C).take (A.length + M.length) = A ++ M := by rw [← List.length_append, List.take_left]
  have e3 : (A ++ M ++ C).drop (A.length + M.length) = C := by rw [← List.length_append, List.drop_left]
  rw [e1, e2, e3, List.drop_left]
theorem joinW_sl (l : List Wn) (S E W H : Int) : joinW l S E W H = sl l 0 (frm l S) ++ [jn S E W H (sl l (frm l S) (too l E))] ++ sl l (too l E) l.length := by
  unfold joinW
  rw [sl_take, sl_drop]
  rfl

/-- Numbers of 64 bits. -/
def B64 (x : Int) : Prop := -9223372036854775808 ≤ x ∧ x ≤ 9223372036854775807

section
variable {S E W H : Int} {m : List Wn}
theorem jn_s : (jn S E W H m).s = min S (smin (m.map Wn.sp)) := smin_cons _ _
theorem jn_e : (jn S E W H m).e = max E (smax (m.map Wn.sp)) := smax_cons _ _
theorem jn_tl : (jn S E W H m).tl = tly (m.map Wn.tl) := rfl
theorem jn_si : (jn S E W H m).si = sinc m := rfl
theorem jn_pa : (jn S E W H m).pa = pans m := rfl
theorem smin_sp_le {x : Wn} (h : x ∈ m) : smin (m.map Wn.sp) ≤ x.s := smin_le x.sp (List.mem_map_of_mem h)
theorem smax_sp_ge {x : Wn} (h : x ∈ m) : x.e ≤ smax (m.map Wn.sp) := smax_ge x.sp (List.mem_map_of_mem h)
theorem smin_sp_lb {b : Int} (hb : b ≤ 9223372036854775807) (h : ∀ x ∈ m, b ≤ x.s) : b ≤ smin (m.map Wn.sp) := by
  induction m with
  | nil => exact hb
  | cons x m ih =>
    rw [List.map_cons, smin_cons]
    have := ih fun y hy => h y (by simp [hy])
    have := h x (by simp)
    show b ≤ min x.s _
    omega
theorem smax_sp_ub {b : Int} (hb : -9223372036854775808 ≤ b) (h : ∀ x ∈ m, x.e ≤ b) : smax (m.map Wn.sp) ≤ b := by
  induction m with
  | nil => exact hb
  | cons x m ih =>
    rw [List.map_cons, smax_cons]
    have := ih fun y hy => h y (by simp [hy])
    have := h x (by simp)
    show max x.e _ ≤ b
    omega
end

theorem cnt_mk {n : Int} (h1 : 0 ≤ n) (h2 : n ≤ 9007199254740992) : cnt n = true := decide_eq_true ⟨h1, h2⟩
theorem jn_okw {S E W H : Int} {m : List Wn} (hse : S < E) (hm : ∀ x ∈ m, Okw x) : Okw (jn S E W H m) :=
  ⟨by rw [jn_s, jn_e]; omega, cnt_mk (tly_bd _).1 (tly_bd _).2, cnt_mk (sinc_bd hm).1 (sinc_bd hm).2, cnt_mk (pans_bd hm).1 (pans_bd hm).2⟩
theorem sl_okw {l : List Wn} (hap : Ap l) {i j : Nat} : ∀ x ∈ sl l i j, Okw x := fun x hx => hap.1 x (List.mem_of_mem_take (List.mem_of_mem_drop hx))
theorem sl_pw {l : List Wn} (hap : Ap l) (i j : Nat) : (sl l i j).Pairwise (fun a b => a.e ≤ b.s) := (hap.2.sublist (List.take_sublist _ _)).sublist (List.drop_sublist _ _)

theorem ap_join {l : List Wn} {S E W H : Int} (hap : Ap l) (hse : S < E) (hS : B64 S) (hE : B64 E) : Ap (joinW l S E W H) := by
  have hft := frm_too hap hse
  have htl := too_le l E
  rw [joinW_sl]
  have hA : ∀ x ∈ sl l 0 (frm l S), x.e ≤ S := fun x hx => by
    obtain ⟨k, _, hk, hx'⟩ := sl_mem hx
    exact (frm_idx hap S hx').1 hk
  have hC : ∀ x ∈ sl l (too l E) l.length, E ≤ x.s := fun x hx => by
    obtain ⟨k, hk, _, hx'⟩ := sl_mem hx
    have := too_idx hap E hx'
    omega
  have hAM : ∀ x ∈ sl l 0 (frm l S), ∀ y ∈ sl l (frm l S) (too l E), x.e ≤ y.s := fun x hx y hy => by
    obtain ⟨k, _, hk, hx'⟩ := sl_mem hx
    obtain ⟨k', hk', _, hy'⟩ := sl_mem hy
    exact ap_lt hap hx' hy' (by omega)
  have hMC : ∀ x ∈ sl l (frm l S) (too l E), ∀ y ∈ sl l (too l E) l.length, x.e ≤ y.s := fun x hx y hy => by
    obtain ⟨k, _, hk, hx'⟩ := sl_mem hx
    obtain ⟨k', hk', _, hy'⟩ := sl_mem hy
    exact ap_lt hap hx' hy' (by omega)
  have hj1 : ∀ x ∈ sl l 0 (frm l S), x.e ≤ (jn S E W H (sl l (frm l S) (too l E))).s := fun x hx => by
    rw [jn_s]
    have h1 := hA x hx
    have h2 := smin_sp_lb (m := sl l (frm l S) (too l E)) (b := x.e) (by have := hS.2; omega) (fun y hy => hAM x hx y hy)
    omega
  have hj2 : ∀ y ∈ sl l (too l E) l.length, (jn S E W H (sl l (frm l S) (too l E))).e ≤ y.s := fun y hy => by
    rw [jn_e]
    have h1 := hC y hy
    have h2 := smax_sp_ub (m := sl l (frm l S) (too l E)) (b := y.s) (by have := hE.1; omega) (fun x hx => hMC x hx y hy)
    omega
  refine ⟨fun x hx => ?_, ?_⟩
  · rcases List.mem_append.1 hx with hx | hx
    · rcases List.mem_append.1 hx with hx | hx
      · exact sl_okw hap x hx
      · simp at hx; subst hx; exact jn_okw hse (sl_okw hap)
    · exact sl_okw hap x hx
  · rw [List.pairwise_append, List.pairwise_append]
    refine ⟨⟨sl_pw hap _ _, List.pairwise_singleton _ _, fun a ha b hb => ?_⟩, sl_pw hap _ _, fun a ha b hb => ?_⟩
    · simp at hb; subst hb; exact hj1 a ha
    · rcases List.mem_append.1 ha with ha | ha
      · have h1 := hA a ha
        have h2 := hC b hb
        omega
      · simp at ha; subst ha; exact hj2 b hb

/-- A window without its hold. -/
def nh (x : Wn) : Wn := ⟨x.s, x.e, 0, x.c, x.u, x.lo, x.hi, x.si, x.pa⟩
theorem nh_eq {x y : Wn} (h1 : x.s = y.s) (h2 : x.e = y.e) (h3 : x.tl = y.tl) (h4 : x.si = y.si) (h5 : x.pa = y.pa) : nh x = nh y := by
  have a : x.tl.c = y.tl.c := by rw [h3]
  have b : x.tl.u = y.tl.u := by rw [h3]
  have c : x.tl.lo = y.tl.lo := by rw [h3]
  have d : x.tl.hi = y.tl.hi := by rw [h3]
  simp only [Wn.tl] at a b c d
  unfold nh
  rw [h1, h2, a, b, c, d, h4, h5]

theorem si_nonneg {l : List Wn} (h : ∀ x ∈ l, Okw x) : ∀ x ∈ l, 0 ≤ x.si := fun x hx => (cnt_bd (h x hx).si).1
theorem pa_nonneg {l : List Wn} (h : ∀ x ∈ l, Okw x) : ∀ x ∈ l, 0 ≤ x.pa := fun x hx => (cnt_bd (h x hx).pa).1

theorem okw_app {a b : List Wn} (ha : ∀ x ∈ a, Okw x) (hb : ∀ x ∈ b, Okw x) : ∀ x ∈ a ++ b, Okw x := fun x hx => (List.mem_append.1 hx).elim (ha x) (hb x)
theorem okw_one {a : Wn} (ha : Okw a) : ∀ x ∈ [a], Okw x := fun x hx => by simp at hx; subst hx; exact ha
theorem sinc_one {x : Wn} (h1 : 0 ≤ x.si) (h2 : x.si ≤ 9007199254740992) : sinc [x] = x.si := by show min (0 + x.si) 9007199254740992 = x.si; omega
theorem pans_one {x : Wn} (h1 : 0 ≤ x.pa) (h2 : x.pa ≤ 9007199254740992) : pans [x] = x.pa := by show min (0 + x.pa) 9007199254740992 = x.pa; omega
theorem smin_one (x : Wn) (h : x.s ≤ 9223372036854775807) : smin [x.sp] = x.s := by show min 9223372036854775807 x.s = x.s; omega
theorem smax_one (x : Wn) (h : -9223372036854775808 ≤ x.e) : smax [x.sp] = x.e := by show max (-9223372036854775808) x.e = x.e; omega

theorem jn_swap {A1 C1 A2 B2 C2 : List Wn} {S1 E1 W1 H1 S2 E2 W2 H2 : Int} (g : A1 ++ C1 = A2 ++ B2 ++ C2) (h1 : S1 < E1) (h2 : S2 < E2) (b1 : B64 S1) (b2 : B64 E1) (b3 : B64 S2) (b4 : B64 E2)
    (o1 : ∀ x ∈ A1, Okw x) (o2 : ∀ x ∈ C1, Okw x) (o3 : ∀ x ∈ A2, Okw x) (o4 : ∀ x ∈ B2, Okw x) (o5 : ∀ x ∈ C2, Okw x) :
    nh (jn S2 E2 W2 H2 ([jn S1 E1 W1 H1 A1] ++ C1)) = nh (jn S1 E1 W1 H1 (A2 ++ [jn S2 E2 W2 H2 B2] ++ C2)) := by
  have js1 := jn_s (S := S1) (E := E1) (W := W1) (H := H1) (m := A1)
  have je1 := jn_e (S := S1) (E := E1) (W := W1) (H := H1) (m := A1)
  have js2 := jn_s (S := S2) (E := E2) (W := W2) (H := H2) (m := B2)
  have je2 := jn_e (S := S2) (E := E2) (W := W2) (H := H2) (m := B2)
  have jt1 := jn_tl (S := S1) (E := E1) (W := W1) (H := H1) (m := A1)
  have jt2 := jn_tl (S := S2) (E := E2) (W := W2) (H := H2) (m := B2)
  have ji1 := jn_si (S := S1) (E := E1) (W := W1) (H := H1) (m := A1)
  have ji2 := jn_si (S := S2) (E := E2) (W := W2) (H := H2) (m := B2)
  have jp1 := jn_pa (S := S1) (E := E1) (W := W1) (H := H1) (m := A1)
  have jp2 := jn_pa (S := S2) (E := E2) (W := W2) (H := H2) (m := B2)
  have k1 : Okw (jn S1 E1 W1 H1 A1) := jn_okw h1 o1
  have k2 : Okw (jn S2 E2 W2 H2 B2) := jn_okw h2 o4
  generalize jn S1 E1 W1 H1 A1 = x1 at *
  generalize jn S2 E2 W2 H2 B2 = x2 at *
  obtain ⟨u1, u2⟩ := cnt_bd k1.si
  obtain ⟨u3, u4⟩ := cnt_bd k2.si
  obtain ⟨u5, u6⟩ := cnt_bd k1.pa
  obtain ⟨u7, u8⟩ := cnt_bd k2.pa
  have hs1 : x1.s ≤ 9223372036854775807 := by rw [js1]; have := b1.2; omega
  have hs2 : x2.s ≤ 9223372036854775807 := by rw [js2]; have := b3.2; omega
  have he1 : -9223372036854775808 ≤ x1.e := by rw [je1]; have := b2.1; omega
  have he2 : -9223372036854775808 ≤ x2.e := by rw [je2]; have := b4.1; omega
  refine nh_eq ?_ ?_ ?_ ?_ ?_
  · have e := congrArg (fun m : List Wn => smin (m.map Wn.sp)) g
    simp only [List.map_append, smin_append] at e
    rw [jn_s, jn_s]
    simp only [List.map_append, smin_append, List.map_cons, List.map_nil]
    rw [smin_one x1 hs1, smin_one x2 hs2, js1, js2]
    generalize smin (A1.map Wn.sp) = a at *
    generalize smin (C1.map Wn.sp) = b at *
    generalize smin (A2.map Wn.sp) = c at *
    generalize smin (B2.map Wn.sp) = d at *
    generalize smin (C2.map Wn.sp) = f at *
    clear g o1 o2 o3 o4 o5 k1 k2 jt1 jt2 js1 js2 je1 je2 ji1 ji2 jp1 jp2
    omega
  · have e := congrArg (fun m : List Wn => smax (m.map Wn.sp)) g
    simp only [List.map_append, smax_append] at e
    rw [jn_e, jn_e]
    simp only [List.map_append, smax_append, List.map_cons, List.map_nil]
    rw [smax_one x1 he1, smax_one x2 he2, je1, je2]
    generalize smax (A1.map Wn.sp) = a at *
    generalize smax (C1.map Wn.sp) = b at *
    generalize smax (A2.map Wn.sp) = c at *
    generalize smax (B2.map Wn.sp) = d at *
    generalize smax (C2.map Wn.sp) = f at *
    clear g o1 o2 o3 o4 o5 k1 k2 jt1 jt2 js1 js2 je1 je2 ji1 ji2 jp1 jp2
    omega
  · have e := congrArg (fun m : List Wn => tly (m.map Wn.tl)) g
    simp only [List.map_append, tly_append] at e
    rw [jn_tl, jn_tl]
    simp only [List.map_append, tly_append, List.map_cons, List.map_nil]
    rw [jt1, jt2, tly_one_tly, tly_one_tly]
    exact e
  · rw [jn_si, jn_si, sinc_append (si_nonneg (okw_one k1)) (si_nonneg o2), sinc_append (si_nonneg (okw_app o3 (okw_one k2))) (si_nonneg o5), sinc_append (si_nonneg o3) (si_nonneg (okw_one k2)), sinc_one u1 u2, sinc_one u3 u4, ji1, ji2]
    have e := congrArg sinc g
    rw [sinc_append (si_nonneg o1) (si_nonneg o2), sinc_append (si_nonneg (okw_app o3 o4)) (si_nonneg o5), sinc_append (si_nonneg o3) (si_nonneg o4)] at e
    exact e
  · rw [jn_pa, jn_pa, pans_append (pa_nonneg (okw_one k1)) (pa_nonneg o2), pans_append (pa_nonneg (okw_app o3 (okw_one k2))) (pa_nonneg o5), pans_append (pa_nonneg o3) (pa_nonneg (okw_one k2)), pans_one u5 u6, pans_one u7 u8, jp1, jp2]
    have e := congrArg pans g
    rw [pans_append (pa_nonneg o1) (pa_nonneg o2), pans_append (pa_nonneg (okw_app o3 o4)) (pa_nonneg o5), pans_append (pa_nonneg o3) (pa_nonneg o4)] at e
    exact e

set_option maxHeartbeats 2000000 in
theorem stays_lt {l : List Wn} (hap : Ap l) {S1 E1 W1 H1 S2 E2 W2 H2 : Int} (h1 : S1 < E1) (h2 : S2 < E2) (hle : S1 ≤ S2) (b1 : B64 S1) (b2 : B64 E1) (b3 : B64 S2) (b4 : B64 E2) :
    (joinW (joinW l S1 E1 W1 H1) S2 E2 W2 H2).map nh = (joinW (joinW l S2 E2 W2 H2) S1 E1 W1 H1).map nh := by
  have q1 := frm_too hap h1
  have q2 := frm_too hap h2
  have q3 := too_le l E1
  have q4 := too_le l E2
  have q5 : frm l S1 ≤ frm l S2 := List.countP_mono_left fun x hx => by simp only [decide_eq_true_eq]; omega
  have i1 := fun (k : Nat) (x : Wn) (hk : l[k]? = some x) => frm_idx hap S1 hk
  have i2 := fun (k : Nat) (x : Wn) (hk : l[k]? = some x) => frm_idx hap S2 hk
  have i3 := fun (k : Nat) (x : Wn) (hk : l[k]? = some x) => too_idx hap E1 hk
  have i4 := fun (k : Nat) (x : Wn) (hk : l[k]? = some x) => too_idx hap E2 hk
  have F1 := fun (i j : Nat) (a : i ≤ j) (b : j ≤ l.length) => frm_sl hap S1 a b
  have F2 := fun (i j : Nat) (a : i ≤ j) (b : j ≤ l.length) => frm_sl hap S2 a b
  have T1 := fun (i j : Nat) (a : i ≤ j) (b : j ≤ l.length) => too_sl hap E1 a b
  have T2 := fun (i j : Nat) (a : i ≤ j) (b : j ≤ l.length) => too_sl hap E2 a b
  rw [joinW_sl l S1 E1, joinW_sl l S2 E2]
  generalize frm l S1 = f1 at *
  generalize frm l S2 = f2 at *
  generalize too l E1 = z1 at *
  generalize too l E2 = z2 at *
  obtain ⟨n, hn⟩ : ∃ n, l.length = n := ⟨_, rfl⟩
  rw [hn] at q3 q4 F1 F2 T1 T2 ⊢
  have js1 := jn_s (S := S1) (E := E1) (W := W1) (H := H1) (m := sl l f1 z1)
  have je1 := jn_e (S := S1) (E := E1) (W := W1) (H := H1) (m := sl l f1 z1)
  have js2 := jn_s (S := S2) (E := E2) (W := W2) (H := H2) (m := sl l f2 z2)
  have je2 := jn_e (S := S2) (E := E2) (W := W2) (H := H2) (m := sl l f2 z2)
  by_cases hc : S2 < E1 ∨ (f2 < z1 ∧ f2 < z2)
  · -- they come together
    have hf2 : f2 ≤ z1 := by
      rcases hc with hc | hc
      · rcases Nat.lt_or_ge z1 f2 with hlt | hge
        · have hx : l[z1]? = some l[z1] := List.getElem?_eq_getElem (by omega)
          have e1 := (i2 z1 _ hx).1 hlt
          have e2 : ¬ (l[z1].s < E1) := fun h => by have := (i3 z1 _ hx).2 h; omega
          have e3 := (ap_okw hap hx).lt
          omega
        · exact hge
      · omega
    have hje1 : S2 < (jn S1 E1 W1 H1 (sl l f1 z1)).e := by
      rw [je1]
      rcases hc with hc | hc
      · omega
      · have hx : l[f2]? = some l[f2] := List.getElem?_eq_getElem (by omega)
        have e1 : ¬ l[f2].e ≤ S2 := fun h => by have := (i2 f2 _ hx).2 h; omega
        have e2 := smax_sp_ge (mem_sl (i := f1) (j := z1) q5 hc.1 hx)
        omega
    have hjs2 : (jn S2 E2 W2 H2 (sl l f2 z2)).s < E1 := by
      rw [js2]
      rcases hc with hc | hc
      · omega
      · have hx : l[f2]? = some l[f2] := List.getElem?_eq_getElem (by omega)
        have e1 := (i3 f2 _ hx).1 hc.1
        have e2 := smin_sp_le (mem_sl (i := f2) (j := z2) (Nat.le_refl _) hc.2 hx)
        omega
    obtain ⟨zz, hzz⟩ : ∃ zz, zz = max z1 z2 := ⟨_, rfl⟩
    have ea : sl l 0 f1 ++ [jn S1 E1 W1 H1 (sl l f1 z1)] ++ sl l z1 n = sl l 0 f1 ++ ([jn S1 E1 W1 H1 (sl l f1 z1)] ++ sl l z1 zz) ++ sl l zz n := by
      rw [← sl_append l (i := z1) (j := zz) (k := n) (by omega) (by omega)]; simp
    have eb : sl l 0 f2 ++ [jn S2 E2 W2 H2 (sl l f2 z2)] ++ sl l z2 n = sl l 0 f1 ++ (sl l f1 f2 ++ [jn S2 E2 W2 H2 (sl l f2 z2)] ++ sl l z2 zz) ++ sl l zz n := by
      rw [← sl_append l (i := z2) (j := zz) (k := n) (by omega) (by omega), ← sl_append l (i := 0) (j := f1) (k := f2) (by omega) (by omega)]; simp
    have la : (sl l 0 f1).length = f1 := by rw [sl_length l (by omega) (by omega)]; omega
    have lb : (sl l z1 zz).length = zz - z1 := by rw [sl_length l (by omega) (by omega)]
    have lc : (sl l f1 f2).length = f2 - f1 := by rw [sl_length l (by omega) (by omega)]
    have ld : (sl l z2 zz).length = zz - z2 := by rw [sl_length l (by omega) (by omega)]
    have ha : joinW (sl l 0 f1 ++ ([jn S1 E1 W1 H1 (sl l f1 z1)] ++ sl l z1 zz) ++ sl l zz n) S2 E2 W2 H2 = sl l 0 f1 ++ [jn S2 E2 W2 H2 ([jn S1 E1 W1 H1 (sl l f1 z1)] ++ sl l z1 zz)] ++ sl l zz n := by
      refine joinW_of ?_ ?_
      · rw [frm_append, frm_append, frm_append, frm_one, if_neg (by omega), F2 0 f1 (by omega) (by omega), F2 z1 zz (by omega) (by omega), F2 zz n (by omega) (by omega), la]
        omega
      · rw [too_append, too_append, too_append, too_one, if_pos (by rw [js1]; omega), T2 0 f1 (by omega) (by omega), T2 z1 zz (by omega) (by omega), T2 zz n (by omega) (by omega), la, List.length_append, lb]
        simp only [List.length_cons, List.length_nil]
        omega
    have hb : joinW (sl l 0 f1 ++ (sl l f1 f2 ++ [jn S2 E2 W2 H2 (sl l f2 z2)] ++ sl l z2 zz) ++ sl l zz n) S1 E1 W1 H1 = sl l 0 f1 ++ [jn S1 E1 W1 H1 (sl l f1 f2 ++ [jn S2 E2 W2 H2 (sl l f2 z2)] ++ sl l z2 zz)] ++ sl l zz n := by
      refine joinW_of ?_ ?_
      · rw [frm_append, frm_append, frm_append, frm_append, frm_one, if_neg (by rw [je2]; omega), F1 0 f1 (by omega) (by omega), F1 f1 f2 (by omega) (by omega), F1 z2 zz (by omega) (by omega), F1 zz n (by omega) (by omega), la]
        omega
      · rw [too_append, too_append, too_append, too_append, too_one, if_pos hjs2, T1 0 f1 (by omega) (by omega), T1 f1 f2 (by omega) (by omega), T1 z2 zz (by omega) (by omega), T1 zz n (by omega) (by omega), la, List.length_append, List.length_append, lc, ld]
        simp only [List.length_cons, List.length_nil]
        omega
    rw [ea, eb, ha, hb]
    have g1 : sl l f1 z1 ++ sl l z1 zz = sl l f1 f2 ++ sl l f2 z2 ++ sl l z2 zz := by rw [sl_append l (by omega) (by omega), sl_append l (by omega) (by omega), sl_append l (by omega) (by omega)]
    have hj := jn_swap (W1 := W1) (H1 := H1) (W2 := W2) (H2 := H2) g1 h1 h2 b1 b2 b3 b4 (sl_okw hap) (sl_okw hap) (sl_okw hap) (sl_okw hap) (sl_okw hap)
    simp only [List.map_append (l₁ := sl l 0 f1 ++ _), List.map_append (l₁ := sl l 0 f1), List.map_cons (a := jn S2 E2 W2 H2 ([jn S1 E1 W1 H1 (sl l f1 z1)] ++ sl l z1 zz)), List.map_cons (a := jn S1 E1 W1 H1 (sl l f1 f2 ++ [jn S2 E2 W2 H2 (sl l f2 z2)] ++ sl l z2 zz)), List.map_nil, hj]
  · -- they stay apart
    have hE : E1 ≤ S2 := by omega
    have hz : z1 ≤ f2 := by
      rcases Nat.lt_or_ge f2 z1 with hlt | hge
      · have hx : l[f2]? = some l[f2] := List.getElem?_eq_getElem (by omega)
        have e1 := (i3 f2 _ hx).1 hlt
        have e2 := (i4 f2 _ hx).2 (by omega)
        omega
      · exact hge
    have hje1 : (jn S1 E1 W1 H1 (sl l f1 z1)).e ≤ S2 := by
      rw [je1]
      have := smax_sp_ub (m := sl l f1 z1) (b := S2) b3.1 (fun x hx => by
        obtain ⟨k, _, hk, hx'⟩ := sl_mem hx
        exact (i2 k x hx').1 (by omega))
      omega
    have hjs2 : E1 ≤ (jn S2 E2 W2 H2 (sl l f2 z2)).s := by
      rw [js2]
      have := smin_sp_lb (m := sl l f2 z2) (b := E1) b2.2 (fun x hx => by
        obtain ⟨k, hk, _, hx'⟩ := sl_mem hx
        have := i3 k x hx'
        omega)
      omega
    have ea : sl l 0 f1 ++ [jn S1 E1 W1 H1 (sl l f1 z1)] ++ sl l z1 n = (sl l 0 f1 ++ [jn S1 E1 W1 H1 (sl l f1 z1)] ++ sl l z1 f2) ++ sl l f2 z2 ++ sl l z2 n := by
      rw [← sl_append l (i := z1) (j := f2) (k := n) (by omega) (by omega), ← sl_append l (i := f2) (j := z2) (k := n) (by omega) (by omega)]; simp
    have eb : sl l 0 f2 ++ [jn S2 E2 W2 H2 (sl l f2 z2)] ++ sl l z2 n = sl l 0 f1 ++ sl l f1 z1 ++ (sl l z1 f2 ++ [jn S2 E2 W2 H2 (sl l f2 z2)] ++ sl l z2 n) := by
      rw [← sl_append l (i := 0) (j := f1) (k := f2) (by omega) (by omega), ← sl_append l (i := f1) (j := z1) (k := f2) (by omega) (by omega)]; simp
    have la : (sl l 0 f1).length = f1 := by rw [sl_length l (by omega) (by omega)]; omega
    have lb : (sl l z1 f2).length = f2 - z1 := by rw [sl_length l (by omega) (by omega)]
    have lc : (sl l f1 z1).length = z1 - f1 := by rw [sl_length l (by omega) (by omega)]
    have ld : (sl l f2 z2).length = z2 - f2 := by rw [sl_length l (by omega) (by omega)]
    have ha : joinW ((sl l 0 f1 ++ [jn S1 E1 W1 H1 (sl l f1 z1)] ++ sl l z1 f2) ++ sl l f2 z2 ++ sl l z2 n) S2 E2 W2 H2 = (sl l 0 f1 ++ [jn S1 E1 W1 H1 (sl l f1 z1)] ++ sl l z1 f2) ++ [jn S2 E2 W2 H2 (sl l f2 z2)] ++ sl l z2 n := by
      refine joinW_of ?_ ?_
      · rw [frm_append, frm_append, frm_append, frm_append, frm_one, if_pos hje1, F2 0 f1 (by omega) (by omega), F2 z1 f2 (by omega) (by omega), F2 f2 z2 (by omega) (by omega), F2 z2 n (by omega) (by omega), List.length_append, List.length_append, la, lb]
        simp only [List.length_cons, List.length_nil]
        omega
      · rw [too_append, too_append, too_append, too_append, too_one, if_pos (by rw [js1]; omega), T2 0 f1 (by omega) (by omega), T2 z1 f2 (by omega) (by omega), T2 f2 z2 (by omega) (by omega), T2 z2 n (by omega) (by omega), List.length_append, List.length_append, la, lb, ld]
        simp only [List.length_cons, List.length_nil]
        omega
    have hb : joinW (sl l 0 f1 ++ sl l f1 z1 ++ (sl l z1 f2 ++ [jn S2 E2 W2 H2 (sl l f2 z2)] ++ sl l z2 n)) S1 E1 W1 H1 = sl l 0 f1 ++ [jn S1 E1 W1 H1 (sl l f1 z1)] ++ (sl l z1 f2 ++ [jn S2 E2 W2 H2 (sl l f2 z2)] ++ sl l z2 n) := by
      refine joinW_of ?_ ?_
      · rw [frm_append, frm_append, frm_append, frm_append, frm_one, if_neg (by rw [je2]; omega), F1 0 f1 (by omega) (by omega), F1 f1 z1 (by omega) (by omega), F1 z1 f2 (by omega) (by omega), F1 z2 n (by omega) (by omega), la]
        omega
      · rw [too_append, too_append, too_append, too_append, too_one, if_neg (by omega), T1 0 f1 (by omega) (by omega), T1 f1 z1 (by omega) (by omega), T1 z1 f2 (by omega) (by omega), T1 z2 n (by omega) (by omega), la, lc]
        omega
    rw [ea, eb, ha, hb]
    simp

theorem stays {l : List Wn} (hap : Ap l) {S1 E1 W1 H1 S2 E2 W2 H2 : Int} (h1 : S1 < E1) (h2 : S2 < E2) (b1 : B64 S1) (b2 : B64 E1) (b3 : B64 S2) (b4 : B64 E2) :
    (joinW (joinW l S1 E1 W1 H1) S2 E2 W2 H2).map nh = (joinW (joinW l S2 E2 W2 H2) S1 E1 W1 H1).map nh := by
  rcases Int.le_total S1 S2 with h | h
  · exact stays_lt hap h1 h2 h b1 b2 b3 b4
  · exact (stays_lt hap h2 h1 h b3 b4 b1 b2).symm
end Go.Proofs.Ytjdfjaocidjhlaa
