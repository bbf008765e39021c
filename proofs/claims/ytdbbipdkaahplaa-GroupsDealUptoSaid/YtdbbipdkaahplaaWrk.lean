/- The walks of Worker, Group, Of, the program's and the document's. -/
import Derived.Test.YtdbbipdkaahplaaStr
namespace Go.Proofs.Ytdbbipdkaahplaa
open Go.RowKit

def wrkOk (x p g : Int) : Prop := mayB p g ∧ 0 ≤ x ∧ x < g
instance (n p g : Int) : Decidable (wrkOk n p g) := by unfold wrkOk; infer_instance
def wrk (x p g : Int) : Int := if wrkOk x p g then ((x + 1) * p - 1) / g else 0
def wrkE (x p g : Int) : Int := if wrkOk x p g then 0 else 2

theorem le_wrk {w x p g : Int} (hp : 1 ≤ p) (hg : 1 ≤ g) : w ≤ ((x + 1) * p - 1) / g ↔ w * g / p ≤ x := by
  rw [Int.le_ediv_iff_mul_le (by omega)]
  have h := Int.ediv_lt_iff_lt_mul (a := w * g) (b := x + 1) (c := p) (by omega)
  omega
theorem wrk_lt {x p g : Int} (hp : 1 ≤ p) (hg : 1 ≤ g) (hx : x < g) : ((x + 1) * p - 1) / g < p := by
  rw [Int.ediv_lt_iff_lt_mul (by omega)]
  have h1 : (x + 1) * p ≤ g * p := Int.mul_le_mul_of_nonneg_right (by omega) (by omega)
  rw [Int.mul_comm p g]; omega
theorem wrk_nonneg {x p g : Int} (hp : 1 ≤ p) (hg : 1 ≤ g) (hx : 0 ≤ x) : 0 ≤ ((x + 1) * p - 1) / g := by
  apply Int.ediv_nonneg _ (by omega)
  have h1 : 1 * p ≤ (x + 1) * p := Int.mul_le_mul_of_nonneg_right (by omega) (by omega)
  omega

set_option maxHeartbeats 400000 in
theorem Worker_yes (x p g : Int) (w : World) (h : mayB p g) (hx : 0 ≤ x) (hx2 : x < g) :
    Calls Try.prog 18 #[.int .i64 x, .int .i64 p, .int .i64 g] w fun e w' => e = .returned (.tuple #[.int .i64 (((x + 1) * p - 1) / g), .int .i64 0]) ∧ Below w.heap.size w w' := by
  obtain ⟨h1, h2, h3, h4⟩ := id h
  have a1 : 1 * p ≤ (x + 1) * p := Int.mul_le_mul_of_nonneg_right (by omega) (by omega)
  have a2 : (x + 1) * p ≤ 32768 * p := Int.mul_le_mul_of_nonneg_right (by omega) (by omega)
  have a3 : 1 ≤ (x + 1) * p := by omega
  have a4 : (x + 1) * p ≤ 1073741824 := by omega
  have H := Lib.hid h
  clear h a1 a2
  go_enter Try.func18, Try.ntmps18
  go_wp2_with (go_at_call 29; refine (may_yes _ _ _ H.out).mono ?_; rintro e w' ⟨rfl, rfl⟩)
  go_ret2
  exact ⟨rfl, Below.refl _ _⟩

set_option maxHeartbeats 400000 in
theorem Worker_no (x p g : Int) (w : World) (h : ¬ wrkOk x p g) :
    Calls Try.prog 18 #[.int .i64 x, .int .i64 p, .int .i64 g] w fun e w' => e = .returned (.tuple #[.int .i64 0, .int .i64 2]) ∧ Below w.heap.size w w' := by
  by_cases hm : mayB p g
  · have H := Lib.hid hm
    by_cases h0 : x < 0
    · clear h hm
      go_enter Try.func18, Try.ntmps18
      go_wp2_with (go_at_call 29; refine (may_yes _ _ _ H.out).mono ?_; rintro e w' ⟨rfl, rfl⟩)
      go_ret2
      exact ⟨rfl, Below.refl _ _⟩
    · have h1 : g ≤ x := by
        by_cases h2 : x < g
        · exact absurd ⟨hm, by omega, h2⟩ h
        · omega
      clear h hm
      go_enter Try.func18, Try.ntmps18
      go_wp2_with (go_at_call 29; refine (may_yes _ _ _ H.out).mono ?_; rintro e w' ⟨rfl, rfl⟩)
      go_ret2
      exact ⟨rfl, Below.refl _ _⟩
  · have H := Lib.hid hm
    clear hm h
    go_enter Try.func18, Try.ntmps18
    go_wp2_with (go_at_call 29; refine (may_no _ _ _ H.out).mono ?_; rintro e w' ⟨rfl, rfl⟩)
    go_ret2
    exact ⟨rfl, Below.refl _ _⟩

theorem Worker_any (x p g : Int) (w : World) :
    Calls Try.prog 18 #[.int .i64 x, .int .i64 p, .int .i64 g] w fun e w' => e = .returned (.tuple #[.int .i64 (wrk x p g), .int .i64 (wrkE x p g)]) ∧ Below w.heap.size w w' := by
  unfold wrk wrkE
  by_cases h : wrkOk x p g
  · rw [if_pos h, if_pos h]; exact Worker_yes x p g w h.1 h.2.1 h.2.2
  · rw [if_neg h, if_neg h]; exact Worker_no x p g w h

set_option maxHeartbeats 400000 in
theorem refWorker_yes (x p g : Int) (w : World) (h : mayB p g) (hx : 0 ≤ x) (hx2 : x < g) :
    Calls Try.prog 20 #[.int .i64 x, .int .i64 p, .int .i64 g] w fun e w' => e = .returned (.tuple #[.int .i64 (((x + 1) * p - 1) / g), .int .i64 0]) ∧ Below w.heap.size w w' := by
  obtain ⟨h1, h2, h3, h4⟩ := id h
  have H := Lib.hid h
  clear h
  go_enter Try.func20, Try.ntmps20
  go_wp2_with (go_at_call 9; refine (Workers_yes _ _ _ H.out).mono ?_; rintro e w' ⟨rfl, rfl⟩)
  go_loopw [8] (fun v wr => ∃ k : Int, v = .int .i64 k ∧ 0 ≤ k ∧ k ≤ ((x + 1) * p - 1) / g ∧ Below w.heap.size w wr) (fun v _ => (p - intOf v).toNat)
  case atStart => exact ⟨0, rfl, by omega, wrk_nonneg h3 h1 hx, Below.refl _ _⟩
  case round =>
    obtain ⟨k, rfl, hk0, hk1, hb⟩ := hrel
    have hkp : k < p := by have := wrk_lt h3 h1 hx2; omega
    have hl := Lib.hid (le_wrk (w := k + 1) (x := x) h3 h1)
    have HK := Lib.hid hk1
    clear hk1
    obtain ⟨q, hq⟩ : ∃ q, (k + 1) * g / p = q := ⟨_, rfl⟩
    have hs := Lib.hid (refStretch_yes k p g wr H.out hk0 hkp)
    rw [hq] at hs hl
    have HQ := Lib.hid hq
    clear hq
    by_cases hc : x < q
    · have e1 : k = ((x + 1) * p - 1) / g := by
        have a := HK.out
        have b := hl.out
        omega
      have E1 := Lib.hid e1
      clear e1
      go_wp2_with (go_at_call 10; refine hs.out.mono ?_; rintro e w1 ⟨rfl, hb1⟩)
      go_ret2
      exact ⟨by rw [← E1.out]; rfl, hb.trans (hb1.mono hb.size)⟩
    · have e1 : k + 1 ≤ ((x + 1) * p - 1) / g := hl.out.2 (by omega)
      have E1 := Lib.hid e1
      clear e1
      go_wp2_with (go_at_call 10; refine hs.out.mono ?_; rintro e w1 ⟨rfl, hb1⟩)
      go_roundw
      case rel => exact ⟨k + 1, rfl, by omega, E1.out, hb.trans (hb1.mono hb.size)⟩
      case measure => simp [intOf]; omega

set_option maxHeartbeats 400000 in
theorem refWorker_no (x p g : Int) (w : World) (h : ¬ wrkOk x p g) :
    Calls Try.prog 20 #[.int .i64 x, .int .i64 p, .int .i64 g] w fun e w' => e = .returned (.tuple #[.int .i64 0, .int .i64 2]) ∧ Below w.heap.size w w' := by
  by_cases hm : mayB p g
  · have H := Lib.hid hm
    by_cases h0 : x < 0
    · clear h hm
      go_enter Try.func20, Try.ntmps20
      go_wp2_with (go_at_call 9; refine (Workers_yes _ _ _ H.out).mono ?_; rintro e w' ⟨rfl, rfl⟩)
      go_ret2
      exact ⟨rfl, Below.refl _ _⟩
    · have h1 : g ≤ x := by
        by_cases h2 : x < g
        · exact absurd ⟨hm, by omega, h2⟩ h
        · omega
      clear h hm
      go_enter Try.func20, Try.ntmps20
      go_wp2_with (go_at_call 9; refine (Workers_yes _ _ _ H.out).mono ?_; rintro e w' ⟨rfl, rfl⟩)
      go_ret2
      exact ⟨rfl, Below.refl _ _⟩
  · have H := Lib.hid hm
    clear hm h
    go_enter Try.func20, Try.ntmps20
    go_wp2_with (go_at_call 9; refine (Workers_no _ _ _ H.out).mono ?_; rintro e w' ⟨rfl, rfl⟩)
    go_ret2
    exact ⟨rfl, Below.refl _ _⟩

theorem refWorker_any (x p g : Int) (w : World) :
    Calls Try.prog 20 #[.int .i64 x, .int .i64 p, .int .i64 g] w fun e w' => e = .returned (.tuple #[.int .i64 (wrk x p g), .int .i64 (wrkE x p g)]) ∧ Below w.heap.size w w' := by
  unfold wrk wrkE
  by_cases h : wrkOk x p g
  · rw [if_pos h, if_pos h]; exact refWorker_yes x p g w h.1 h.2.1 h.2.2
  · rw [if_neg h, if_neg h]; exact refWorker_no x p g w h

def grpE (l : List UInt8) (g : Int) : Int := if 1 ≤ g ∧ g ≤ 32768 then (if 256 < l.length then 3 else 0) else 2
def grp (l : List UInt8) (g : Int) : Int := if grpE l g = 0 then hash l % g else 0
theorem mayB_one (g : Int) : mayB 1 g ↔ 1 ≤ g ∧ g ≤ 32768 := by unfold mayB; omega
theorem grpE_0 {l : List UInt8} {g : Int} (h : 1 ≤ g ∧ g ≤ 32768) (h2 : ¬ 256 < l.length) : grpE l g = 0 := by unfold grpE; rw [if_pos h, if_neg h2]
theorem grpE_3 {l : List UInt8} {g : Int} (h : 1 ≤ g ∧ g ≤ 32768) (h2 : 256 < l.length) : grpE l g = 3 := by unfold grpE; rw [if_pos h, if_pos h2]
theorem grpE_2 {l : List UInt8} {g : Int} (h : ¬ (1 ≤ g ∧ g ≤ 32768)) : grpE l g = 2 := by unfold grpE; rw [if_neg h]
theorem grp_0 {l : List UInt8} {g : Int} (h : grpE l g = 0) : grp l g = hash l % g := by unfold grp; rw [if_pos h]
theorem grp_n {l : List UInt8} {g : Int} (h : grpE l g ≠ 0) : grp l g = 0 := by unfold grp; rw [if_neg h]

set_option maxHeartbeats 400000 in
theorem Group_any (s : ByteArray) (g : Int) (w : World) (hs : s.size ≤ maxLen) :
    Calls Try.prog 16 #[.string s, .int .i64 g] w fun e w' => e = .returned (.tuple #[.int .i64 (grp s.data.toList g), .int .i64 (grpE s.data.toList g)]) ∧ w = w' := by
  have hl : s.data.toList.length = s.size := by simp
  by_cases hg : 1 ≤ g ∧ g ≤ 32768
  · obtain ⟨h1, h2⟩ := id hg
    have H := Lib.hid ((mayB_one g).2 hg)
    by_cases hk : 256 < s.size
    · have e1 := grpE_3 (l := s.data.toList) hg (by omega)
      have e2 := grp_n (l := s.data.toList) (g := g) (by omega)
      rw [e1, e2]
      clear e1 e2 hg hl
      go_enter Try.func16, Try.ntmps16
      go_wp2_with (go_at_call 29; refine (may_yes _ _ _ H.out).mono ?_; rintro e w' ⟨rfl, rfl⟩)
      go_ret2
      exact ⟨rfl, rfl⟩
    · have e1 := grpE_0 (l := s.data.toList) hg (by omega)
      have e2 := grp_0 e1
      rw [e1, e2]
      clear e1 e2 hg hl
      have hh := hash_bd s.data.toList
      obtain ⟨hh1, hh2⟩ := hh
      have hq := Lib.hid (hash_any s w hs)
      generalize hash s.data.toList = q at hq hh1 hh2 ⊢
      have m1 : 0 ≤ q % g := Int.emod_nonneg _ (by omega)
      have m2 : q % g < g := Int.emod_lt_of_pos _ (by omega)
      go_enter Try.func16, Try.ntmps16
      go_wp2_with (first | (go_at_call 29; refine (may_yes _ _ _ H.out).mono ?_; rintro e w' ⟨rfl, rfl⟩) | (go_at_call 23; refine hq.out.mono ?_; rintro e w' ⟨rfl, rfl⟩))
      go_ret2
      exact ⟨rfl, rfl⟩
  · have e1 := grpE_2 (l := s.data.toList) hg
    have e2 := grp_n (l := s.data.toList) (g := g) (by omega)
    rw [e1, e2]
    have H := Lib.hid (fun h => hg ((mayB_one g).1 h))
    clear e1 e2 hg hl
    go_enter Try.func16, Try.ntmps16
    go_wp2_with (go_at_call 29; refine (may_no _ _ _ H.out).mono ?_; rintro e w' ⟨rfl, rfl⟩)
    go_ret2
    exact ⟨rfl, rfl⟩

set_option maxHeartbeats 400000 in
theorem refGroup_any (s : ByteArray) (g : Int) (w : World) (hs : s.size ≤ maxLen) :
    Calls Try.prog 19 #[.string s, .int .i64 g] w fun e w' => e = .returned (.tuple #[.int .i64 (grp s.data.toList g), .int .i64 (grpE s.data.toList g)]) ∧ w = w' := by
  have hl : s.data.toList.length = s.size := by simp
  by_cases hg : 1 ≤ g ∧ g ≤ 32768
  · obtain ⟨h1, h2⟩ := id hg
    skip
    by_cases hk : 256 < s.size
    · have e1 := grpE_3 (l := s.data.toList) hg (by omega)
      have e2 := grp_n (l := s.data.toList) (g := g) (by omega)
      rw [e1, e2]
      clear e1 e2 hg hl
      go_enter Try.func19, Try.ntmps19
      go_wp2_with (go_at_call 31; refine (Groups_yes _ _ h1 h2).mono ?_; rintro e w' ⟨rfl, rfl⟩)
      go_ret2
      exact ⟨rfl, rfl⟩
    · have e1 := grpE_0 (l := s.data.toList) hg (by omega)
      have e2 := grp_0 e1
      rw [e1, e2]
      clear e1 e2 hg hl
      have hh := hash_bd s.data.toList
      obtain ⟨hh1, hh2⟩ := hh
      have hq := Lib.hid (refHash_any s w hs)
      generalize hash s.data.toList = q at hq hh1 hh2 ⊢
      have m1 : 0 ≤ q % g := Int.emod_nonneg _ (by omega)
      have m2 : q % g < g := Int.emod_lt_of_pos _ (by omega)
      go_enter Try.func19, Try.ntmps19
      go_wp2_with (first | (go_at_call 31; refine (Groups_yes _ _ h1 h2).mono ?_; rintro e w' ⟨rfl, rfl⟩) | (go_at_call 24; refine hq.out.mono ?_; rintro e w' ⟨rfl, rfl⟩))
      go_ret2
      exact ⟨rfl, rfl⟩
  · have e1 := grpE_2 (l := s.data.toList) hg
    have e2 := grp_n (l := s.data.toList) (g := g) (by omega)
    rw [e1, e2]
    have H := Lib.hid hg
    clear e1 e2 hg hl
    go_enter Try.func19, Try.ntmps19
    go_wp2_with (go_at_call 31; refine (Groups_no _ _ H.out).mono ?_; rintro e w' ⟨rfl, rfl⟩)
    go_ret2
    exact ⟨rfl, rfl⟩

def ofE (l : List UInt8) (p g : Int) : Int := if mayB p g then grpE l g else 2
def ofW (l : List UInt8) (p g : Int) : Int := if ofE l p g = 0 then wrk (grp l g) p g else 0
theorem grpE_may {l : List UInt8} {p g : Int} (h : mayB p g) : grpE l g = 0 ∨ grpE l g = 3 := by
  unfold grpE; obtain ⟨h1, h2, _, _⟩ := h; rw [if_pos ⟨h1, h2⟩]; split <;> simp
theorem grp_range {l : List UInt8} {p g : Int} (h : mayB p g) : 0 ≤ grp l g ∧ grp l g < g := by
  obtain ⟨h1, h2, _, _⟩ := h
  unfold grp; split
  · exact ⟨Int.emod_nonneg _ (by omega), Int.emod_lt_of_pos _ (by omega)⟩
  · omega
theorem wrkE_grp {l : List UInt8} {p g : Int} (h : mayB p g) : wrkE (grp l g) p g = 0 := by
  unfold wrkE; rw [if_pos ⟨h, grp_range h⟩]

set_option maxHeartbeats 400000 in
theorem Of_any (s : ByteArray) (p g : Int) (w : World) (hs : s.size ≤ maxLen) :
    Calls Try.prog 21 #[.string s, .int .i64 p, .int .i64 g] w fun e w' => e = .returned (.tuple #[.int .i64 (ofW s.data.toList p g), .int .i64 (ofE s.data.toList p g)]) ∧ Below w.heap.size w w' := by
  by_cases hm : mayB p g
  · have e1 : ofE s.data.toList p g = grpE s.data.toList g := by unfold ofE; rw [if_pos hm]
    have H := Lib.hid hm
    have hq := Lib.hid (Group_any s g w hs)
    rcases grpE_may (l := s.data.toList) hm with h0 | h3
    · have e2 : ofW s.data.toList p g = wrk (grp s.data.toList g) p g := by unfold ofW; rw [e1, if_pos h0]
      rw [e2, e1, h0]
      rw [h0] at hq
      have hw := Lib.hid (Worker_any (grp s.data.toList g) p g w)
      rw [wrkE_grp hm] at hw
      clear e1 e2 hm h0
      generalize grp s.data.toList g = q at hq hw ⊢
      generalize wrk q p g = v at hw ⊢
      go_enter Try.func21, Try.ntmps21
      go_wp2_with (first | (go_at_call 29; refine (may_yes _ _ _ H.out).mono ?_; rintro e w' ⟨rfl, rfl⟩) | (go_at_call 16; refine hq.out.mono ?_; rintro e w' ⟨rfl, rfl⟩) | (go_at_call 18; refine hw.out.mono ?_; rintro e w1 ⟨rfl, hb⟩))
      go_ret2
      exact ⟨rfl, hb⟩
    · have e2 : ofW s.data.toList p g = 0 := by unfold ofW; rw [e1, if_neg (by omega)]
      rw [e2, e1, h3]
      rw [h3] at hq
      clear e1 e2 hm h3
      generalize grp s.data.toList g = q at hq ⊢
      go_enter Try.func21, Try.ntmps21
      go_wp2_with (first | (go_at_call 29; refine (may_yes _ _ _ H.out).mono ?_; rintro e w' ⟨rfl, rfl⟩) | (go_at_call 16; refine hq.out.mono ?_; rintro e w' ⟨rfl, rfl⟩))
      go_ret2
      exact ⟨rfl, Below.refl _ _⟩
  · have e1 : ofE s.data.toList p g = 2 := by unfold ofE; rw [if_neg hm]
    have e2 : ofW s.data.toList p g = 0 := by unfold ofW; rw [e1, if_neg (by omega)]
    rw [e2, e1]
    have H := Lib.hid hm
    clear e1 e2 hm
    go_enter Try.func21, Try.ntmps21
    go_wp2_with (go_at_call 29; refine (may_no _ _ _ H.out).mono ?_; rintro e w' ⟨rfl, rfl⟩)
    go_ret2
    exact ⟨rfl, Below.refl _ _⟩

set_option maxHeartbeats 400000 in
theorem refOf_any (s : ByteArray) (p g : Int) (w : World) (hs : s.size ≤ maxLen) :
    Calls Try.prog 22 #[.string s, .int .i64 p, .int .i64 g] w fun e w' => e = .returned (.tuple #[.int .i64 (ofW s.data.toList p g), .int .i64 (ofE s.data.toList p g)]) ∧ Below w.heap.size w w' := by
  by_cases hm : mayB p g
  · have e1 : ofE s.data.toList p g = grpE s.data.toList g := by unfold ofE; rw [if_pos hm]
    have H := Lib.hid hm
    have hq := Lib.hid (refGroup_any s g w hs)
    rcases grpE_may (l := s.data.toList) hm with h0 | h3
    · have e2 : ofW s.data.toList p g = wrk (grp s.data.toList g) p g := by unfold ofW; rw [e1, if_pos h0]
      rw [e2, e1, h0]
      rw [h0] at hq
      have hw := Lib.hid (refWorker_any (grp s.data.toList g) p g w)
      rw [wrkE_grp hm] at hw
      clear e1 e2 hm h0
      generalize grp s.data.toList g = q at hq hw ⊢
      generalize wrk q p g = v at hw ⊢
      go_enter Try.func22, Try.ntmps22
      go_wp2_with (first | (go_at_call 9; refine (Workers_yes _ _ _ H.out).mono ?_; rintro e w' ⟨rfl, rfl⟩) | (go_at_call 19; refine hq.out.mono ?_; rintro e w' ⟨rfl, rfl⟩) | (go_at_call 20; refine hw.out.mono ?_; rintro e w1 ⟨rfl, hb⟩))
      go_ret2
      exact ⟨rfl, hb⟩
    · have e2 : ofW s.data.toList p g = 0 := by unfold ofW; rw [e1, if_neg (by omega)]
      rw [e2, e1, h3]
      rw [h3] at hq
      clear e1 e2 hm h3
      generalize grp s.data.toList g = q at hq ⊢
      go_enter Try.func22, Try.ntmps22
      go_wp2_with (first | (go_at_call 9; refine (Workers_yes _ _ _ H.out).mono ?_; rintro e w' ⟨rfl, rfl⟩) | (go_at_call 19; refine hq.out.mono ?_; rintro e w' ⟨rfl, rfl⟩))
      go_ret2
      exact ⟨rfl, Below.refl _ _⟩
  · have e1 : ofE s.data.toList p g = 2 := by unfold ofE; rw [if_neg hm]
    have e2 : ofW s.data.toList p g = 0 := by unfold ofW; rw [e1, if_neg (by omega)]
    rw [e2, e1]
    have H := Lib.hid hm
    clear e1 e2 hm
    go_enter Try.func22, Try.ntmps22
    go_wp2_with (go_at_call 9; refine (Workers_no _ _ _ H.out).mono ?_; rintro e w' ⟨rfl, rfl⟩)
    go_ret2
    exact ⟨rfl, Below.refl _ _⟩
end Go.Proofs.Ytdbbipdkaahplaa
