/- The law GroupsDeal. -/
import Derived.Test.YtdbbipdkaahplaaDealNo
import Derived.Test.YtdbbipdkaahplaaKnown
namespace Go.Proofs.Ytdbbipdkaahplaa
open Go.RowKit

theorem addr_add (g o j : Nat) : (⟨g, o, none⟩ : Addr).add j = ⟨g, o + j, none⟩ := by unfold Addr.add; split <;> simp_all
def roomTx : ByteArray := ⟨#[114, 111, 111, 109]⟩

/-- The caller's keys as they are read. -/
theorem Rd.news {w : World} {a : Option Addr} {n cap : Nat} {xs : List Value} (h : Rd w (.slice a n cap) n xs) (hx : xs.length = n) {g o : Nat} (ha : a = some ⟨g, o, none⟩) : ∀ j u, xs[j]? = some u → w.cell? ((⟨g, o, none⟩ : Addr).add j) = some u := by
  obtain ⟨a', cap', hv, _, _, hr⟩ := h
  cases hv
  subst ha
  intro j u hj
  have hl := (List.getElem?_eq_some_iff.1 hj).1
  obtain ⟨g', o', e, _, hc⟩ := hr (by omega)
  cases e
  rw [addr_add]
  exact hc j u hj

theorem room_row {w : World} {B gm n capm : Nat} {ks : List ByteArray} (hn : ks.length = n) (h : w.ownsRow B 9 1 (.slice (some ⟨gm, 0, none⟩) (0 + n + 1) capm) (0 + n + 1) ([] ++ txCells ks ++ [.string roomTx])) :
    Rd w (.slice (some ⟨gm, 0, none⟩) n capm) ks.length (txCells ks) ∧ w.cell? ⟨gm, n, none⟩ = some (.string roomTx) := by
  obtain ⟨g', cap', hv, hb, hg, hc, hm, hcell, _⟩ := ownsRow_open h
  cases hv
  have hl : (txCells ks).length = n := by rw [txCells_length, hn]
  refine ⟨⟨_, _, by rw [hn], by omega, hm, fun _ => ⟨gm, 0, rfl, hg, fun j u hj => ?_⟩⟩, ?_⟩
  · rw [Nat.zero_add]
    refine hcell j u ?_
    rw [List.nil_append, List.getElem?_append_left (List.getElem?_eq_some_iff.1 hj).1]
    exact hj
  · refine hcell n _ ?_
    rw [List.nil_append, List.getElem?_append_right (by omega), hl]
    simp

/-- What stays from the making of m on. -/
structure MS (B : Nat) (w W : World) (m key : Value) (gm n : Nat) (ks : List ByteArray) : Prop where
  below : Below B w W
  rm : Rd W m ks.length (txCells ks)
  rk : Rd W key ks.length (txCells ks)
  room : W.cell? ⟨gm, n, none⟩ = some (.string roomTx)
  lt : gm < W.heap.size
  size : B ≤ W.heap.size
theorem MS.next {B : Nat} {w W W' : World} {m key : Value} {gm n : Nat} {ks : List ByteArray} (h : MS B w W m key gm n ks) (hb : Below W.heap.size W W') : MS B w W' m key gm n ks :=
  ⟨h.below.trans (hb.mono h.size), h.rm.below hb, h.rk.below hb, (hb.cell (p := ⟨gm, n, none⟩) h.lt).trans h.room, Nat.lt_of_lt_of_le h.lt hb.size, Nat.le_trans h.size hb.size⟩

set_option maxRecDepth 100000 in
set_option maxHeartbeats 2000000 in
theorem dealLaw_fail (p g : Int) (ad : Addr) (cap : Nat) (ks : List ByteArray) (w : World) (hn : ¬ fits p g ks) (hk : ks.length ≤ 1048576) (hs : ∀ k ∈ ks, k.size ≤ maxLen) (hr : Rd w (.slice (some ad) ks.length cap) ks.length (txCells ks)) (hw : ∀ j u, (txCells ks)[j]? = some u → w.cell? (ad.add j) = some u) :
    Calls Try.prog 7 #[.int .i64 p, .int .i64 g, .slice (some ad) ks.length cap] w fun e w' => e = .returned (.bool true) ∧ Below w.heap.size w w' := by
  obtain ⟨i0, hi0, hz0, hz1, hz2⟩ := info_parts strInfo
  have HF := Lib.hid hn
  have HS := Lib.hid hs
  obtain ⟨n, hnn⟩ : ∃ n, ks.length = n := ⟨_, rfl⟩
  have HN := Lib.hid hnn
  have HC := Lib.hid (show n ≤ cap ∧ cap ≤ maxLen by obtain ⟨_, _, hv, h1, h2, _⟩ := hr; cases hv; exact ⟨hnn ▸ h1, h2⟩)
  obtain ⟨hc1, hc2⟩ := HC.out
  unfold maxLen at hc2
  have HW := Lib.hid hw
  have HE := Lib.hid (dealE_ne p g)
  have HDL := Lib.hid (fun (W : World) (v : Value) (h : Rd W v ks.length (txCells ks)) => Deal_fail p g v ks W hn (by omega) hs h)
  have HRL := Lib.hid (fun (W : World) (v : Value) (h : Rd W v ks.length (txCells ks)) => refDeal_fail p g v ks W hn (by omega) hs h)
  have HST := Lib.hid (fun (W : World) (v1 v2 : Value) (h1 : Rd W v1 ks.length (txCells ks)) (h2 : Rd W v2 ks.length (txCells ks)) => SameTexts_any v1 v2 ks W h1 h2)
  have HRK : Hid (Rd w (.slice (some ad) n cap) ks.length (txCells ks)) := by have h := hr; rw [show (Value.slice (some ad) ks.length cap) = .slice (some ad) n cap by rw [hnn]] at h; exact h
  rw [hnn] at hk ⊢
  clear hn hs hr hnn hw
  obtain ⟨B, hB⟩ : ∃ B, w.heap.size = B := ⟨_, rfl⟩
  rw [hB]
  generalize hde : dealE p g = c at HE HDL HRL
  go_enter Try.func7, Try.ntmps7
  go_wp2_with (first
    | (at_builtin; refine wpList_append_own _ rfl _ _ 56 rfl B 9 i0 _ 1 16 Try.underlying56 hi0 hz0 hz1 hz2 rfl (by decide) _ 0 [] rfl (World.ownsRow_nil _ _ _ _) ad n cap (txCells ks) rfl (by rw [txCells_length, HN.out, Nat.mul_one]) HW.out (by intro u hu; simp only [txCells, List.mem_map] at hu; obtain ⟨x, _, rfl⟩ := hu; simp [Value.oneCell']) (by simp only [maxLen]; omega) (by omega) (by omega) ?_; intro v1 w1 hown1 hgrow1 _
       have hsz1 := hgrow1.size
       have HO1 := Lib.hid (hown1.alloc (.cells #[.string roomTx] 9))
       have HG1 := Lib.hid hgrow1
       clear hown1 hgrow1)
    | (at_builtin; refine wpList_append_own _ rfl _ _ 56 rfl B 9 i0 _ 1 16 Try.underlying56 hi0 hz0 hz1 hz2 rfl (by decide) _ (0 + n) ([] ++ txCells ks) rfl HO1.out ⟨w1.heap.size, 0, none⟩ 1 1 [.string roomTx] rfl rfl (cell_one_new _ _ _) (by simp [Value.oneCell']) (by simp only [maxLen]; omega) (by omega) (by simp; omega) ?_; intro v2 w2 hown2 hgrow2 _
       obtain ⟨gm, capm, rfl, hgm, hgl, hcm, hcm2, hcell, hfz⟩ := ownsRow_open hown2
       obtain ⟨hrm, fr⟩ := room_row HN.out hown2
       have hb2 : Below B w w2 := (((Below.refl B w).grown HG1.out (by omega) (fun r e => by cases e)).alloc (by omega) (.cells #[.string roomTx] 9)).grown hgrow2 (by simp; omega) (fun r e => (HO1.out.lt r e).1)
       have HM2 : Hid (MS B w w2 (.slice (some ⟨gm, 0, none⟩) n capm) (.slice (some ad) n cap) gm n ks) := ⟨hb2, hrm, HRK.out.below (hB ▸ hb2), fr, hgl, by have := hb2.size; omega⟩
       unfold maxLen at hcm2
       clear hcell hfz hown2 hgrow2 hrm hb2 fr)
    | (go_at_call 25; (with_reducible refine (HDL.out _ _ HM2.out.rm).mono ?_); rintro e w3 ⟨rfl, hb3⟩; have HM3 := Lib.hid (HM2.out.next hb3); clear hb3 HM2)
    | (go_at_call 25; (with_reducible refine (HDL.out _ _ HM3.out.rm).mono ?_); rintro e w4 ⟨rfl, hb4⟩; have HM4 := Lib.hid (HM3.out.next hb4); clear hb4 HM3)
    | (go_at_call 26; (with_reducible refine (HRL.out _ _ HM4.out.rk).mono ?_); rintro e w5 ⟨rfl, hb5⟩; have HM5 := Lib.hid (HM4.out.next hb5); clear hb5 HM4)
    | (go_at_call 14; (with_reducible refine (num_any _ _).mono ?_); rintro e w' ⟨rfl, rfl⟩)
    | (go_at_call 27; (with_reducible refine (HST.out _ _ _ HM5.out.rm HM5.out.rk).mono ?_); rintro e w6 ⟨rfl, hb6⟩; have HM6 := Lib.hid (HM5.out.next hb6); have fr : w6.cell? ⟨gm, n, none⟩ = some (.string ⟨#[114, 111, 111, 109]⟩) := HM6.out.room; clear hb6 HM5))
  go_loopw [15] (fun i wr => i = .int .i64 0 ∧ wr = w6) (fun _ _ => 0)
  case atStart => exact ⟨rfl, rfl⟩
  case round =>
    obtain ⟨rfl, rfl⟩ := hrel
    go_wp2
    obtain ⟨w6, rfl⟩ : ∃ w6, w6 = wr := ⟨_, rfl⟩
    go_loopw [17] (fun i wr => i = .int .i64 0 ∧ wr = w6) (fun _ _ => 0)
    case atStart => exact ⟨rfl, rfl⟩
    case round =>
      obtain ⟨rfl, rfl⟩ := hrel
      have hc1 : (c != 0) = true := by simpa using HE.out
      have hc0 : (c == 0) = false := by simpa using HE.out
      go_wp2_with (first
        | (go_at_call 27; (with_reducible refine (HST.out _ _ _ HM6.out.rm HM6.out.rk).mono ?_); rintro e w7 ⟨rfl, hb7⟩; have HM7 := Lib.hid (HM6.out.next hb7); clear hb7 HM6)
        | (go_at_call 11; (with_reducible refine (known_any _).mono ?_); rintro e w8 ⟨rfl, hb8⟩))
      have := HM7.out.below.trans (hb8.mono HM7.out.size)
      first | exact ⟨rfl, this⟩ | (go_ret; exact ⟨rfl, this⟩)
end Go.Proofs.Ytdbbipdkaahplaa
