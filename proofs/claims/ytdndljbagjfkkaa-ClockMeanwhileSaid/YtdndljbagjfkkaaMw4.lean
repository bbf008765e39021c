/- ClockMeanwhile, walked. -/
import Derived.Test.YtdndljbagjfkkaaMw3
namespace Go.Proofs.Ytdndljbagjfkkaa
open Go.RowKit Go.Shelf Go.Lib
attribute [local go_sem] Oper.semAt_some wide_fn wide_depth wide_fn_in wide_depth_in
theorem mw_end (N B4 D : Nat) (w W : World) (tm : Array Value) (hN : w.heap.size = N) (hb : Below N w W) (hR : Boxed W B4 4 (.bool true))
    (h1 : W.heap[D]? = some (.deferred (some []))) (hg1 : N ≤ D)
    (ht : tm[4]?.getD undef = .pointer (some ⟨B4, 0, none⟩)) :
    LeavesInM Fence.wide 10 Try.prog Try.f4 tm (fun e w' => e = Ending.returned (.bool true) ∧ Below w.heap.size w w') [{ target := .collected D, args := #[] }] .returning W := by
  subst hN
  have hb1 := hb.trans (belowK_b (n₀ := w.heap.size) (w := w) (Nat.le_refl _) W D _ (.deferred none) hg1 h1 rfl rfl)
  have hr1 : Boxed (W.putObj D (.deferred none)) B4 4 (.bool true) := hR.kept (grownBy_putObj' W D (.deferred none)) (fun e' => by
    cases e'
    rw [show W.heap[B4]? = _ from hR] at h1; cases h1)
  refine ⟨by simp, .inl ⟨_, _, rfl, run_takeDeferred h1, ?_⟩⟩
  refine ⟨.bool true, ?_, rfl, hb1⟩
  have hc := hr1.cell
  simp [results, Try.f4, go_sem, ht, hc]
theorem mw_b5 {w1 w3 : World} {c : Nat} (d : Nat) (hb : Below (w1.alloc (.cells #[.pointer (some ⟨c, 0, none⟩)] 24)).heap.size (w1.alloc (.cells #[.pointer (some ⟨c, 0, none⟩)] 24)) w3) :
    w1.heap.size + 1 ≤ w3.heap.size ∧ Boxed (w3.alloc (.cells #[.pointer (some ⟨d, 0, none⟩)] 40)) w1.heap.size 24 (.pointer (some ⟨c, 0, none⟩)) ∧ Boxed (w3.alloc (.cells #[.pointer (some ⟨d, 0, none⟩)] 40)) w3.heap.size 40 (.pointer (some ⟨d, 0, none⟩)) ∧ Below w1.heap.size w1 w3 ∧ Below w3.heap.size w3 (w3.alloc (.cells #[.pointer (some ⟨d, 0, none⟩)] 40)) := by
  have h1 : (w1.alloc (.cells #[.pointer (some ⟨c, 0, none⟩)] 24)).heap.size = w1.heap.size + 1 := by simp
  have hs := hb.size
  have hk : Boxed w3 w1.heap.size 24 (.pointer (some ⟨c, 0, none⟩)) := (hb.block w1.heap.size (by omega)).trans (Boxed.new w1 24 (.pointer (some ⟨c, 0, none⟩)))
  exact ⟨by omega, hk.alloc _, Boxed.new w3 _ _, (below_alloc w1 _).trans (hb.mono (by omega)), below_alloc w3 _⟩
theorem mw_b6 {wl w5 : World} {B : Nat} {t : TypeId} {v : Value} (dw : Nat) (hb : Below wl.heap.size wl w5) (h : Boxed wl B t v) : Boxed (w5.alloc (.cells #[.pointer (some ⟨dw, 0, none⟩)] 40)) B t v :=
  Boxed.alloc ((hb.block B h.lt).trans h : Boxed w5 B t v) _
/-- The copy of the document's clock: where its holds lie. -/
theorem mw_was {wl w5 : World} {dw : Nat} {Lm : List Int} {H : List Hd} (h : Rc w5 (Nw wl w5) dw Lm H) : ∃ A capw, w5.cell? ⟨dw, 1, none⟩ = some (.slice A H.length capw) ∧ Rw w5 A H ∧ (wl.heap.size ≤ dw ∧ dw < w5.heap.size) ∧ ∀ g, A = some ⟨g, 0, none⟩ → wl.heap.size ≤ g ∧ g < w5.heap.size := by
  obtain ⟨A, cap, c1, _, hx, _⟩ := h.holds
  obtain ⟨lv, hv, hh⟩ := h
  refine ⟨A, cap, c1, fun k x hk => ?_, hh.xc, fun g e => ?_⟩
  · obtain ⟨g, rfl, hc⟩ := hx (by have := (List.getElem?_eq_some_iff.1 hk).1; omega)
    exact ⟨g, rfl, Clock.block_lt (hc k x hk).1, (hc k x hk).1, (hc k x hk).2⟩
  · subst e
    have e2 : some hv = some (Value.slice (some ⟨g, 0, none⟩) H.length cap) := (hh.bk.cell 1).symm.trans c1
    cases e2
    exact hh.xh g rfl
set_option maxRecDepth 100000 in
set_option maxHeartbeats 4000000 in
theorem clockMeanwhile_walk (A : Option Addr) (n cap : Nat) (ho : List Sp) (Ab : Option Addr) (m cap2 : Nat) (mo : List Sp) (w : World)
    (hr : Rd w (.slice A n cap) n (spc ho)) (hl : ho.length = n) (hnm : ∀ s ∈ ho, s.name.size ≤ maxLen) (hs : Rd w (.slice Ab m cap2) m (spc mo)) (hml : mo.length = m) (hnm2 : ∀ s ∈ mo, s.name.size ≤ maxLen) (hn : n ≤ 2199023255488) :
    Calls Try.prog 4 #[.slice A n cap, .slice Ab m cap2] w fun e w' => e = .returned (.bool true) ∧ Below w.heap.size w w' := by
  have HRA := Lib.hid hr
  have HRB := Lib.hid hs
  have HLA := Lib.hid hl
  have HLB := Lib.hid hml
  have HNA := Lib.hid hnm
  have HNB := Lib.hid hnm2
  have HNC : Hid (∀ W, Calls Try.prog 8 #[.int .i64 1] W fun e w' => ∃ c, e = .returned (.tuple #[.pointer (some ⟨c, 0, none⟩), .int .i64 0]) ∧ Ck w' (Nw W w') c (List.replicate 1 (-4611686018427387904)) 0 (fun _ => none) ∧ Below W.heap.size W w') := fun W => New_ok 1 W (by decide) (by decide)
  have HNR : Hid (∀ W, Calls Try.prog 17 #[.int .i64 1] W fun e w' => ∃ c, e = .returned (.tuple #[.pointer (some ⟨c, 0, none⟩), .int .i64 0]) ∧ Rc w' (Nw W w') c (List.replicate 1 (-4611686018427387904)) [] ∧ Below W.heap.size W w') := fun W => rNew_ok 1 W (by decide) (by decide)
  clear hr hl hnm hs hml hnm2
  have HBA : Hid (Below w.heap.size w ((w.alloc (.cells #[.slice Ab m cap2] 22)).alloc (.cells #[.bool false] 4))) := ((Below.refl _ w).alloc (Nat.le_refl _) _).alloc (by simp) _
  have HSA : Hid (((w.alloc (.cells #[.slice Ab m cap2] 22)).alloc (.cells #[.bool false] 4)).heap.size = w.heap.size + 2) := by simp [Hid]
  have HB3 : Hid (Boxed ((w.alloc (.cells #[.slice Ab m cap2] 22)).alloc (.cells #[.bool false] 4)) w.heap.size 22 (.slice Ab m cap2)) := (Boxed.new w _ _).alloc _
  have HB4 : Hid (Boxed ((w.alloc (.cells #[.slice Ab m cap2] 22)).alloc (.cells #[.bool false] 4)) (w.heap.size + 1) 4 (.bool false)) := by
    have := Boxed.new (w.alloc (.cells #[.slice Ab m cap2] 22)) 4 (.bool false)
    rwa [World.size_alloc] at this
  refine (callsIn_wide (n := 10)).1 ?_
  refine callsIn_of_wp_marks Try.func4 rfl trivial ?_ rfl
  simp only [Try.ntmps4, List.size_toArray, List.length_cons, List.length_nil, Nat.reduceAdd, Nat.reduceSub, Array.replicate_succ, Array.replicate_zero, List.push_toArray, List.append_toArray, List.nil_append, List.cons_append]
  gi_wp2_with (first
    | (gi_at_call 8; (with_reducible refine (callsIn_wide.2 (HNC.out _)).mono ?_); rintro e w1 ⟨c, rfl, hk, hb⟩
       have HC := Lib.hid hk
       have HB1 := Lib.hid hb
       clear hk hb)
    | (gi_at_call 17; (with_reducible refine (callsIn_wide.2 (HNR.out _)).mono ?_); rintro e w3 ⟨d, rfl, hk, hb⟩
       have HR := Lib.hid hk
       have HB2 := Lib.hid hb
       obtain ⟨h1, h2, h3, h4, h5⟩ := mw_b5 d hb
       have HS2 := Lib.hid h1
       have HB5 := Lib.hid h2
       have HB7 := Lib.hid h3
       have HB13 := Lib.hid h4
       have HB34 := Lib.hid h5
       clear h1 h2 h3 h4 h5
       have c5 := HB5.out.cell
       have c7 := HB7.out.cell
       clear hk hb)
    | (gi_at_call 9; (with_reducible refine (callsIn_wide.2 (num_any _ _)).mono ?_); rintro e wn ⟨rfl, rfl⟩))
  obtain ⟨nb, hp⟩ := PrS.made HC.out HR.out HT.nil (fun x hx => by simp at hx) (by simp) (HB13.out.trans (HB34.out.mono HB13.out.size)) HB34.out (Nat.le_refl 0) (Nat.le_refl 0)
  have HP := Lib.hid hp
  have HB04 : Hid (Below w.heap.size w (w3.alloc (.cells #[.pointer (some ⟨d, 0, none⟩)] 40))) := HBA.out.trans ((HB1.out.trans ((HB13.out.trans (HB34.out.mono HB13.out.size)).mono HB1.out.size)).mono HBA.out.size)
  have HSZ : Hid (w.heap.size + 2 ≤ w1.heap.size ∧ w1.heap.size + 1 ≤ w3.heap.size ∧ (w3.alloc (.cells #[.pointer (some ⟨d, 0, none⟩)] 40)).heap.size = w3.heap.size + 1) := by
    refine ⟨?_, HS2.out, by simp⟩
    have h1 := HB1.out.size
    have h2 := HSA.out
    omega
  have HX0 : Hid (∀ b, (Nw ((w.alloc (.cells #[.slice Ab m cap2] 22)).alloc (.cells #[.bool false] 4)) w1 b ∨ Nw (w1.alloc (.cells #[.pointer (some ⟨c, 0, none⟩)] 24)) w3 b) → w.heap.size + 2 ≤ b ∧ b ≠ w1.heap.size ∧ b < w3.heap.size) := fun b hb => by
    obtain ⟨z1, z2, z3⟩ := HSZ.out
    have hsa := HSA.out
    rcases hb with ⟨h1, h2⟩ | ⟨h1, h2⟩
    · exact ⟨by omega, by omega, by omega⟩
    · rw [World.size_alloc] at h1
      exact ⟨by omega, by omega, by omega⟩
  have HB34' := Lib.hid (HB04.out.trans ((Below.refl _ _).mono HB04.out.size))
  have B3' : Hid (Boxed (w3.alloc (.cells #[.pointer (some ⟨d, 0, none⟩)] 40)) w.heap.size 22 (.slice Ab m cap2)) := ((HB1.out.trans ((HB13.out.trans (HB34.out.mono HB13.out.size)).mono HB1.out.size)).block _ (by have := HSA.out; omega)).trans HB3.out
  have B4' : Hid (Boxed (w3.alloc (.cells #[.pointer (some ⟨d, 0, none⟩)] 40)) (w.heap.size + 1) 4 (.bool false)) := ((HB1.out.trans ((HB13.out.trans (HB34.out.mono HB13.out.size)).mono HB1.out.size)).block _ (by have := HSA.out; omega)).trans HB4.out
  clear c5 c7 hp HB34 HB34' HS2
  generalize hX0 : (fun k => Nw ((w.alloc (.cells #[.slice Ab m cap2] 22)).alloc (.cells #[.bool false] 4)) w1 k ∨ Nw (w1.alloc (.cells #[.pointer (some ⟨c, 0, none⟩)] 24)) w3 k) = X0 at HP
  have HX1 : Hid (∀ b, X0 b → w.heap.size + 2 ≤ b ∧ b ≠ w1.heap.size ∧ b < w3.heap.size) := fun b hb => by subst hX0; exact HX0.out b hb
  clear hX0 HX0 HC HR HBA HB1 HB13 HSA HB3 HB4
  revert HP HB5 HB7 HB04 HSZ B3' B4'
  generalize (w3.alloc (.cells #[.pointer (some ⟨d, 0, none⟩)] 40)) = w4
  intro HB5 HB7 HB04 HSZ B3' B4' HP
  refine mw_loop n cap w.heap.size (w.heap.size + 1) w1.heap.size w3.heap.size c d nb A _ ho X0 w4 HB5.out HB7.out (HRA.out.below HB04.out) HLA.out HNA.out
    (fun h0 g off e => by
      obtain ⟨_, _, hv, _, _, hxx⟩ := HRA.out
      cases hv
      obtain ⟨g', off', e', hg', _⟩ := hxx h0
      rw [e] at e'; cases e'; exact hg')
    (by omega) (fun b hb => by obtain ⟨h1, h2, h3⟩ := HX1.out b hb; exact ⟨by omega, h2, by omega⟩) ⟨⟨X0, [], HP.out, fun b hb => .inl hb, Nat.le_refl _⟩, Only.refl _ _⟩ _ _ _ _ _ _ _ _ _ _ _ _ _ _ _ _ _ _ _ _ _ _ _ _ _ _ _ _ _ _ _ _ _ _ _ _ _ _ _ _ _ _ _ _ _ _ _ _ _ _ _ _ _ _ _ _ _ _ _ _ _ _ _ _ _ _ _ _ _ _ _ _ _ _ _ _ _ _ _ _ _ _ _ _ _ _ _ _ _ _ _ _ _ _ _ _ _ _ _ _ _ _ _ _ _ _ _ _ _ _ _ _ _ _ _ _ _ _ _ _ _ _ _ _ _ _ _ _ _ _ _ _ _ _ _ ?_
  rintro _ _ _ _ _ _ _ _ _ _ _ _ _ _ _ _ _ _ _ _ _ _ _ _ _ _ _ _ _ _ _ _ _ wl hM
  obtain ⟨⟨X, H, hp1, hsub, hlen⟩, hon⟩ := hM
  have HBL : Hid (Below w.heap.size w wl) := HB04.out.trans (hon.below (fun b hb => by have := (HX1.out b hb).1; omega) HB04.out.size)
  have hX0n : ∀ b, b < w4.heap.size → (b < w.heap.size + 2 ∨ b = w1.heap.size ∨ w3.heap.size ≤ b) → wl.heap[b]? = w4.heap[b]? := fun b h1 h2 => hon.block b h1 (fun h => by have := HX1.out b h; omega)
  obtain ⟨z1, z2, z3⟩ := HSZ.out
  have C3 : Hid (Boxed wl w.heap.size 22 (.slice Ab m cap2)) := (hX0n _ (by omega) (by omega)).trans B3'.out
  have C4 : Hid (Boxed wl (w.heap.size + 1) 4 (.bool false)) := (hX0n _ (by omega) (by omega)).trans B4'.out
  have C5 : Hid (Boxed wl w1.heap.size 24 (.pointer (some ⟨c, 0, none⟩))) := (hX0n _ (by omega) (by omega)).trans HB5.out
  have C7 : Hid (Boxed wl w3.heap.size 40 (.pointer (some ⟨d, 0, none⟩))) := (hX0n _ (by omega) (by omega)).trans HB7.out
  have hwl : w3.heap.size + 1 ≤ wl.heap.size := by have := hon.size; omega
  have HXB : Hid (∀ b, X b → w.heap.size + 2 ≤ b ∧ b ≠ w1.heap.size ∧ b ≠ w3.heap.size ∧ b < wl.heap.size) := fun b hb => by
    have hlt := hp1.xl b hb
    rcases hsub b hb with h | h
    · obtain ⟨h1, h2, h3⟩ := HX1.out b h; exact ⟨h1, h2, by omega, hlt⟩
    · exact ⟨by omega, by omega, by omega, hlt⟩
  have HP1 := Lib.hid hp1
  obtain ⟨T, ht, Xc, Xr, nn, hc, hr, h1, h2, h3⟩ := hp1.ex
  have HRC := Lib.hid (rCopy_any hr (by omega))
  have HLEN := Lib.hid hlen
  have HWL := Lib.hid hwl
  have c7 := C7.out.cell
  have hfn : ∀ (b : Nat) W, (binOp .eql 46 (.func (.func 44) #[] #[.pointer (some ⟨b, 0, none⟩)]) .nilFunc).run Try.prog W = .ok (.bool false) W := fun b W => by kernel_rfl
  clear hX0n hon hsub hlen hp1 ht hc hr h1 h2 h3 hwl z1 z2 z3 HB5 HB7 HP B3' B4'
  gi_wp2_with (first
    | (gi_at_call 19; (with_reducible refine (callsIn_wide.2 HRC.out).mono ?_); rintro e w5 ⟨dw, rfl, hk, hb⟩
       have HDW := Lib.hid hk
       have HB5 := Lib.hid hb
       have c5 := (mw_b6 dw hb C5.out).cell
       clear hk hb)
    | (gi_at_call 20; (with_reducible refine (callsIn_wide.2 (Holds_any _ _)).mono ?_); rintro e w' ⟨rfl, rfl⟩))
  obtain ⟨A2, capw, cw, hrw, hdw, hA2⟩ := mw_was HDW.out
  have hs5 := HB5.out.size
  have HA : Below w5.heap.size w5 (((w5.alloc (.cells #[.pointer (some ⟨dw, 0, none⟩)] 40)).alloc (.cells #[.pointer (some ⟨c, 0, none⟩)] 24)).alloc (.cells #[.int .i64 0] 3)) := (((Below.refl _ w5).alloc (Nat.le_refl _) _).alloc (by simp) _).alloc (by simp; omega) _
  have HS8 : (((w5.alloc (.cells #[.pointer (some ⟨dw, 0, none⟩)] 40)).alloc (.cells #[.pointer (some ⟨c, 0, none⟩)] 24)).alloc (.cells #[.int .i64 0] 3)).heap.size = w5.heap.size + 3 := by simp
  have D10 : Boxed (((w5.alloc (.cells #[.pointer (some ⟨dw, 0, none⟩)] 40)).alloc (.cells #[.pointer (some ⟨c, 0, none⟩)] 24)).alloc (.cells #[.int .i64 0] 3)) w5.heap.size 40 (.pointer (some ⟨dw, 0, none⟩)) := ((Boxed.new w5 _ _).alloc _).alloc _
  have D11 : Boxed (((w5.alloc (.cells #[.pointer (some ⟨dw, 0, none⟩)] 40)).alloc (.cells #[.pointer (some ⟨c, 0, none⟩)] 24)).alloc (.cells #[.int .i64 0] 3)) (w5.heap.size + 1) 24 (.pointer (some ⟨c, 0, none⟩)) := by
    have := (Boxed.new (w5.alloc (.cells #[.pointer (some ⟨dw, 0, none⟩)] 40)) 24 (.pointer (some ⟨c, 0, none⟩))).alloc (.cells #[.int .i64 0] 3)
    simp only [World.size_alloc] at this
    exact this
  have D12 : Boxed (((w5.alloc (.cells #[.pointer (some ⟨dw, 0, none⟩)] 40)).alloc (.cells #[.pointer (some ⟨c, 0, none⟩)] 24)).alloc (.cells #[.int .i64 0] 3)) (w5.heap.size + 1 + 1) 3 (.int .i64 ((0 : Nat) : Int)) := by
    have := Boxed.new ((w5.alloc (.cells #[.pointer (some ⟨dw, 0, none⟩)] 40)).alloc (.cells #[.pointer (some ⟨c, 0, none⟩)] 24)) 3 (.int .i64 0)
    simp only [World.size_alloc] at this
    exact this
  have HBW : Below wl.heap.size wl (((w5.alloc (.cells #[.pointer (some ⟨dw, 0, none⟩)] 40)).alloc (.cells #[.pointer (some ⟨c, 0, none⟩)] 24)).alloc (.cells #[.int .i64 0] 3)) := HB5.out.trans (HA.mono hs5)
  have D3 := (HBW.block _ C3.out.lt).trans C3.out
  have D4 := (HBW.block _ C4.out.lt).trans C4.out
  have D5 := (HBW.block _ C5.out.lt).trans C5.out
  have D7 := (HBW.block _ C7.out.lt).trans C7.out
  have HP8 := HP1.out.below HBW
  have cw8 := (HA.cell (p := ⟨dw, 1, none⟩) hdw.2).trans cw
  have hrw8 : Rw (((w5.alloc (.cells #[.pointer (some ⟨dw, 0, none⟩)] 40)).alloc (.cells #[.pointer (some ⟨c, 0, none⟩)] 24)).alloc (.cells #[.int .i64 0] 3)) A2 H := fun k x hx => by
    obtain ⟨g, e, hg, h0, h1⟩ := hrw k x hx
    exact ⟨g, e, Nat.lt_of_lt_of_le hg HA.size, (HA.cell (p := ⟨g, k * 2, none⟩) hg).trans h0, (HA.cell (p := ⟨g, k * 2 + 1, none⟩) hg).trans h1⟩
  have HB8 : Below w.heap.size w (((w5.alloc (.cells #[.pointer (some ⟨dw, 0, none⟩)] 40)).alloc (.cells #[.pointer (some ⟨c, 0, none⟩)] 24)).alloc (.cells #[.int .i64 0] 3)) := HBL.out.trans (HBW.mono HBL.out.size)
  clear hfn c7 c5 HA hrw cw HDW HRC
  revert HS8 D10 D11 D12 HBW D3 D4 D5 D7 HP8 cw8 hrw8 HB8
  generalize (((w5.alloc (.cells #[.pointer (some ⟨dw, 0, none⟩)] 40)).alloc (.cells #[.pointer (some ⟨c, 0, none⟩)] 24)).alloc (.cells #[.int .i64 0] 3)) = w8
  intro HS8 D10 D11 D12 HBW D3 D4 D5 D7 HP8 cw8 hrw8 HB8
  obtain ⟨z1, z2, z3⟩ := HSZ.out
  have hwl := HWL.out
  have hlen := HLEN.out
  have hne : (w5.heap.size + 1 + 1 ≠ w.heap.size) ∧ (w5.heap.size + 1 + 1 ≠ w.heap.size + 1) ∧ (w5.heap.size + 1 + 1 ≠ w1.heap.size) ∧ (w5.heap.size + 1 + 1 ≠ w3.heap.size) ∧ (w5.heap.size + 1 + 1 ≠ w5.heap.size) ∧ (w5.heap.size + 1 + 1 ≠ dw) ∧ w.heap.size ≤ w5.heap.size + 1 + 1 ∧ ∀ g, A2 = some ⟨g, 0, none⟩ → w5.heap.size + 1 + 1 ≠ g :=
    ⟨by omega, by omega, by omega, by omega, by omega, by omega, by omega, fun g e => by have := hA2 g e; omega⟩
  have hx : ∀ b, X b → w.heap.size ≤ b ∧ b ≠ w.heap.size ∧ b ≠ w.heap.size + 1 ∧ b ≠ w1.heap.size ∧ b ≠ w3.heap.size ∧ b ≠ w5.heap.size ∧ b ≠ w5.heap.size + 1 + 1 ∧ b ≠ dw ∧ ∀ g, A2 = some ⟨g, 0, none⟩ → b ≠ g := fun b hb => by
    obtain ⟨q1, q2, q3, q4⟩ := HXB.out b hb
    exact ⟨by omega, by omega, by omega, q2, q3, by omega, by omega, by omega, fun g e => by have := hA2 g e; omega⟩
  have hnb : nb < w8.heap.size := by
    obtain ⟨_, _, _, _, h, _⟩ := HP1.out.tame
    have := (HXB.out nb h).2.2.2
    omega
  have HX := Lib.hid hx
  have HXA := Lib.hid hA2
  obtain ⟨T, ht, Xc, Xr, nn, hc, hr, h1, h2, h3⟩ := HP8.ex
  refine mw_turn H mo w.heap.size w.heap.size (w.heap.size + 1) w1.heap.size w3.heap.size w5.heap.size (w5.heap.size + 1) (w5.heap.size + 1 + 1) c d nb dw H.length m cap2 capw A2 Ab X w8
    (holds_stops 9 w8.heap.size hc ht (by omega) (fun x hx => (HP8.ok x hx).1) w8 (Below.refl _ _) (Nat.le_refl _) (w5.heap.size + 1) D11.cell)
    D3 D4 D5 D7 D10 cw8 hrw8 (HRB.out.below HB8) HLB.out HNB.out hx hne
    (fun h0 g off e => by
      obtain ⟨_, _, hv, _, _, hxx⟩ := HRB.out
      cases hv
      obtain ⟨g', off', e', hg', _⟩ := hxx h0
      rw [e] at e'; cases e'; exact hg')
    ⟨⟨X, _, H, HP8, fun b hb => .inl hb, Nat.le_refl _⟩, Only.refl _ _, D12⟩ hnb (by omega) _ _ _ _ _ _ _ _ _ _ _ _ _ _ _ _ _ _ _ _ _ _ _ _ _ _ _ _ _ _ _ _ _ _ _ _ _ _ _ _ _ _ _ _ _ _ _ _ _ _ _ _ _ _ _ _ _ _ _ _ _ _ _ _ _ _ _ _ _ _ _ _ _ _ _ _ _ _ _ _ _ _ _ _ _ _ _ _ _ _ _ _ _ _ _ _ _ _ _ _ _ _ _ _ _ _ _ _ _ _ _ _ _ _ _ _ _ _ _ _ _ _ _ _ _ _ _ _ _ _ _ _ _ ?_
  rintro D W hD hi hK
  obtain ⟨⟨X2, L2, H2, hp2, hsub2, hlen2⟩, hon2, hbn⟩ := hi
  have hX2n : ∀ b, b < w8.heap.size → ¬ X b → b ≠ w5.heap.size + 1 + 1 → W.heap[b]? = w8.heap[b]? := fun b h1 h2 h3 => hon2.block b h1 (fun h => h.elim h2 h3)
  have E4 : Boxed W (w.heap.size + 1) 4 (.bool false) := (hX2n _ (by omega) (fun h => (HX.out _ h).2.2.1 rfl) (by omega)).trans D4
  have E5 : Boxed W w1.heap.size 24 (.pointer (some ⟨c, 0, none⟩)) := (hX2n _ (by omega) (fun h => (HX.out _ h).2.2.2.1 rfl) (by omega)).trans D5
  have E7 : Boxed W w3.heap.size 40 (.pointer (some ⟨d, 0, none⟩)) := (hX2n _ (by omega) (fun h => (HX.out _ h).2.2.2.2.1 rfl) (by omega)).trans D7
  have E10 : Boxed W w5.heap.size 40 (.pointer (some ⟨dw, 0, none⟩)) := (hX2n _ (by omega) (fun h => (HX.out _ h).2.2.2.2.2.1 rfl) (by omega)).trans D10
  have ecw : W.cell? ⟨dw, 1, none⟩ = some (.slice A2 H.length capw) := (World.cell?_of_block (a := ⟨dw, 1, none⟩) (hX2n dw (by omega) (fun h => (HX.out _ h).2.2.2.2.2.2.2.1 rfl) (by omega))).trans cw8
  have hDW : D < W.heap.size := lt_of_block hK
  have HBW2 : Hid (Below w.heap.size w W) := HB8.trans (hon2.below (fun b hb => hb.elim (fun h => (HX.out b h).1) (fun h => by omega)) HB8.size)
  have HK := Lib.hid hK
  have HE4 := Lib.hid E4
  have h4l : w.heap.size + 1 < w8.heap.size := by omega
  have hB2 : H2.length ≤ 4398046511104 := by omega
  have hm1 : w5.heap.size + 1 + 1 ≠ w.heap.size + 1 := by omega
  have hm2 : w5.heap.size ≠ w.heap.size + 1 := by omega
  have hm3 : dw ≠ w.heap.size + 1 := by omega
  have hm4 : w1.heap.size ≠ w.heap.size + 1 := by omega
  have hm5 : w3.heap.size ≠ w.heap.size + 1 := by omega
  clear hK D3 D4 D5 D7 D10 D11 D12 cw8 hrw8 hsub2 hlen2 hon2 hx hne hA2 hc ht hr h1 h2 h3 HBW HP8 hX2n z1 z2 z3 hnb hs5 hdw hwl hlen
  gi_wp2
  refine mw_after H.length (w.heap.size + 1) w1.heap.size w3.heap.size w5.heap.size (w5.heap.size + 1 + 1) c d nb dw capw H2.length L2 H2 X2 A2 W E4 E5 E7 E10 hbn ecw hp2 hB2 hm1 hm2 hm3 hm4 hm5 _ _ _ _ _ _ _ _ _ _ _ _ _ _ _ _ _ _ _ _ _ _ _ _ _ _ _ _ _ _ _ _ _ _ _ _ _ _ _ _ _ _ _ _ _ _ _ _ _ _ _ _ _ _ _ _ _ _ _ _ _ _ _ _ _ _ _ _ _ _ _ _ _ _ _ _ _ _ _ _ _ _ _ _ _ _ _ _ _ _ _ _ _ _ _ _ _ _ _ _ _ _ _ _ _ _ _ _ _ _ _ _ _ _ _ _ _ _ _ _ _ _ _ _ _ _ _ _ _ _ _ _ _ _ _ ?_
  rintro _ _ _ _ _ _ _ _ _ _ _ _ _ _ _ _ _ _ _ _ W9 hb9
  gi_wp2
  have ho9 := Only.set (X := fun k => k = w.heap.size + 1) ⟨w.heap.size + 1, 0, none⟩ (.bool true) rfl W9
  have hE9 : Boxed W9 (w.heap.size + 1) 4 (.bool false) := (hb9.block _ HE4.out.lt).trans HE4.out
  exact mw_end w.heap.size (w.heap.size + 1) D w _ _ rfl (((HBW2.out.trans (hb9.mono HBW2.out.size)).trans (ho9.below (fun b hb => by omega) (by have := HBW2.out.size; have := hb9.size; omega)))) (Boxed.set (.bool true) hE9) ((ho9.block D (Nat.lt_of_lt_of_le hDW hb9.size) (by omega)).trans ((hb9.block D hDW).trans HK.out)) (by omega) rfl

end Go.Proofs.Ytdndljbagjfkkaa
