/- The document's Rising. -/
import Derived.Test.YtmcgagjjgomkeaaRef2
namespace Go.Proofs.Ytmcgagjjgomkeaa
open Go.RowKit Go.Lib

set_option maxRecDepth 100000 in
set_option maxHeartbeats 1000000 in
theorem refRising_any (A : Option Addr) (m cap : Nat) (l : List Int) (W : World) (hr : Rd W (.slice A m cap) m (ic l)) (hml : l.length = m) (hris : Rises l) (hrg : ∀ x ∈ l, I64 x) (hn : m ≤ 1099511627776) :
    Calls Try.prog 44 #[.slice A m cap] W fun e w' => ∃ v', e = .returned v' ∧ Below W.heap.size W w' ∧ w'.ownsRow W.heap.size 5 1 v' (ris l).length (bc (ris l)) := by
  obtain ⟨i0, hi0, hz0, hz1, hz2⟩ := info_parts u8Info
  have HR := Lib.hid hr
  have HML := Lib.hid hml
  have HRI := Lib.hid hris
  have HRG := Lib.hid hrg
  have hm10 := num7_le m (by omega)
  have HN0 := Lib.hid (refNumber_any m W (by omega))
  have hwm : IntKind.u64.wrap (m : Int) = (m : Int) := IntWalk.u64_in _ (by omega)
  have hcm : m ≤ cap ∧ cap ≤ maxLen := by obtain ⟨_, _, hv, h1, h2, _⟩ := hr; cases hv; exact ⟨h1, h2⟩
  obtain ⟨hcm1, hcm2⟩ := hcm
  unfold maxLen at hcm2
  have HRN := Lib.hid (fun x w hx => refNumber_any x w hx)
  clear hr hml hris hrg
  go_enter Try.func44, Try.ntmps44
  go_wp2_with (first
    | (go_at_call 37; (with_reducible refine HN0.out.mono ?_); rintro e w1 ⟨v1, rfl, hb1, ho1⟩
       obtain ⟨a1, c1, rfl, hc11, hc12⟩ := ownsRow_shape ho1
       have HB1 := Lib.hid hb1
       have HO1 := Lib.hid ho1
       clear hb1 ho1 hc11 hc12))
  go_loopw [3, 4] (fun p q wr => ∃ (k : Nat) (vk : Value), q = .int .i64 k ∧ p = vk ∧ k ≤ m ∧ Below W.heap.size W wr ∧ (rk l k).length ≤ 10 * k ∧ wr.ownsRow W.heap.size 5 1 vk ((num7 m).length + (rk l k).length) (bc (num7 m) ++ bc (rk l k))) (fun _ q _ => m - (intOf q).toNat)
  case atStart => exact ⟨0, _, rfl, rfl, Nat.zero_le _, HB1.out, by simp [rk], by simpa [rk, bc] using HO1.out⟩
  case round =>
    obtain ⟨k, vk, rfl, rfl, hk, hg, hlen, hok⟩ := hrel
    have HG := Lib.hid hg
    have HK := Lib.hid hok
    have hsz := hg.size
    obtain ⟨ak, ck, hvk, hck1, hck2⟩ := ownsRow_shape hok
    have hrw := HR.out.below hg
    clear hg hok
    by_cases hkm : k < m
    · obtain ⟨_, _, hv, -, -, hx⟩ := hrw
      cases hv
      obtain ⟨g, off, rfl, hgl, hx⟩ := hx (by omega)
      have hglW : g < W.heap.size := by
        obtain ⟨_, _, hv, -, -, hxx⟩ := HR.out
        cases hv
        obtain ⟨g2, off2, h2, hg2, -⟩ := hxx (by omega)
        cases h2
        exact hg2
      obtain ⟨x, hxk⟩ : ∃ x, l[k]? = some x := ⟨_, List.getElem?_eq_getElem (by have := HML.out; omega)⟩
      have z0 := hx k _ (ic_at hxk)
      have hxr := HRG.out x (List.mem_of_getElem? hxk)
      obtain ⟨N, hN⟩ : ∃ N, (num7 m).length + (rk l k).length = N := ⟨_, rfl⟩
      have hNb : N ≤ 10 + 10 * k := by omega
      rw [hN] at hvk HK
      subst hvk
      have HNN := Lib.hid hN
      clear hN hck1 hck2
      cases k with
      | zero =>
        have hel : Hid (relt l 0 = num7 (zig x)) := by show _ = _; unfold relt; rw [if_pos rfl, List.getD, hxk]; rfl
        have HF := Lib.hid (refFold_any x wr hxr.1 hxr.2)
        have hl10 := num7_le (zig x) (zig_lt hxr.1 hxr.2)
        have HNk := Lib.hid (refNumber_any (zig x) wr (zig_lt hxr.1 hxr.2))
        simp only [Nat.add_zero] at z0
        have hL2 : Hid ((rk l (0 + 1)).length = (rk l 0).length + (num7 (zig x)).length) := by show _ = _; rw [rk_succ, hel.out, List.length_append]
        have hRK : Hid (bc (rk l (0 + 1)) = bc (rk l 0) ++ bc (num7 (zig x))) := by show _ = _; rw [rk_succ, hel.out, bc_append]
        clear hx hxk hxr
        generalize num7 (zig x) = nz at *
        go_wp2_with (first
          | (go_at_call 38; (with_reducible refine HF.out.mono ?_); rintro e wq ⟨rfl, rfl⟩)
          | (go_at_call 37; (with_reducible refine HNk.out.mono ?_); rintro e w2 ⟨v2, rfl, hb2, ho2⟩
             obtain ⟨a2, c2, rfl, _, _⟩ := ownsRow_shape ho2
             have HB2 := Lib.hid hb2
             have HRD := Lib.hid (Rd.of_owns ho2)
             have HKK := Lib.hid (own_below HK.out hb2)
             have HSZ : Hid (W.heap.size ≤ w2.heap.size) := Nat.le_trans hsz hb2.size
             clear hb2 ho2)
          | (at_builtin; refine wpList_append_rd _ rfl (.tmp 17) (.tmp 23) 29 rfl W.heap.size 5 i0 _ 1 1 Try.underlying29 hi0 hz0 hz1 hz2 rfl (by decide) _ N _ rfl HKK.out a2 nz.length c2 (bc nz) rfl (by rw [bc_length, Nat.mul_one]) HRD.out (bc_one _) (by simp only [maxLen]; omega) (by omega) HSZ.out ?_; intro v3 w3 ho3 hg3 hat3
             have HB3 := Lib.hid ((HG.out.trans (HB2.out.mono HG.out.size)).grown hg3 HSZ.out (fun r e => (own_lt HKK.out e).1))
             have HO3 := Lib.hid ho3
             clear ho3 hg3 hat3))
        go_roundw
        case rel => exact ⟨1, v3, by go_num, rfl, by omega, HB3.out, by have h := hL2.out; rw [Nat.zero_add] at h; omega, by
          have h := HO3.out
          have e1 := hL2.out
          have e2 := hRK.out
          have e3 := HNN.out
          rw [Nat.zero_add] at e1 e2
          rw [e1, e2, ← Nat.add_assoc, ← List.append_assoc, e3]
          exact h⟩
        case measure => simp [intOf]; omega
      | succ k =>
        obtain ⟨y, hyk⟩ : ∃ y, l[k]? = some y := ⟨_, List.getElem?_eq_getElem (by have := HML.out; omega)⟩
        have z1 := hx k _ (ic_at hyk)
        have hyr := HRG.out y (List.mem_of_getElem? hyk)
        have hlt := HRI.out k y x hyk hxk
        obtain ⟨d, hd⟩ : ∃ d, (x - y - 1).toNat = d := ⟨_, rfl⟩
        have hdl : d < 18446744073709551616 := by have := hxr.2; have := hyr.1; omega
        have hel : Hid (relt l (k + 1) = num7 d) := by show _ = _; unfold relt; rw [if_neg (by omega), List.getD, hxk, List.getD, Nat.add_sub_cancel, hyk, ← hd]; rfl
        have hdd : IntKind.u64.wrap (IntKind.u64.wrap (IntKind.u64.wrap x - IntKind.u64.wrap y) - 1) = (d : Int) := by
          have a1 := hxr.1; have a2 := hxr.2; have a3 := hyr.1; have a4 := hyr.2
          rw [IntKind.wrap_u64, IntKind.wrap_u64, IntKind.wrap_u64, IntKind.wrap_u64]
          omega
        have hl10 := num7_le d hdl
        have HNk := Lib.hid (refNumber_any d wr.drew hdl)
        rw [← hdd] at HNk
        have hL2 : Hid ((rk l (k + 1 + 1)).length = (rk l (k + 1)).length + (num7 d).length) := by show _ = _; rw [rk_succ, hel.out, List.length_append]
        have hRK : Hid (bc (rk l (k + 1 + 1)) = bc (rk l (k + 1)) ++ bc (num7 d)) := by show _ = _; rw [rk_succ, hel.out, bc_append]
        have HGL := Lib.hid hgl
        have HGW := Lib.hid hglW
        clear hx hxk hyk hxr hyr hlt hd hdd
        generalize num7 d = nz at *
        have hw1 : IntKind.i64.wrap ((k : Int) + 1 - 1) = (k : Int) := by rw [Int.add_sub_cancel]; exact IntWalk.i64_in _ (by omega)
        have hw2 : IntKind.i64.wrap ((k : Int) + 1) = (k : Int) + 1 := IntWalk.i64_in _ (by omega)
        have hk1 : k < m := by omega
        have hj0 : (0 : Int) ≤ (k : Int) := by omega
        have hj1 : (k : Int) + 1 < (m : Int) := by omega
        have hj2 : (k : Int) < (m : Int) := by omega
        have hj3 : (0 : Int) ≤ (k : Int) + 1 := by omega
        have hw3 : IntKind.i64.wrap (k : Int) = (k : Int) := IntWalk.i64_in _ (by omega)
        have hj4 : ((k : Int) + 1).toNat = k + 1 := by omega
        go_wp2
        go_region_held3 (fun W1 => W1.cell? ⟨g, off + (k + 1), none⟩ = some (.int .i64 x) ∧ W1.cell? ⟨g, off + k, none⟩ = some (.int .i64 y))
          (first
            | exact ⟨z0, z1⟩
            | exact ⟨(HB2.out.cell (p := ⟨g, off + (k + 1), none⟩) HGL.out).trans z0, (HB2.out.cell (p := ⟨g, off + k, none⟩) HGL.out).trans z1⟩
            | exact ⟨(HC3.out.cell (p := ⟨g, off + (k + 1), none⟩) HGW.out).trans z0, (HC3.out.cell (p := ⟨g, off + k, none⟩) HGW.out).trans z1⟩)
          ((first
            | (go_at_call 37; (with_reducible refine HNk.out.mono ?_); rintro e w2 ⟨v2, rfl, hb2, ho2⟩
               obtain ⟨a2, c2, rfl, _, _⟩ := ownsRow_shape ho2
               have hb2' : Below wr.heap.size wr w2 := below_trans (below_drew wr) hb2
               have HB2 := Lib.hid hb2'
               have HRD := Lib.hid (Rd.of_owns ho2)
               have HKK := Lib.hid (own_below HK.out hb2')
               have HSZ : Hid (W.heap.size ≤ w2.heap.size) := Nat.le_trans hsz hb2'.size
               clear hb2 hb2' ho2)
            | (refine step_append_rd (by rfl) (.tmp 25) (.tmp 39) 29 (by rfl) W.heap.size 5 i0 _ 1 1 Try.underlying29 hi0 hz0 hz1 hz2 rfl (by decide) _ N _ (by rfl) HKK.out a2 nz.length c2 (bc nz) (by rfl) (by rw [bc_length, Nat.mul_one]) HRD.out (bc_one _) (by simp only [maxLen]; omega) (by omega) HSZ.out ?_; intro v3 w3 ho3 hg3
               have HC3 := Lib.hid ((HB2.out.mono hsz).grown hg3.only HSZ.out (fun r e => (own_lt HKK.out e).1))
               have HO3 := Lib.hid ho3
               clear ho3 hg3)))
        go_wp2
        go_roundw
        case rel => exact ⟨k + 1 + 1, v3, by go_num, rfl, by omega, HG.out.trans HC3.out, by have := hL2.out; omega, by
          have h := HO3.out
          rw [hL2.out, hRK.out, ← Nat.add_assoc, ← List.append_assoc, HNN.out]
          exact h⟩
        case measure => simp [intOf]; omega
    · obtain rfl : k = m := by omega
      have HE : Hid ((ris l).length = (num7 k).length + (rk l k).length ∧ bc (ris l) = bc (num7 k) ++ bc (rk l k)) := by
        have e := HML.out
        refine ⟨?_, ?_⟩
        · unfold ris; rw [e]; simp
        · unfold ris; rw [e, bc_append]
      go_wp2
      go_ret
      exact ⟨_, rfl, HG.out, by rw [HE.out.1, HE.out.2]; exact HK.out⟩
end Go.Proofs.Ytmcgagjjgomkeaa
