/- The walks of Apart, the program's and the reference's. -/
import Derived.Test.YtjdfjaocidjhlaaRd
import Derived.WalkSmall
namespace Go.Proofs.Ytjdfjaocidjhlaa
open Go.RowKit

theorem right_q (n : Int) (w : World) : Calls Try.prog 33 #[.int .i64 n] w fun e w' => e = .returned (.bool (cnt n)) ∧ w' = w := (right_any n w).mono fun _ _ ⟨a, b⟩ => ⟨a, b.symm⟩
theorem counts_q (n : Int) (w : World) : Calls Try.prog 34 #[.int .i64 n] w fun e w' => e = .returned (.bool (cnt n)) ∧ w' = w := (counts_any n w).mono fun _ _ ⟨a, b⟩ => ⟨a, b.symm⟩

set_option maxRecDepth 100000 in
set_option maxHeartbeats 1000000 in
theorem Apart_any (v : Value) (l : List Wn) (w : World) (hr : Rw w v l) :
    Calls Try.prog 13 #[v] w fun e w' => e = .returned (.bool (apB l)) ∧ Below w.heap.size w w' := by
  obtain ⟨a, cap, rfl, hc, hm, hr⟩ := hr
  obtain ⟨n, hn⟩ : ∃ n, l.length = n := ⟨_, rfl⟩
  rw [hn] at hc hr ⊢
  unfold maxLen at hm
  have HN := Lib.hid hn
  have HR := Lib.hid hr
  clear hn hr
  go_enter Try.func13, Try.ntmps13
  go_wp2
  go_loopw [7] (fun i wr => ∃ k : Nat, i = .int .i64 k ∧ k ≤ n ∧ Below w.heap.size w wr ∧ Ap (l.take k)) (fun i _ => n - (intOf i).toNat)
  case atStart => exact ⟨0, rfl, Nat.zero_le _, Below.refl _ _, by simp; exact ap_nil⟩
  case round =>
    obtain ⟨k, rfl, hk, hb, hap⟩ := hrel
    have HA := Lib.hid hap
    have hsz := hb.size
    clear hap
    by_cases hlt : k < n
    · obtain ⟨g, off, rfl, hg, hx⟩ := HR.out (by omega)
      obtain ⟨x, hxk⟩ : ∃ x, l[k]? = some x := ⟨_, List.getElem?_eq_getElem (by have := HN.out; omega)⟩
      obtain ⟨c0, c1, c2, c3, c4, c5, c6, c7, c8⟩ := (hx k x hxk).below hb hg
      have hgr : g < wr.heap.size := Nat.lt_of_lt_of_le hg hsz
      have HX := Lib.hid hxk
      have HXX := Lib.hid hx
      clear hx hxk
      by_cases g1 : x.s < x.e
      · have g1' : decide (x.e ≤ x.s) = false := by simp; omega
        cases g2 : cnt x.c with
        | false =>
          have ho : Hid (apB l = false) := apB_no fun h => by have ho := ap_okw h HX.out; exact absurd (g2.symm.trans ho.c) (by simp)
          go_wp2
          go_quiet ((go_at_call 33; exact Calls.quiet_of_same (right_q _ _)))
          go_wp2
          go_ret
          exact ⟨ret_bool ho.out.symm, below_drewN (hb.alloc hsz _) _⟩
        | true =>
          cases g3 : cnt x.si with
          | false =>
            have ho : Hid (apB l = false) := apB_no fun h => by have ho := ap_okw h HX.out; exact absurd (g3.symm.trans ho.si) (by simp)
            go_wp2
            go_quiet ((go_at_call 33; exact Calls.quiet_of_same (right_q _ _)))
            go_wp2
            go_ret
            exact ⟨ret_bool ho.out.symm, below_drewN (hb.alloc hsz _) _⟩
          | true =>
            cases g4 : cnt x.pa with
            | false =>
              have ho : Hid (apB l = false) := apB_no fun h => by have ho := ap_okw h HX.out; exact absurd (g4.symm.trans ho.pa) (by simp)
              go_wp2
              go_quiet ((go_at_call 33; exact Calls.quiet_of_same (right_q _ _)))
              go_wp2
              go_ret
              exact ⟨ret_bool ho.out.symm, below_drewN (hb.alloc hsz _) _⟩
            | true =>
              cases k with
              | zero =>
                simp only [Nat.zero_mul, Nat.add_zero] at c0 c1 c2 c3 c4 c5 c6 c7 c8
                have hap : Hid (Ap (l.take (0 + 1))) := ap_take_succ HX.out HA.out ⟨g1, g2, g3, g4⟩ (fun y h => by omega)
                go_wp2
                go_quiet ((go_at_call 33; exact Calls.quiet_of_same (right_q _ _)))
                go_wp2
                go_roundw
                case rel => exact ⟨1, by go_num, by omega, below_drewN (hb.alloc hsz _) _, hap.out⟩
                case measure => simp [intOf]; omega
              | succ k =>
                obtain ⟨y, hyk⟩ : ∃ y, l[k]? = some y := ⟨_, List.getElem?_eq_getElem (by have := HN.out; omega)⟩
                have d1 := ((HXX.out k y hyk).below hb hg).c1
                have HY := Lib.hid hyk
                clear hyk
                by_cases g5 : y.e ≤ x.s
                · have g5' : decide (x.s < y.e) = false := by simp; omega
                  have hap : Hid (Ap (l.take (k + 1 + 1))) := ap_take_succ HX.out HA.out ⟨g1, g2, g3, g4⟩ (fun z _ hz => by simp only [Nat.add_sub_cancel] at hz; have := HY.out.symm.trans hz; cases this; exact g5)
                  go_wp2
                  go_quiet ((go_at_call 33; exact Calls.quiet_of_same (right_q _ _)))
                  go_wp2
                  go_roundw
                  case rel => exact ⟨k + 1 + 1, by go_num, by omega, below_drewN (hb.alloc hsz _) _, hap.out⟩
                  case measure => simp [intOf]; omega
                · have g5' : decide (x.s < y.e) = true := by simp; omega
                  have ho : Hid (apB l = false) := apB_no fun h => g5 (ap_lt h HY.out HX.out (by omega))
                  go_wp2
                  go_quiet ((go_at_call 33; exact Calls.quiet_of_same (right_q _ _)))
                  go_wp2
                  go_ret
                  exact ⟨ret_bool ho.out.symm, below_drewN (hb.alloc hsz _) _⟩
      · have g1' : decide (x.e ≤ x.s) = true := by simp; omega
        have ho : Hid (apB l = false) := apB_no fun h => by have ho := ap_okw h HX.out; exact absurd ho.lt g1
        go_wp2
        go_quiet ((go_at_call 33; exact Calls.quiet_of_same (right_q _ _)))
        go_wp2
        go_ret
        exact ⟨ret_bool ho.out.symm, below_drewN (hb.alloc hsz _) _⟩
    · have hkn : k = n := by omega
      have ho : Hid (apB l = true) := apB_yes (by have := HA.out; rwa [List.take_of_length_le (by have := HN.out; omega)] at this)
      go_wp2
      go_ret
      exact ⟨ret_bool ho.out.symm, hb⟩
end Go.Proofs.Ytjdfjaocidjhlaa
