/- The document's forms: Text, Fixed, Rises, SameList. -/
import Derived.Test.YtmcgagjjgomkeaaLent
namespace Go.Proofs.Ytmcgagjjgomkeaa
open Go.RowKit Go.Lib

set_option maxRecDepth 100000 in
theorem refText_any (s : ByteArray) (w : World) (hn : s.size + 20 ≤ 140737488355328) :
    Calls Try.prog 39 #[.string s] w fun e w' => ∃ v', e = .returned v' ∧ Below w.heap.size w w' ∧ w'.ownsRow w.heap.size 5 1 v' (num7 s.size ++ s.data.toList).length (bc (num7 s.size ++ s.data.toList)) := by
  obtain ⟨i0, hi0, hz0, hz1, hz2⟩ := info_parts u8Info
  have HN := Lib.hid (refNumber_any s.size w (by omega))
  have hwr : IntKind.u64.wrap (s.size : Int) = (s.size : Int) := IntWalk.u64_in _ (by omega)
  have hl := num7_le s.size (by omega)
  have h63 : (num7 s.size).length + s.size ≤ maxLen := by unfold maxLen; omega
  have hby : (num7 s.size).length + s.size ≤ 140737488355328 := by omega
  have HE : Hid ((num7 s.size ++ s.data.toList).length = (num7 s.size).length + s.size ∧ bc (num7 s.size ++ s.data.toList) = bc (num7 s.size) ++ strCells s) := ⟨by simp, by rw [bc_append]; rfl⟩
  go_enter Try.func39, Try.ntmps39
  go_wp2_with (first
    | (go_at_call 37; (with_reducible refine HN.out.mono ?_); rintro e w1 ⟨v1, rfl, hb1, ho1⟩; have HB1 := Lib.hid hb1; have HO1 := Lib.hid ho1; have HSZ := Lib.hid hb1.size; clear hb1 ho1)
    | (at_builtin; refine wpList_append_str _ rfl (.tmp 6) (.tmp 7) 29 9 rfl w.heap.size 5 i0 Try.underlying29 Try.underlying9 hi0 hz0 hz1 hz2 v1 (num7 s.size).length _ rfl HO1.out s rfl h63 hby HSZ.out ?_; intro v2 w2 ho2 hg2; have HO2 := Lib.hid ho2; have HG2 := Lib.hid hg2; clear ho2 hg2))
  go_ret
  refine ⟨v2, rfl, HB1.out.trans (HG2.out.below HSZ.out (fun g e => (own_lt HO1.out e).1)), ?_⟩
  rw [HE.out.1, HE.out.2]
  exact HO2.out
theorem refFixed_any (x : Nat) (w : World) (hx : x < 4294967296) :
    Calls Try.prog 40 #[.int .u32 (x : Int)] w fun e w' => ∃ v', e = .returned v' ∧ Below w.heap.size w w' ∧ w'.ownsRow w.heap.size 5 1 v' (fix4 x).length (bc (fix4 x)) := by
  have e3 : (x : Int) / 16777216 % 256 = (x : Int) / 16777216 := by omega
  have hbc := bc_fix4 x
  rw [e3] at hbc
  have HO : Hid ((w.alloc (.cells #[.int .u8 ((x : Int) % 256), .int .u8 ((x : Int) / 256 % 256), .int .u8 ((x : Int) / 65536 % 256), .int .u8 ((x : Int) / 16777216)] 5)).ownsRow w.heap.size 5 1 (.slice (some ⟨w.heap.size, 0, none⟩) 4 4) 4 (bc (fix4 x))) := by
    show World.ownsRow _ _ _ _ _ _ _
    rw [hbc]
    exact World.ownsRow_lit (base := w.heap.size) (e := 5) (size := 1) w #[.int .u8 ((x : Int) % 256), .int .u8 ((x : Int) / 256 % 256), .int .u8 ((x : Int) / 65536 % 256), .int .u8 ((x : Int) / 16777216)] 4 (Nat.le_refl _) (by decide) rfl
  go_enter Try.func40, Try.ntmps40
  go_wp2
  go_ret
  exact ⟨_, rfl, below_alloc w _, HO.out⟩
set_option maxRecDepth 100000 in
set_option maxHeartbeats 1000000 in
theorem refRises_any (A : Option Addr) (m cap : Nat) (l : List Int) (W : World) (hr : Rd W (.slice A m cap) m (ic l)) (hml : l.length = m) :
    Calls Try.prog 42 #[.slice A m cap] W fun e w' => Below W.heap.size W w' ∧ (Rises l → e = .returned (.bool true)) ∧ (¬ Rises l → e = .returned (.bool false)) := by
  have HR := Lib.hid hr
  have HML := Lib.hid hml
  have hcm : m ≤ cap ∧ cap ≤ maxLen := by obtain ⟨_, _, hv, h1, h2, _⟩ := hr; cases hv; exact ⟨h1, h2⟩
  obtain ⟨hcm1, hcm2⟩ := hcm
  unfold maxLen at hcm2
  clear hr hml
  go_enter Try.func42, Try.ntmps42
  go_wp2
  go_loopw [3] (fun q wr => ∃ k n' : Nat, q = .int .i64 ((k : Int) + 1) ∧ (k + 1 ≤ m ∨ k = 0) ∧ wr = W.drewN n' ∧ ∀ (i : Nat) (x y : Int), i < k → l[i]? = some x → l[i + 1]? = some y → x < y) (fun q _ => m - (intOf q).toNat)
  case atStart => exact ⟨0, 0, rfl, .inr rfl, rfl, fun i x y h => by omega⟩
  case round =>
    obtain ⟨k, n', rfl, hk, rfl, hal⟩ := hrel
    have HAL := Lib.hid hal
    clear hal
    by_cases hkm : k + 1 < m
    · obtain ⟨_, _, hv, -, -, hx⟩ := HR.out
      cases hv
      obtain ⟨q, off, rfl, hgl, hx⟩ := hx (by omega)
      obtain ⟨x, hxk⟩ : ∃ x, l[k + 1]? = some x := ⟨_, List.getElem?_eq_getElem (by have := HML.out; omega)⟩
      obtain ⟨y, hyk⟩ : ∃ y, l[k]? = some y := ⟨_, List.getElem?_eq_getElem (by have := HML.out; omega)⟩
      have z0 : W.cell? ⟨q, off + (k + 1), none⟩ = some (.int .i64 x) := hx (k + 1) _ (ic_at hxk)
      have z1 : W.cell? ⟨q, off + k, none⟩ = some (.int .i64 y) := hx k _ (ic_at hyk)
      have HXK := Lib.hid hxk
      have HYK := Lib.hid hyk
      clear hx hxk hyk
      have hlt2 : decide (k + 1 < m) = true := by simpa using hkm
      by_cases hlt : y < x
      · have hle : decide (x ≤ y) = false := by simp; omega
        go_wp2
        go_quiet (fail)
        go_wp2
        go_roundw
        case rel => exact ⟨k + 1, _, by go_num, .inl (by omega), rfl, fun i a b hi ha hb => by
          by_cases hi : i < k
          · exact HAL.out i a b hi ha hb
          · obtain rfl : i = k := by omega
            have e1 := ha.symm.trans HYK.out
            have e2 := hb.symm.trans HXK.out
            cases e1; cases e2; exact hlt⟩
        case measure => simp [intOf]; omega
      · have hle : decide (x ≤ y) = true := by simp; omega
        have hno : ¬ Rises l := rises_not HYK.out HXK.out hlt
        have HNO := Lib.hid hno
        clear hno
        go_wp2
        go_quiet (fail)
        go_wp2
        go_ret
        exact ⟨⟨rfl, rfl, rfl, Nat.le_refl _, fun _ _ => rfl⟩, fun h => absurd h HNO.out, fun _ => rfl⟩
    · have hri : Rises l := fun i x y h1 h2 => HAL.out i x y (by have := (List.getElem?_eq_some_iff.1 h2).1; have := HML.out; omega) h1 h2
      have HRI := Lib.hid hri
      have hlt2 : decide (k + 1 < m) = false := by simpa using hkm
      clear hri
      go_wp2
      go_ret
      exact ⟨⟨rfl, rfl, rfl, Nat.le_refl _, fun _ _ => rfl⟩, fun _ => rfl, fun h => absurd HRI.out h⟩
set_option maxRecDepth 100000 in
set_option maxHeartbeats 1000000 in
theorem SameList_any (A A2 : Option Addr) (m cap cap2 : Nat) (l : List Int) (W : World) (hr : Rd W (.slice A m cap) m (ic l)) (hr2 : Rd W (.slice A2 m cap2) m (ic l)) (hml : l.length = m) :
    Calls Try.prog 58 #[.slice A m cap, .slice A2 m cap2] W fun e w' => e = .returned (.bool true) ∧ Below W.heap.size W w' := by
  have HR := Lib.hid hr
  have HR2 := Lib.hid hr2
  have HML := Lib.hid hml
  have hcm : m ≤ cap ∧ cap ≤ maxLen := by obtain ⟨_, _, hv, h1, h2, _⟩ := hr; cases hv; exact ⟨h1, h2⟩
  obtain ⟨hcm1, hcm2⟩ := hcm
  unfold maxLen at hcm2
  clear hr hr2 hml
  go_enter Try.func58, Try.ntmps58
  go_wp2
  go_loopw [5] (fun q wr => ∃ k n' : Nat, q = .int .i64 k ∧ k ≤ m ∧ wr = W.drewN n') (fun q _ => m - (intOf q).toNat)
  case atStart => exact ⟨0, 0, rfl, Nat.zero_le _, rfl⟩
  case round =>
    obtain ⟨k, n', rfl, hk, rfl⟩ := hrel
    by_cases hkm : k < m
    · obtain ⟨_, _, hv, -, -, hx⟩ := HR.out
      cases hv
      obtain ⟨q, off, rfl, hgl, hx⟩ := hx (by omega)
      obtain ⟨_, _, hv, -, -, hx2⟩ := HR2.out
      cases hv
      obtain ⟨q2, off2, rfl, hgl2, hx2⟩ := hx2 (by omega)
      obtain ⟨x, hxk⟩ : ∃ x, l[k]? = some x := ⟨_, List.getElem?_eq_getElem (by have := HML.out; omega)⟩
      have z0 : W.cell? ⟨q, off + k, none⟩ = some (.int .i64 x) := hx k _ (ic_at hxk)
      have z1 : W.cell? ⟨q2, off2 + k, none⟩ = some (.int .i64 x) := hx2 k _ (ic_at hxk)
      clear hx hx2 hxk
      go_wp2
      go_quiet (fail)
      go_wp2
      go_roundw
      case rel => exact ⟨k + 1, _, by go_num, by omega, rfl⟩
      case measure => simp [intOf]; omega
    · obtain rfl : k = m := by omega
      go_wp2
      go_ret
      exact ⟨rfl, ⟨rfl, rfl, rfl, Nat.le_refl _, fun _ _ => rfl⟩⟩
end Go.Proofs.Ytmcgagjjgomkeaa
