/- The writer's Fixed and Rising. -/
import Derived.Test.YtmcgagjjgomkeaaWr2
namespace Go.Proofs.Ytmcgagjjgomkeaa
open Go.RowKit Go.Lib

/-- The fixed form. -/
def fix4 (x : Nat) : List UInt8 := [UInt8.ofNat x, UInt8.ofNat (x / 256), UInt8.ofNat (x / 65536), UInt8.ofNat (x / 16777216)]
theorem bc_fix4 (x : Nat) : bc (fix4 x) = [.int .u8 ((x : Int) % 256), .int .u8 ((x : Int) / 256 % 256), .int .u8 ((x : Int) / 65536 % 256), .int .u8 ((x : Int) / 16777216 % 256)] := by
  simp only [bc, fix4, List.map_cons, List.map_nil, UInt8.toNat_ofNat']
  rfl

set_option maxRecDepth 100000 in
theorem Fixed_any (B g x : Nat) (v : Value) (bs : List UInt8) (W : World) (hw : Wr W B g v bs) (hB : B ≤ W.heap.size) (hx : x < 4294967296) (hn : bs.length + 4 ≤ 140737488355328) :
    Calls Try.prog 34 #[.pointer (some ⟨g, 0, none⟩), .int .u32 (x : Int)] W fun e w' => e = .returned (.int .i64 0) ∧ ∃ v', Wr w' B g v' (bs ++ fix4 x) ∧ Wch W w' g v v' := by
  have e3 : (x : Int) / 16777216 % 256 = (x : Int) / 16777216 := by omega
  have hal := below_alloc W (.cells #[.int .u8 ((x : Int) % 256), .int .u8 ((x : Int) / 256 % 256), .int .u8 ((x : Int) / 65536 % 256), .int .u8 ((x : Int) / 16777216)] 5)
  have HBY := Lib.hid (Byte_any B g 4 4 (some ⟨W.heap.size, 0, none⟩) v bs (fix4 x) (W.alloc (.cells #[.int .u8 ((x : Int) % 256), .int .u8 ((x : Int) / 256 % 256), .int .u8 ((x : Int) / 65536 % 256), .int .u8 ((x : Int) / 16777216)] 5)) (hw.below hal) (by simp; omega) rfl
    (by
      rw [bc_fix4, e3]
      exact Rd.of_owns (World.ownsRow_lit (base := 0) (e := 5) (size := 1) W #[.int .u8 ((x : Int) % 256), .int .u8 ((x : Int) / 256 % 256), .int .u8 ((x : Int) / 65536 % 256), .int .u8 ((x : Int) / 16777216)] 4 (Nat.zero_le _) (by decide) rfl)) hn)
  have HA := Lib.hid hal
  clear hw hal e3
  go_enter Try.func34, Try.ntmps34
  go_wp2_with (first
    | (go_at_call 32; (with_reducible refine HBY.out.mono ?_); rintro e w2 ⟨rfl, v2, hw2, hc2⟩; have HW2 := Lib.hid hw2; have HC2 := Lib.hid hc2; clear hw2 hc2))
  go_ret
  exact ⟨rfl, v2, HW2.out, (Wch.of_below HA.out g v).trans HC2.out⟩

/-- Numbers as cells. -/
def ic (l : List Int) : List Value := l.map (Value.int .i64)
theorem ic_at {l : List Int} {k : Nat} {x : Int} (h : l[k]? = some x) : (ic l)[k]? = some (.int .i64 x) := by simp [ic, h]
theorem ic_length (l : List Int) : (ic l).length = l.length := by simp [ic]
def Rises (l : List Int) : Prop := ∀ (i : Nat) (x y : Int), l[i]? = some x → l[i + 1]? = some y → x < y
/-- What a list's number at a place is written as. -/
def relt (l : List Int) (i : Nat) : List UInt8 := if i = 0 then num7 (zig (l.getD 0 0)) else num7 (l.getD i 0 - l.getD (i - 1) 0 - 1).toNat
def rk (l : List Int) (k : Nat) : List UInt8 := (List.range k).flatMap (relt l)
theorem rk_succ (l : List Int) (k : Nat) : rk l (k + 1) = rk l k ++ relt l k := by simp [rk, List.range_succ]
def ris (l : List Int) : List UInt8 := num7 l.length ++ rk l l.length

theorem Rd.grew {w w' : World} {A : Option Addr} {m cap n : Nat} {xs : List Value} {v v' : Value} (h : Rd w (.slice A m cap) n xs) (k : Grew w w' v v') (hne : ∀ g off, A = some ⟨g, off, none⟩ → v.ownBlock ≠ some g) : Rd w' (.slice A m cap) n xs := by
  obtain ⟨a, c, hv, h1, h2, hr⟩ := h
  cases hv
  refine ⟨_, _, rfl, h1, h2, fun hp => ?_⟩
  obtain ⟨g, off, ha, hg, hc⟩ := hr hp
  exact ⟨g, off, ha, Nat.lt_of_lt_of_le hg k.only.size, fun j u hj => (World.cell?_of_block (a := ⟨g, off + j, none⟩) (k.only.block g hg (fun e => hne g off ha e.symm))).trans (hc j u hj)⟩

def I64 (x : Int) : Prop := -9223372036854775808 ≤ x ∧ x ≤ 9223372036854775807

set_option maxRecDepth 100000 in
set_option maxHeartbeats 1000000 in
theorem Rising1_any (B c m cap : Nat) (A : Option Addr) (v : Value) (bs : List UInt8) (l : List Int) (W : World) (ho : W.ownsRow B 5 1 v bs.length (bc bs)) (hB : B ≤ W.heap.size) (hbk : Bk W c 37 #[.slice A m cap])
    (hr : Rd W (.slice A m cap) m (ic l)) (hml : l.length = m) (hne : ∀ g off, A = some ⟨g, off, none⟩ → v.ownBlock ≠ some g) (hris : Rises l) (hrg : ∀ x ∈ l, I64 x) (hn : bs.length + 10 * m + 40 ≤ 140737488355328) :
    Calls Try.prog 54 #[v, .pointer (some ⟨c, 0, none⟩)] W fun e w' => ∃ v', e = .returned v' ∧ Grew W w' v v' ∧ w'.ownsRow B 5 1 v' (bs ++ ris l).length (bc (bs ++ ris l)) := by
  have HO := Lib.hid ho
  have HBK := Lib.hid hbk
  have HR := Lib.hid hr
  have HML := Lib.hid hml
  have HNE := Lib.hid hne
  have HNC := Lib.hid (own_bk_ne ho hbk (by decide))
  have HRI := Lib.hid hris
  have HRG := Lib.hid hrg
  have x0 : W.cell? ⟨c, 0, none⟩ = some (.slice A m cap) := hbk.cell 0
  have hm10 := num7_le m (by omega)
  have HN0 := Lib.hid (number_any B v bs.length m (bc bs) W ho hB (by omega) (by omega))
  have hcm : m ≤ cap ∧ cap ≤ maxLen := by obtain ⟨_, _, hv, h1, h2, _⟩ := hr; cases hv; exact ⟨h1, h2⟩
  obtain ⟨hcm1, hcm2⟩ := hcm
  unfold maxLen at hcm2
  clear ho hbk hr hml hne hris hrg
  go_enter Try.func54, Try.ntmps54
  go_wp2_with (first
    | (go_at_call 36; (with_reducible refine HN0.out.mono ?_); rintro e w1 ⟨v1, rfl, hg1, ho1⟩
       obtain ⟨a1, c1, rfl, hc11, hc12⟩ := ownsRow_shape ho1
       have HG1 := Lib.hid hg1
       have HO1 := Lib.hid ho1
       have x1 : w1.cell? ⟨c, 0, none⟩ = some (.slice A m cap) := (HBK.out.grew hg1 HNC.out).cell 0
       clear hg1 ho1 hc11 hc12))
  go_loopw [0, 13] (fun p q wr => ∃ (k : Nat) (vk : Value), q = .int .i64 k ∧ p = vk ∧ k ≤ m ∧ Grew W wr v vk ∧ (rk l k).length ≤ 10 * k ∧ wr.ownsRow B 5 1 vk (bs.length + (num7 m).length + (rk l k).length) (bc bs ++ bc (num7 m) ++ bc (rk l k))) (fun _ q _ => m - (intOf q).toNat)
  case atStart => exact ⟨0, _, rfl, rfl, Nat.zero_le _, HG1.out, by simp [rk], by simpa [rk, bc] using HO1.out⟩
  case round =>
    obtain ⟨k, vk, rfl, rfl, hk, hg, hlen, hok⟩ := hrel
    have HG := Lib.hid hg
    have HK := Lib.hid hok
    have y0 : wr.cell? ⟨c, 0, none⟩ = some (.slice A m cap) := (HBK.out.grew hg HNC.out).cell 0
    have hsz := hg.only.size
    obtain ⟨ak, ck, hvk, hck1, hck2⟩ := ownsRow_shape hok
    clear hg hok
    by_cases hkm : k < m
    · obtain ⟨_, _, hv, -, -, hx⟩ := HR.out.grew HG.out HNE.out
      cases hv
      obtain ⟨g, off, rfl, hgl, hx⟩ := hx (by omega)
      obtain ⟨x, hxk⟩ : ∃ x, l[k]? = some x := ⟨_, List.getElem?_eq_getElem (by have := HML.out; omega)⟩
      have z0 := hx k _ (ic_at hxk)
      have hxr := HRG.out x (List.mem_of_getElem? hxk)
      have HBw : Hid (B ≤ wr.heap.size) := by show _ ≤ _; omega
      obtain ⟨N, hN⟩ : ∃ N, bs.length + (num7 m).length + (rk l k).length = N := ⟨_, rfl⟩
      have hNb : N ≤ bs.length + 10 + 10 * k := by omega
      rw [hN] at hvk HK
      subst hvk
      have HNN := Lib.hid hN
      clear hN hck1 hck2
      cases k with
      | zero =>
        have hel : Hid (relt l 0 = num7 (zig x)) := by show _ = _; unfold relt; rw [if_pos rfl, List.getD, hxk]; rfl
        have HF := Lib.hid (fold_any x wr hxr.1 hxr.2)
        have hl10 := num7_le (zig x) (zig_lt hxr.1 hxr.2)
        have HNk := Lib.hid (number_any B (.slice ak N ck) N (zig x) _ wr HK.out HBw.out (zig_lt hxr.1 hxr.2) (by omega))
        simp only [Nat.add_zero] at z0
        have hL2 : Hid ((rk l (0 + 1)).length = (rk l 0).length + (num7 (zig x)).length) := by show _ = _; rw [rk_succ, hel.out, List.length_append]
        have hRK : Hid (bc (rk l (0 + 1)) = bc (rk l 0) ++ bc (num7 (zig x))) := by show _ = _; rw [rk_succ, hel.out, bc_append]
        clear hx hxk hxr
        go_wp2_with (first
          | (go_at_call 55; (with_reducible refine HF.out.mono ?_); rintro e wq ⟨rfl, rfl⟩)
          | (go_at_call 36; (with_reducible refine HNk.out.mono ?_); rintro e w2 ⟨v2, rfl, hg2, ho2⟩; have HG2 := Lib.hid (HG.out.trans hg2); have HO2 := Lib.hid ho2; clear hg2 ho2))
        go_roundw
        case rel => exact ⟨1, v2, by go_num, rfl, by omega, HG2.out, by have h := hL2.out; rw [Nat.zero_add] at h; omega, by
          have h := HO2.out
          have e1 := hL2.out
          have e2 := hRK.out
          have e3 := HNN.out
          rw [Nat.zero_add] at e1 e2
          rw [e1, e2, ← Nat.add_assoc, ← List.append_assoc, e3]
          exact h⟩
        case measure => simp [intOf]; omega
      | succ k =>
        obtain ⟨y, hyk⟩ : ∃ y, l[k]? = some y := ⟨_, List.getElem?_eq_getElem (by have := HML.out; omega)⟩
        have z1 := hx k _ (ic_at hyk)
        have hyr := HRG.out y (List.mem_of_getElem? hyk)
        have hlt := HRI.out k y x hyk hxk
        obtain ⟨d, hd⟩ : ∃ d, (x - y - 1).toNat = d := ⟨_, rfl⟩
        have hdl : d < 18446744073709551616 := by have := hxr.2; have := hyr.1; omega
        have hel : Hid (relt l (k + 1) = num7 d) := by show _ = _; unfold relt; rw [if_neg (by omega), List.getD, hxk, List.getD, Nat.add_sub_cancel, hyk, ← hd]; rfl
        have hdd : IntKind.u64.wrap (IntKind.u64.wrap (IntKind.u64.wrap x - IntKind.u64.wrap y) - 1) = (d : Int) := by
          have a1 := hxr.1; have a2 := hxr.2; have a3 := hyr.1; have a4 := hyr.2
          rw [IntKind.wrap_u64, IntKind.wrap_u64, IntKind.wrap_u64, IntKind.wrap_u64]
          omega
        have hl10 := num7_le d hdl
        have HNk := Lib.hid (number_any B (.slice ak N ck) N d _ wr HK.out HBw.out hdl (by omega))
        rw [← hdd] at HNk
        have hL2 : Hid ((rk l (k + 1 + 1)).length = (rk l (k + 1)).length + (num7 d).length) := by show _ = _; rw [rk_succ, hel.out, List.length_append]
        have hRK : Hid (bc (rk l (k + 1 + 1)) = bc (rk l (k + 1)) ++ bc (num7 d)) := by show _ = _; rw [rk_succ, hel.out, bc_append]
        clear hx hxk hyk hxr hyr hlt hd hdd
        go_wp2_with (first
          | (go_at_call 36; (with_reducible refine HNk.out.mono ?_); rintro e w2 ⟨v2, rfl, hg2, ho2⟩; have HG2 := Lib.hid (HG.out.trans hg2); have HO2 := Lib.hid ho2; clear hg2 ho2))
        go_roundw
        case rel => exact ⟨k + 1 + 1, v2, by go_num, rfl, by omega, HG2.out, by have := hL2.out; omega, by
          have h := HO2.out
          rw [hL2.out, hRK.out, ← Nat.add_assoc, ← List.append_assoc, HNN.out]
          exact h⟩
        case measure => simp [intOf]; omega
    · obtain rfl : k = m := by omega
      have HE : Hid ((bs ++ ris l).length = bs.length + (num7 k).length + (rk l k).length ∧ bc (bs ++ ris l) = bc bs ++ bc (num7 k) ++ bc (rk l k)) := by
        have e := HML.out
        refine ⟨?_, ?_⟩
        · unfold ris; rw [e]; simp [Nat.add_assoc]
        · unfold ris; rw [e, bc_append, bc_append, ← List.append_assoc]
      go_wp2
      go_ret
      exact ⟨_, rfl, HG.out, by rw [HE.out.1, HE.out.2]; exact HK.out⟩

theorem rises_not {l : List Int} {k : Nat} {x y : Int} (hx : l[k]? = some x) (hy : l[k + 1]? = some y) (h : ¬ x < y) : ¬ Rises l := fun hr => h (hr k x y hx hy)

set_option maxRecDepth 100000 in
set_option maxHeartbeats 1000000 in
theorem Rising_any (B g m cap : Nat) (A : Option Addr) (v : Value) (bs : List UInt8) (l : List Int) (W : World) (hw : Wr W B g v bs) (hB : B ≤ W.heap.size)
    (hr : Rd W (.slice A m cap) m (ic l)) (hml : l.length = m) (hne : ∀ q off, A = some ⟨q, off, none⟩ → v.ownBlock ≠ some q) (hrg : ∀ x ∈ l, I64 x) (hn : bs.length + 10 * m + 40 ≤ 140737488355328) :
    Calls Try.prog 25 #[.pointer (some ⟨g, 0, none⟩), .slice A m cap] W fun e w' =>
      (Rises l → e = .returned (.int .i64 0) ∧ ∃ v', Wr w' B g v' (bs ++ ris l) ∧ Wch W w' g v v') ∧ (¬ Rises l → e = .returned (.int .i64 112) ∧ Wr w' B g v bs ∧ Wch W w' g v v) := by
  have hal := below_alloc W (.cells #[.slice A m cap] 37)
  have hwa := hw.below hal
  have HBK : Hid (Bk (W.alloc (.cells #[.slice A m cap] 37)) W.heap.size 37 #[.slice A m cap]) := Bk.new _ _ _
  have HR := Lib.hid (hr.below hal)
  have HRI : Hid (∀ n', Rises l → Calls Try.prog 54 #[v, .pointer (some ⟨W.heap.size, 0, none⟩)] ((W.alloc (.cells #[.slice A m cap] 37)).drewN n') fun e w' => ∃ v', e = .returned v' ∧ Grew ((W.alloc (.cells #[.slice A m cap] 37)).drewN n') w' v v' ∧ w'.ownsRow B 5 1 v' (bs ++ ris l).length (bc (bs ++ ris l))) := fun n' h =>
    Rising1_any B W.heap.size m cap A v bs l _ hwa.own (by show B ≤ (W.alloc _).heap.size; simp; omega) HBK.out HR.out hml hne h hrg hn
  have HP : Hid (∀ n', Rises l → Calls Try.prog 46 #[.pointer (some ⟨g, 0, none⟩), .func (.func 54) #[] #[.pointer (some ⟨W.heap.size, 0, none⟩)]] ((W.alloc (.cells #[.slice A m cap] 37)).drewN n') fun e w' => e = .returned (.int .i64 0) ∧ ∃ v', Wr w' B g v' (bs ++ ris l) ∧ Wch ((W.alloc (.cells #[.slice A m cap] 37)).drewN n') w' g v v') := fun n' h =>
    put_Rising B g W.heap.size v bs (bs ++ ris l) _ ⟨hwa.blk, hwa.own⟩ (HRI.out n' h)
  have HA := Lib.hid hal
  have HWA := Lib.hid hwa
  have HML := Lib.hid hml
  have hcm : m ≤ cap ∧ cap ≤ maxLen := by obtain ⟨_, _, hv, h1, h2, _⟩ := hr; cases hv; exact ⟨h1, h2⟩
  obtain ⟨hcm1, hcm2⟩ := hcm
  unfold maxLen at hcm2
  have hx0 : (W.alloc (.cells #[.slice A m cap] 37)).cell? ⟨W.heap.size, 0, none⟩ = some (.slice A m cap) := HBK.out.cell 0
  obtain ⟨wa, hwa0⟩ : ∃ wa, W.alloc (.cells #[.slice A m cap] 37) = wa := ⟨_, rfl⟩
  have HW0 := Lib.hid hwa0
  have HX0 : Hid (wa.cell? ⟨W.heap.size, 0, none⟩ = some (.slice A m cap)) := hwa0 ▸ hx0
  rw [hwa0] at HR HP HWA HA
  clear hwa hw hal hr hml hne hrg hwa0 HRI HBK hx0
  go_enter Try.func25, Try.ntmps25
  go_wp2
  rw [HW0.out]
  go_loopw [10] (fun q wr => ∃ k n' : Nat, q = .int .i64 k ∧ k ≤ m ∧ wr = wa.drewN n' ∧ ∀ (i : Nat) (x y : Int), i + 1 < k → l[i]? = some x → l[i + 1]? = some y → x < y) (fun q _ => m - (intOf q).toNat)
  case atStart => exact ⟨0, 0, rfl, Nat.zero_le _, rfl, fun i x y h => by omega⟩
  case round =>
    obtain ⟨k, n', rfl, hk, rfl, hal⟩ := hrel
    have HAL := Lib.hid hal
    have x0 : wa.cell? ⟨W.heap.size, 0, none⟩ = some (.slice A m cap) := HX0.out
    clear hal
    by_cases hkm : k < m
    · obtain ⟨_, _, hv, -, -, hx⟩ := HR.out
      cases hv
      obtain ⟨q, off, rfl, hgl, hx⟩ := hx (by omega)
      obtain ⟨x, hxk⟩ : ∃ x, l[k]? = some x := ⟨_, List.getElem?_eq_getElem (by have := HML.out; omega)⟩
      have z0 : wa.cell? ⟨q, off + k, none⟩ = some (.int .i64 x) := hx k _ (ic_at hxk)
      cases k with
      | zero =>
        simp only [Nat.add_zero] at z0
        clear hx hxk
        go_wp2
        go_quiet (fail)
        go_wp2
        go_roundw
        case rel => exact ⟨1, _, by go_num, by omega, rfl, fun i x y h => by omega⟩
        case measure => simp [intOf]; omega
      | succ k =>
        obtain ⟨y, hyk⟩ : ∃ y, l[k]? = some y := ⟨_, List.getElem?_eq_getElem (by have := HML.out; omega)⟩
        have z1 : wa.cell? ⟨q, off + k, none⟩ = some (.int .i64 y) := hx k _ (ic_at hyk)
        have HXK := Lib.hid hxk
        have HYK := Lib.hid hyk
        clear hx hxk hyk
        by_cases hlt : y < x
        · have hle : decide (x ≤ y) = false := by simp; omega
          go_wp2
          go_quiet (fail)
          go_wp2
          go_roundw
          case rel => exact ⟨k + 1 + 1, _, by go_num, by omega, rfl, fun i a b h ha hb => by
            by_cases hi : i + 1 < k + 1
            · exact HAL.out i a b hi ha hb
            · obtain rfl : i = k := by omega
              have e1 := ha.symm.trans HYK.out
              have e2 := hb.symm.trans HXK.out
              cases e1; cases e2; exact hlt⟩
          case measure => simp [intOf]; omega
        · have hle : decide (x ≤ y) = true := by simp; omega
          have hno : ¬ Rises l := rises_not HYK.out HXK.out hlt
          have HNO := Lib.hid hno
          clear hno
          go_wp2
          go_quiet (fail)
          go_wp2
          go_ret
          exact ⟨fun h => absurd h HNO.out, fun _ => ⟨rfl, ⟨HWA.out.blk, HWA.out.own⟩, (Wch.of_below HA.out g v).trans ⟨rfl, rfl, rfl, Nat.le_refl _, fun _ _ _ _ => rfl, fun _ h => .inl h⟩⟩⟩
    · have hri : Rises l := fun i x y h1 h2 => HAL.out i x y (by have := (List.getElem?_eq_some_iff.1 h2).1; have := HML.out; omega) h1 h2
      have HRI := Lib.hid hri
      clear hri
      go_wp2_with (first
        | (go_at_call 46; (with_reducible refine (HP.out n' HRI.out).mono ?_); rintro e w2 ⟨rfl, v2, hw2, hc2⟩; have HW2 := Lib.hid hw2; have HC2 := Lib.hid hc2; clear hw2 hc2))
      go_ret
      exact ⟨fun _ => ⟨rfl, v2, HW2.out, (Wch.of_below HA.out g v).trans ⟨HC2.out.os, HC2.out.tape, HC2.out.output, HC2.out.size, HC2.out.block, HC2.out.at_⟩⟩, fun h => absurd HRI.out h⟩
end Go.Proofs.Ytmcgagjjgomkeaa
