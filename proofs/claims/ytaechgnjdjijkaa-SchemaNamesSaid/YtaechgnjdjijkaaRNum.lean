/- The walk of the reader's Number. -/
import Derived.Test.YtaechgnjdjijkaaRdr
import Derived.Test.YtaechgnjdjijkaaScope2
namespace Go.Proofs.Ytaechgnjdjijkaa
open Go.RowKit Go.Lib

/-- The number form with which bytes begin: the number, how many bytes, the error. -/
def rdN : Nat → Nat → List UInt8 → Nat × Nat × Nat
  | _, _, [] => (0, 0, 110)
  | i, x, b :: r => if i = 9 ∧ b.toNat ≠ 1 then (0, 0, 111) else if 128 ≤ b.toNat then rdN (i + 1) (x + b.toNat % 128 * 128 ^ i) r else if 0 < i ∧ b.toNat = 0 then (0, 0, 111) else (x + b.toNat % 128 * 128 ^ i, i + 1, 0)

def intAt (a : Act) (i : Nat) : Nat := match a.tmps.getD i undef with | .int _ n => n.toNat | _ => 0
/-- What holds at the label 'next'. -/
def Nx (g at_ : Nat) (bs : List UInt8) (W : World) (a : Act) (w : World) : Prop :=
  w = W ∧ ∃ (i x p sh : Nat) (u7 u8 u9 u10 u11 u12 u13 u14 u15 u16 u17 u18 u19 u20 u21 u22 u23 u24 u25 u26 u27 u28 u29 u30 u31 u32 u33 u34 u35 u36 u37 u38 u39 u40 u41 u42 u43 u44 u45 u46 u47 u48 u49 u50 u51 u52 u53 u54 u55 u56 u57 : Value), a = { tmps := #[.pointer (some ⟨g, 0, none⟩), undef, .int .u64 0, .int .i64 0, .int .u64 (x : Int), .int .i64 (p : Int), .int .i64 (sh : Int), u7, u8, u9, u10, u11, u12, u13, u14, u15, u16, u17, u18, u19, u20, u21, u22, u23, u24, u25, u26, u27, u28, u29, u30, u31, u32, u33, u34, u35, u36, u37, u38, u39, u40, u41, u42, u43, u44, u45, u46, u47, u48, u49, u50, u51, u52, u53, u54, u55, u56, u57], defers := [] } ∧ p = at_ + i ∧ sh = 7 * i ∧ i ≤ 9 ∧ p ≤ bs.length ∧ x < 128 ^ i ∧ rdN 0 0 (bs.drop at_) = rdN i x (bs.drop p)
/-- What holds at the label 'bad'. -/
def Bd (g at_ : Nat) (bs : List UInt8) (W : World) (a : Act) (w : World) : Prop :=
  w = W ∧ ∃ (u2 u3 u4 u5 u6 u7 u8 u9 u10 u11 u12 u13 u14 u15 u16 u17 u18 u19 u20 u21 u22 u23 u24 u25 u26 u27 u28 u29 u30 u31 u32 u33 u34 u35 u36 u37 u38 u39 u40 u41 u42 u43 u44 u45 u46 u47 u48 u49 u50 u51 u52 u53 u54 u55 u56 u57 : Value), a = { tmps := #[.pointer (some ⟨g, 0, none⟩), undef, u2, u3, u4, u5, u6, u7, u8, u9, u10, u11, u12, u13, u14, u15, u16, u17, u18, u19, u20, u21, u22, u23, u24, u25, u26, u27, u28, u29, u30, u31, u32, u33, u34, u35, u36, u37, u38, u39, u40, u41, u42, u43, u44, u45, u46, u47, u48, u49, u50, u51, u52, u53, u54, u55, u56, u57], defers := [] } ∧ rdN 0 0 (bs.drop at_) = (0, 0, 111)

theorem or_step {x y sh i : Nat} {z : Int} (hz : z = (y : Int)) (hx : x < 128 ^ i) (hsh : sh = 7 * i) (hy : y < 256) (hlt : y % 128 * 128 ^ i < 18446744073709551616) (hx2 : x < 18446744073709551616) : bits .or .u64 (x : Int) (IntKind.u64.wrap (IntKind.u64.wrap (bits .and .u8 z 127) * 2 ^ sh)) = ((x + y % 128 * 128 ^ i : Nat) : Int) := by
  subst hz
  have h1 : bits .and .u8 (y : Int) 127 = ((y % 128 : Nat) : Int) := by
    have h := u8_and_nat y 127 hy (by decide)
    rw [show (127 : Nat) = 2 ^ 7 - 1 from rfl, Nat.and_two_pow_sub_one_eq_mod] at h
    exact h
  have hm : y % 128 < 128 := Nat.mod_lt _ (by decide)
  have hp : (128 : Nat) ^ i = 2 ^ sh := by rw [hsh, Nat.pow_mul]
  rw [h1, show IntKind.u64.wrap ((y % 128 : Nat) : Int) = ((y % 128 : Nat) : Int) from IntWalk.u64_in _ (by omega)]
  rw [hp] at hx hlt ⊢
  rw [show ((y % 128 : Nat) : Int) * 2 ^ sh = ((y % 128 * 2 ^ sh : Nat) : Int) by push_cast; rfl]
  rw [IntWalk.u64_in _ (by omega), u64_or_nat _ _ hx2 hlt]
  congr 1
  rw [Nat.or_comm, Nat.mul_comm, ← Nat.two_pow_add_eq_or_of_lt hx, Nat.add_comm]
theorem ret_u64_ok {z z' : Int} (h : z = z') : Ending.returned (.tuple #[.int .u64 z, .int .i64 0]) = Ending.returned (.tuple #[.int .u64 z', .int .i64 0]) := by rw [h]
theorem pow128_le {i : Nat} (h : i ≤ 9) : (128 : Nat) ^ i ≤ 9223372036854775808 := by
  have := Nat.pow_le_pow_right (n := 128) (by decide) h
  exact Nat.le_trans this (by decide)
theorem or_lt {y i : Nat} (h : i < 9) : y % 128 * 128 ^ i < 18446744073709551616 := by
  have h1 := Nat.pow_le_pow_right (n := 128) (by decide) (show i ≤ 8 by omega)
  have h2 : y % 128 < 128 := Nat.mod_lt _ (by decide)
  calc y % 128 * 128 ^ i ≤ 127 * 128 ^ 8 := Nat.mul_le_mul (by omega) h1
    _ < _ := by decide
theorem or_grow {x y i : Nat} (hx : x < 128 ^ i) : x + y % 128 * 128 ^ i < 128 ^ (i + 1) := by
  have h2 : y % 128 < 128 := Nat.mod_lt _ (by decide)
  have h3 : y % 128 * 128 ^ i ≤ 127 * 128 ^ i := Nat.mul_le_mul_right _ (by omega)
  rw [Nat.pow_succ]
  omega

set_option maxRecDepth 100000 in
set_option maxHeartbeats 4000000 in
theorem RNumber_any (B g at_ : Nat) (v : Value) (bs : List UInt8) (W : World) (h : Rr W B g v bs at_) :
    Calls Try.prog 40 #[.pointer (some ⟨g, 0, none⟩)] W fun e w' =>
      ((rdN 0 0 (bs.drop at_)).2.2 = 0 → e = .returned (.tuple #[.int .u64 ((rdN 0 0 (bs.drop at_)).1 : Int), .int .i64 0]) ∧ W.setCell ⟨g, 1, none⟩ (.int .i64 ((at_ + (rdN 0 0 (bs.drop at_)).2.1 : Nat) : Int)) = w') ∧
      ((rdN 0 0 (bs.drop at_)).2.2 ≠ 0 → e = .returned (.tuple #[.int .u64 0, .int .i64 ((rdN 0 0 (bs.drop at_)).2.2 : Int)]) ∧ W = w') := by
  have x0 : W.cell? ⟨g, 0, none⟩ = some v := h.blk.cell 0
  have x1 : W.cell? ⟨g, 1, none⟩ = some (.int .i64 (at_ : Int)) := h.blk.cell 1
  have f1 := h.blk.frozen 1
  obtain ⟨a, c, rfl, hc, hm⟩ := ownsRow_shape h.own
  have hle := h.le
  have HO := Lib.hid h.own
  unfold maxLen at hm
  obtain ⟨n, hn⟩ : ∃ n, bs.length = n := ⟨_, rfl⟩
  rw [hn] at x0 hc hle
  have HN := Lib.hid hn
  clear h hn
  go_enter Try.func40, Try.ntmps40
  go_wp2
  refine wp_scope_two' 0 1 (Nx g at_ bs W) (Bd g at_ bs W) (fun a _ => n - intAt a 5) rfl rfl ?_ ?_ ?_
  · intro hpass
    have HPASS := Lib.hid hpass
    clear hpass
    go_wp2
    go_step3
    rename_i hK
    refine hK _ _ (HPASS.out _ _ ⟨rfl, 0, 0, at_, 0, ?_⟩)
    exact ⟨_, _, _, _, _, _, _, _, _, _, _, _, _, _, _, _, _, _, _, _, _, _, _, _, _, _, _, _, _, _, _, _, _, _, _, _, _, _, _, _, _, _, _, _, _, _, _, _, _, _, _, rfl, rfl, rfl, Nat.zero_le _, by have := HN.out; omega, Nat.one_pos, rfl⟩
  · rintro a' w' ⟨rfl, i, x, p, sh, u7, u8, u9, u10, u11, u12, u13, u14, u15, u16, u17, u18, u19, u20, u21, u22, u23, u24, u25, u26, u27, u28, u29, u30, u31, u32, u33, u34, u35, u36, u37, u38, u39, u40, u41, u42, u43, u44, u45, u46, u47, u48, u49, u50, u51, u52, u53, u54, u55, u56, u57, rfl, hp, hsh, hi, hpl, hx, hr⟩
    have HR := Lib.hid hr
    have HP := Lib.hid hp
    have HSH := Lib.hid hsh
    have HX := Lib.hid hx
    have hpn : p ≤ n := by have := HN.out; omega
    have hsl : sh ≤ 63 := by omega
    clear hr hp hsh hpl hx
    by_cases hpe : p < n
    · obtain ⟨q, rfl, hq1, hq2, _, _, hcell, _⟩ := ownsRow_at HO.out (by have := HN.out; omega)
      obtain ⟨b, hb⟩ : ∃ b, bs[p]? = some b := ⟨_, List.getElem?_eq_getElem (by have := HN.out; omega)⟩
      have z0 := hcell p _ (bc_at hb)
      have hdr : bs.drop p = b :: bs.drop (p + 1) := by rw [List.drop_eq_getElem_cons (by have := HN.out; omega)]; rw [(List.getElem?_eq_some_iff.1 hb).2]
      have HDR := Lib.hid hdr
      obtain ⟨y, hy⟩ : ∃ y : Nat, b.toNat = y := ⟨_, rfl⟩
      have hyl : y < 256 := by have := b.toNat_lt; omega
      rw [hy] at z0
      have HY := Lib.hid hy
      clear hcell hb hdr hy
      have hpe' : ((p : Int) == (n : Int)) = false := by simp; omega
      by_cases hs63 : sh = 63
      · have h63 : ((sh : Int) == 63) = true := by simp; omega
        have hi9 : i = 9 := by have := HSH.out; omega
        by_cases hy1 : y = 1
        · have hbits := or_step (y := y) (z := 1) (by omega) HX.out HSH.out hyl (by subst hy1; subst hi9; decide) (by have := HX.out; have := pow128_le hi; omega)
          have hret : rdN 0 0 (bs.drop at_) = (x + y % 128 * 128 ^ i, i + 1, 0) := by
            rw [HR.out, HDR.out]
            unfold rdN
            rw [if_neg (by rw [HY.out]; omega), if_neg (by rw [HY.out]; omega), if_neg (by rw [HY.out]; omega), HY.out]
          subst hy1
          have HRET := Lib.hid hret
          clear hret
          go_wp2
          rw [jump2_ret]
          go_ret2
          rw [HRET.out]
          refine ⟨fun _ => ⟨?_, ?_⟩, fun h => absurd rfl h⟩
          · rw [show (2 : Int) ^ sh = 9223372036854775808 by rw [hs63]; rfl] at hbits
            exact ret_u64_ok hbits
          · rw [show ((at_ + (i + 1) : Nat) : Int) = (p : Int) + 1 by have := HP.out; omega]
        · have hret : rdN 0 0 (bs.drop at_) = (0, 0, 111) := by
            rw [HR.out, HDR.out]
            unfold rdN
            rw [if_pos ⟨hi9, by rw [HY.out]; exact hy1⟩]
          have hy1a : ((y : Int) == 1) = false := by simp; omega
          have hy1b : ((y : Int) != 1) = true := by simp; omega
          have HRET := Lib.hid hret
          clear hret
          go_wp2
          go_step3
          refine .inr ⟨rfl, rfl, ?_⟩
          exact ⟨_, _, _, _, _, _, _, _, _, _, _, _, _, _, _, _, _, _, _, _, _, _, _, _, _, _, _, _, _, _, _, _, _, _, _, _, _, _, _, _, _, _, _, _, _, _, _, _, _, _, _, _, _, _, _, _, rfl, HRET.out⟩
      · have h63 : ((sh : Int) == 63) = false := by simp; omega
        have hi9 : i < 9 := by have := HSH.out; omega
        have hbits := or_step (y := y) rfl HX.out HSH.out hyl (or_lt hi9) (by have := HX.out; have := pow128_le hi; omega)
        by_cases hy7 : 127 < y
        · have hy7' : decide ((127 : Int) < (y : Int)) = true := by simp; omega
          have hret : rdN 0 0 (bs.drop at_) = rdN (i + 1) (x + y % 128 * 128 ^ i) (bs.drop (p + 1)) := by
            rw [HR.out, HDR.out]
            conv => lhs; unfold rdN
            rw [if_neg (by omega), if_pos (by rw [HY.out]; omega), HY.out]
          have HRET := Lib.hid hret
          clear hret
          go_wp2
          go_step3
          refine .inl ⟨rfl, ⟨rfl, i + 1, x + y % 128 * 128 ^ i, p + 1, sh + 7, ?_⟩, ?_⟩
          · exact ⟨_, _, _, _, _, _, _, _, _, _, _, _, _, _, _, _, _, _, _, _, _, _, _, _, _, _, _, _, _, _, _, _, _, _, _, _, _, _, _, _, _, _, _, _, _, _, _, _, _, _, _, rfl, by have := HP.out; omega, by have := HSH.out; omega, by omega, by have := HN.out; omega, or_grow HX.out, HRET.out⟩
          · show n - ((p : Int) + 1).toNat < n - ((p : Int)).toNat
            omega
        · have hy7' : decide ((127 : Int) < (y : Int)) = false := by simp; omega
          by_cases hb0 : 0 < i ∧ y = 0
          · have hret : rdN 0 0 (bs.drop at_) = (0, 0, 111) := by
              rw [HR.out, HDR.out]
              unfold rdN
              rw [if_neg (by omega), if_neg (by rw [HY.out]; omega), if_pos (by rw [HY.out]; exact hb0)]
            have hy0 : ((y : Int) == 0) = true := by simp; omega
            have hs0 : decide (0 < sh) = true := by have := HSH.out; simp; omega
            have HRET := Lib.hid hret
            clear hret
            go_wp2
            go_step3
            refine .inr ⟨rfl, rfl, ?_⟩
            exact ⟨_, _, _, _, _, _, _, _, _, _, _, _, _, _, _, _, _, _, _, _, _, _, _, _, _, _, _, _, _, _, _, _, _, _, _, _, _, _, _, _, _, _, _, _, _, _, _, _, _, _, _, _, _, _, _, _, rfl, HRET.out⟩
          · have hret : rdN 0 0 (bs.drop at_) = (x + y % 128 * 128 ^ i, i + 1, 0) := by
              rw [HR.out, HDR.out]
              unfold rdN
              rw [if_neg (by omega), if_neg (by rw [HY.out]; omega), if_neg (by rw [HY.out]; exact hb0), HY.out]
            have HRET := Lib.hid hret
            clear hret
            by_cases hy0 : y = 0
            · have hy0' : ((y : Int) == 0) = true := by simp; omega
              have hs0 : decide (0 < sh) = false := by have := HSH.out; simp; omega
              go_wp2
              rw [jump2_ret]
              go_ret2
              rw [HRET.out]
              refine ⟨fun _ => ⟨?_, ?_⟩, fun h => absurd rfl h⟩
              · exact ret_u64_ok (or_step (y := y) (z := 0) (by omega) HX.out HSH.out hyl (or_lt hi9) (by have := HX.out; have := pow128_le hi; omega))
              · rw [show ((at_ + (i + 1) : Nat) : Int) = (p : Int) + 1 by have := HP.out; omega]
            · have hy0' : ((y : Int) == 0) = false := by simp; omega
              go_wp2
              rw [jump2_ret]
              go_ret2
              rw [HRET.out]
              refine ⟨fun _ => ⟨?_, ?_⟩, fun h => absurd rfl h⟩
              · exact ret_u64_ok (by show _ = ((x + y % 128 * 128 ^ i : Nat) : Int); push_cast; first | done | rfl)
              · rw [show ((at_ + (i + 1) : Nat) : Int) = (p : Int) + 1 by have := HP.out; omega]
    · have hpn2 : p = n := by omega
      have hpe' : ((p : Int) == (n : Int)) = true := by simp; omega
      have hret : rdN 0 0 (bs.drop at_) = (0, 0, 110) := by
        rw [HR.out, List.drop_eq_nil_of_le (by have := HN.out; omega)]
        unfold rdN
        rfl
      have HRET := Lib.hid hret
      clear hret
      go_wp2
      rw [jump2_ret]
      go_ret2
      rw [HRET.out]
      exact ⟨fun h => (by cases h), fun _ => ⟨rfl, rfl⟩⟩
  · rintro a' w' ⟨rfl, u2, u3, u4, u5, u6, u7, u8, u9, u10, u11, u12, u13, u14, u15, u16, u17, u18, u19, u20, u21, u22, u23, u24, u25, u26, u27, u28, u29, u30, u31, u32, u33, u34, u35, u36, u37, u38, u39, u40, u41, u42, u43, u44, u45, u46, u47, u48, u49, u50, u51, u52, u53, u54, u55, u56, u57, rfl, hr⟩
    have HR := Lib.hid hr
    clear hr
    go_wp2
    rw [Exit.noGoto_ret]
    go_ret2
    rw [HR.out]
    exact ⟨fun h => (by cases h), fun _ => ⟨rfl, rfl⟩⟩
end Go.Proofs.Ytaechgnjdjijkaa
