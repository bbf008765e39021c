/- The document's reader: Rising. -/
import Derived.Test.YtmcgagjjgomkeaaDf3
import Derived.Test.YtmcgagjjgomkeaaRef2
namespace Go.Proofs.Ytmcgagjjgomkeaa
open Go.RowKit Go.Lib

section
variable {W0 w w' : World} {d : Nat} {A : Option Addr} {m cap : Nat} {bs : List UInt8} {at_ : Nat}
set_option maxRecDepth 100000 in
theorem dRising_neg (n : Int) (hn : n < 0) (h : Df W0 w d A m cap bs at_) : Calls Try.prog 65 #[.pointer (some ⟨d, 0, none⟩), .int .i64 n] w fun e w' => e = .returned (.tuple #[.slice none 0 0, .int .i64 2]) ∧ Df W0 w' d A m cap bs at_ ∧ w.grownBy w' (some d) := by
  have x1 : w.cell? ⟨d, 1, none⟩ = some (.int .i64 (at_ : Int)) := h.blk.cell 1
  have f1 := h.blk.frozen 1
  have HS := Lib.hid (h.stepTo at_ h.le)
  have HL := Lib.hid (dlength_neg n hn ⟨d, 0, none⟩ w)
  clear h hn
  go_enter Try.func65, Try.ntmps65
  go_wp2_with (first
    | (go_at_call 70; (with_reducible refine HL.out.mono ?_); rintro e w1 ⟨rfl, rfl⟩))
  refine wp_loop_rounds 1 ?_
  rw [rounds_succ]
  go_wp2
  go_ret2
  exact ⟨rfl, HS.out.1, HS.out.2⟩
set_option maxRecDepth 100000 in
theorem dRising_head (mo : Nat) (hmo : mo ≤ 9223372036854775807) (h : Df W0 w d A m cap bs at_) (he : hdE mo (rdAt bs at_) ≠ 0) :
    Calls Try.prog 65 #[.pointer (some ⟨d, 0, none⟩), .int .i64 (mo : Int)] w fun e w' => e = .returned (.tuple #[.slice none 0 0, .int .i64 (hdE mo (rdAt bs at_) : Int)]) ∧ Df W0 w' d A m cap bs at_ ∧ w.grownBy w' (some d) := by
  have x1 : w.cell? ⟨d, 1, none⟩ = some (.int .i64 (at_ : Int)) := h.blk.cell 1
  have HLN := Lib.hid (dlength_g mo hmo h)
  have HLE : Hid (at_ ≤ m) := h.le
  have hX : lnX mo (rdAt bs at_) = 0 := by unfold lnX; rw [if_neg he]
  rw [hX] at HLN
  clear h hX
  generalize hdE mo (rdAt bs at_) = T at *
  generalize rdAt bs at_ = R at *
  obtain ⟨x, n, z⟩ := R
  have h1 : ((T : Int) == 0) = false := by simp; omega
  have h2 : ((T : Int) != 0) = true := by simp; omega
  clear he
  go_enter Try.func65, Try.ntmps65
  go_wp2_with (first
    | (go_at_call 70; (with_reducible refine HLN.out.mono ?_); rintro e w1 ⟨rfl, h1, h2⟩
       have f2 := h1.blk.frozen 1
       have y1 : w1.cell? ⟨d, 1, none⟩ = some (.int .i64 ((at_ + n : Nat) : Int)) := h1.blk.cell 1
       have HS := Lib.hid (h1.stepTo at_ HLE.out); have H2 := Lib.hid h2; clear h1 h2))
  refine wp_loop_rounds 1 ?_
  rw [rounds_succ]
  go_wp2
  go_ret2
  exact ⟨rfl, HS.out.1, only_step H2.out HS.out.2 (fun b e => .inl e)⟩
/-- What holds between the rounds: so many to come. -/
structure Dn (W0 W1 : World) (d : Nat) (A : Option Addr) (m cap : Nat) (bs : List UInt8) (RES : List Int × Nat × Nat) (x r at_ : Nat) (out : List Int) (q : Value) (w : World) : Prop where
  res : rgL bs r at_ out = RES
  rd : Df W0 w d A m cap bs at_
  gr : W1.grownBy w (some d)
  own : w.ownsRow W1.heap.size 2 1 q out.length (ic out)
  rg : ∀ a ∈ out, I64 a
  nx : out.length + r = x
  na : out.length ≤ at_
theorem Dn.more {W0 W1 w w1 w2 : World} {d : Nat} {A : Option Addr} {m cap x r at_ : Nat} {q q2 : Value} {bs : List UInt8} {RES : List Int × Nat × Nat} {out : List Int} {n : Nat} {u : Int}
    (h : Dn W0 W1 d A m cap bs RES x (r + 1) at_ out q w) (hW : W0.heap.size ≤ W1.heap.size)
    (hr1 : Df W0 w1 d A m cap bs (at_ + n)) (hg1 : w.grownBy w1 (some d)) (hn : 0 < n)
    (hg2 : Grew w1 w2 q q2) (ho2 : w2.ownsRow W1.heap.size 2 1 q2 (out.length + 1) (ic out ++ [.int .i64 u]))
    (hres : rgL bs r (at_ + n) (out ++ [u]) = RES) (hu : I64 u) : Dn W0 W1 d A m cap bs RES x r (at_ + n) (out ++ [u]) q2 w2 := by
  have ko : w1.ownsRow W1.heap.size 2 1 q out.length (ic out) := h.own.kept hg1 (.inr (own_bk_ne h.own h.rd.blk (by decide)))
  have hne := own_bk_ne ko hr1.blk (by decide)
  refine ⟨hres, hr1.grown hg2.only (fun b e => ⟨Nat.le_trans hW (own_lt ko e).1, fun hd => hne (by rw [e, hd])⟩), only_step (only_step h.gr hg1 (fun b e => .inl e)) hg2.only (fun b e => .inr (own_lt ko e).1), ?_, ?_, ?_, ?_⟩
  · have e1 : (out ++ [u]).length = out.length + 1 := by simp
    have e2 : ic (out ++ [u]) = ic out ++ [.int .i64 u] := by simp [ic]
    rw [e1, e2]
    exact ho2
  · intro a ha
    rcases List.mem_append.1 ha with h1 | h1
    · exact h.rg a h1
    · simp only [List.mem_singleton] at h1; subst h1; exact hu
  · have := h.nx; simp; omega
  · have := h.na; simp; omega
/-- What a list's reading leaves. -/
def RisD (W0 W1 : World) (d : Nat) (A : Option Addr) (m cap : Nat) (bs : List UInt8) (at_ : Nat) (RES : List Int × Nat × Nat) (e : Ending) (w' : World) : Prop :=
  W1.grownBy w' (some d) ∧ (RES.2.2 ≠ 0 → e = .returned (.tuple #[.slice none 0 0, .int .i64 (RES.2.2 : Int)]) ∧ Df W0 w' d A m cap bs at_) ∧
    (RES.2.2 = 0 → Df W0 w' d A m cap bs RES.2.1 ∧ ∃ q, e = .returned (.tuple #[q, .int .i64 0]) ∧ w'.ownsRow W1.heap.size 2 1 q RES.1.length (ic RES.1))
set_option maxRecDepth 100000 in
set_option maxHeartbeats 1000000 in
theorem dRising_list (mo : Nat) (hmo : mo ≤ 9223372036854775807) (h : Df W0 w d A m cap bs at_) (h0 : hdE mo (rdAt bs at_) = 0) (hroom : bs.length ≤ 1099511627776) :
    Calls Try.prog 65 #[.pointer (some ⟨d, 0, none⟩), .int .i64 (mo : Int)] w fun e w' => RisD W0 w d A m cap bs at_ (rgL bs (rdAt bs at_).1 (at_ + (rdAt bs at_).2.1) []) e w' := by
  obtain ⟨i0, hi0, hz0, hz1, hz2⟩ := info_parts i64Info
  have x1 : w.cell? ⟨d, 1, none⟩ = some (.int .i64 (at_ : Int)) := h.blk.cell 1
  have hLN := dlength_g mo hmo h
  have HLE : Hid (at_ ≤ m) := h.le
  have HW : Hid (W0.heap.size ≤ w.heap.size) := h.bel.size
  have hX : lnX mo (rdAt bs at_) = (rdAt bs at_).1 := by unfold lnX; rw [if_pos h0]
  rw [hX, h0] at hLN
  have HLN := Lib.hid hLN
  have hx := (rdAt_facts bs at_ (by rw [h.len]; exact h.le)).1
  have HLEN := Lib.hid h.len
  clear h hX h0 hLN
  generalize rdAt bs at_ = R at *
  obtain ⟨x, n0, z0⟩ := R
  have HN0 : Hid (∀ w1, Df W0 w1 d A m cap bs (at_ + n0) → w.grownBy w1 (some d) → Dn W0 w d A m cap bs (rgL bs x (at_ + n0) []) x x (at_ + n0) [] (.slice none 0 0) w1) := fun w1 h1 h2 => ⟨rfl, h1, h2, World.ownsRow_nil _ _ _ _, fun a ha => (by cases ha), Nat.zero_add _, Nat.zero_le _⟩
  have hx : x < 18446744073709551616 := hx
  change Calls _ _ _ _ (fun e w' => RisD W0 w d A m cap bs at_ (rgL bs x (at_ + n0) []) e w')
  generalize rgL bs x (at_ + n0) [] = RES at *
  go_enter Try.func65, Try.ntmps65
  go_wp2_with (first
    | (go_at_call 70; (with_reducible refine HLN.out.mono ?_); rintro e w1 ⟨rfl, h1, h2⟩
       have HS := Lib.hid (HN0.out w1 h1 h2); clear h1 h2))
  go_loopw [8, 9, 10] (fun e o i wr => ∃ (k r : Nat) (out : List Int) (q : Value), e = .int .i64 0 ∧ o = q ∧ i = .int .u64 (out.length : Int) ∧ Dn W0 w d A m cap bs RES x r k out q wr) (fun _ _ i _ => x - (intOf i).toNat)
  case atStart => exact ⟨_, x, [], _, rfl, rfl, rfl, HS.out⟩
  case round =>
    obtain ⟨k, r, out, q, rfl, rfl, rfl, hrn⟩ := hrel
    have HR := Lib.hid hrn
    have hnx := hrn.nx
    have hna := hrn.na
    have hle := hrn.rd.le
    have HNUM := Lib.hid (dNumber_g hrn.rd)
    have hfa := rdAt_facts bs k (by rw [HLEN.out]; exact hle)
    have f1 := hrn.rd.blk.frozen 1
    have y1 : wr.cell? ⟨d, 1, none⟩ = some (.int .i64 (k : Int)) := hrn.rd.blk.cell 1
    have HSK := Lib.hid (hrn.rd.stepTo at_ HLE.out)
    obtain ⟨qa, qc, rfl, _, _⟩ := ownsRow_shape hrn.own
    clear hrn
    cases r with
    | zero =>
      have hres : (out, k, 0) = RES := HR.out.res
      have HRES := Lib.hid hres
      have hlt : decide (out.length < x) = false := by simp; omega
      clear hres hfa
      obtain ⟨L, hL⟩ : ∃ L, out.length = L := ⟨_, rfl⟩
      rw [hL] at hlt ⊢
      have HLL := Lib.hid hL
      clear hL hnx hna
      go_wp2
      go_ret2
      refine ⟨HR.out.gr, fun hh => absurd (by rw [← HRES.out]) hh, fun _ => ⟨by rw [← HRES.out]; exact HR.out.rd, _, rfl, by rw [← HRES.out, ← HLL.out]; exact HR.out.own⟩⟩
    | succ r =>
      have hlt : decide (out.length < x) = true := by simp; omega
      by_cases hz : (rdAt bs k).2.2 = 0
      · obtain ⟨hn0, hn1⟩ : 0 < (rdAt bs k).2.1 ∧ (rdAt bs k).1 < 18446744073709551616 := ⟨hfa.2.2.1 hz, hfa.1⟩
        have hbb : k + (rdAt bs k).2.1 ≤ bs.length := hfa.2.1
        have hL : out.length + 1 ≤ 1099511627776 := by omega
        have HU := Lib.hid (fun w => refUnfold_any (rdAt bs k).1 w hn1)
        have hres : RES = (if out.length = 0 then rgL bs r (k + (rdAt bs k).2.1) (out ++ [unz (rdAt bs k).1]) else if 9223372036854775807 ≤ out.getD (out.length - 1) 0 + (rdAt bs k).1 then (out, k, 112) else rgL bs r (k + (rdAt bs k).2.1) (out ++ [out.getD (out.length - 1) 0 + (rdAt bs k).1 + 1])) := by rw [← HR.out.res, rgL, if_neg (by simpa using hz)]
        have HRES := Lib.hid hres
        clear hfa hres
        generalize rdAt bs k = R at *
        obtain ⟨y, n, z⟩ := R
        have hz' : z = 0 := hz
        subst hz'
        by_cases h0 : out.length = 0
        · have ho0 : out = [] := List.eq_nil_of_length_eq_zero h0
          subst ho0
          have hres2 : Hid (rgL bs r (k + n) ([] ++ [unz y]) = RES) := by have := HRES.out; rw [if_pos h0] at this; exact this.symm
          clear hz h0
          go_wp2_with (first
            | (go_at_call 61; (with_reducible refine HNUM.out.mono ?_); rintro e w1 ⟨rfl, hr1, hg1⟩
               have hoq := HR.out.own.kept hg1 (.inr (own_bk_ne HR.out.own HR.out.rd.blk (by decide)))
               have HOQ := Lib.hid hoq
               have HR1 := Lib.hid hr1; have HG1 := Lib.hid hg1; clear hr1 hg1 hoq
               have HRD := Lib.hid (rd_lit64 w1 #[.int .i64 (unz y)] 1 [unz y] (by decide) rfl rfl)
               have HA := Lib.hid (HOQ.out.alloc (.cells #[.int .i64 (unz y)] 2))
               have HSZ : Hid (w.heap.size ≤ (w1.alloc (.cells #[.int .i64 (unz y)] 2)).heap.size) := by show _ ≤ _; have := HR.out.gr.size; have := HG1.out.size; simp; omega)
            | (go_at_call 69; (with_reducible refine (HU.out _).mono ?_); rintro e wu ⟨rfl, rfl⟩)
            | (at_builtin; refine wpList_append_rd _ rfl (.tmp 41) (.tmp 44) 37 rfl w.heap.size 2 i0 _ 1 8 Try.underlying37 hi0 hz0 hz1 hz2 rfl (by decide) _ 0 _ rfl HA.out (some ⟨w1.heap.size, 0, none⟩) 1 1 [.int .i64 (unz y)] rfl rfl HRD.out (by simp [Value.oneCell']) (by simp only [maxLen]; omega) (by omega) HSZ.out ?_; intro v2 w2 ho2 hg2 hat2
               have hg3 := Grew.of_append hg2 hat2
               have hg4 := (Grew.of_below (below_alloc w1 (.cells #[.int .i64 (unz y)] 2)) _).trans hg3
               have HO2 := Lib.hid ho2
               have HG2 := Lib.hid hg4
               clear ho2 hg2 hg3 hg4 hat2))
          go_roundw
          case rel => exact ⟨_, r, _, _, rfl, rfl, by go_num, Dn.more HR.out HW.out HR1.out HG1.out hn0 HG2.out HO2.out hres2.out (unz_I64 hn1)⟩
          case measure => simp [intOf]; omega
        · obtain ⟨j, hj⟩ : ∃ j, out.length = j + 1 := ⟨out.length - 1, by omega⟩
          obtain ⟨last, hlast⟩ : ∃ last, out[j]? = some last := ⟨_, List.getElem?_eq_getElem (by omega)⟩
          have hgd : out.getD (out.length - 1) 0 = last := by rw [hj, Nat.add_sub_cancel, List.getD, hlast]; rfl
          have hlr := HR.out.rg last (List.mem_of_getElem? hlast)
          have hres3 := HRES.out
          rw [if_neg h0, hgd] at hres3
          have HRES3 := Lib.hid hres3
          have hD : IntKind.u64.wrap (9223372036854775807 - IntKind.u64.wrap last) = ((9223372036854775807 - last).toNat : Int) := by
            have a1 := hlr.1; have a2 := hlr.2
            rw [IntKind.wrap_u64, IntKind.wrap_u64]
            omega
          have hDn : ((9223372036854775807 - last).toNat : Int) = 9223372036854775807 - last := by have := hlr.2; omega
          have hjj : wrap64 ((j : Int) + 1 - 1) = (j : Int) := by rw [Int.add_sub_cancel]; unfold wrap64; omega
          have hj0 : (((j : Int) + 1) == 0) = false := by simp; omega
          have HOL := Lib.hid hlast
          have HLL := Lib.hid hj
          rw [hj] at hlt hnx hL ⊢
          clear hz h0 hres3 HRES hgd hlast hj hna
          by_cases hbig : 9223372036854775807 ≤ last + (y : Int)
          · have hbd : decide (9223372036854775807 - last ≤ (y : Int)) = true := by simp; omega
            have hres4 : Hid ((out, k, 112) = RES) := by have := HRES3.out; rw [if_pos hbig] at this; exact this.symm
            clear HRES3 hbig
            go_wp2_with (first
              | (go_at_call 61; (with_reducible refine HNUM.out.mono ?_); rintro e w1 ⟨rfl, hr1, hg1⟩
                 have hoq := HR.out.own.kept hg1 (.inr (own_bk_ne HR.out.own HR.out.rd.blk (by decide)))
                 rw [HLL.out] at hoq
                 obtain ⟨gq, rfl, _, _, _, _, hcells, _⟩ := ownsRow_at hoq (by omega)
                 have yl : w1.cell? ⟨gq, j, none⟩ = some (.int .i64 last) := hcells j _ (ic_at HOL.out)
                 have f2 := hr1.blk.frozen 1
                 have y2 : w1.cell? ⟨d, 1, none⟩ = some (.int .i64 ((k + n : Nat) : Int)) := hr1.blk.cell 1
                 have HSN := Lib.hid (hr1.stepTo at_ HLE.out)
                 have HG1 := Lib.hid hg1; clear hr1 hg1 hoq hcells))
            go_ret2
            exact ⟨only_step (only_step HR.out.gr HG1.out (fun b e => .inl e)) HSN.out.2 (fun b e => .inl e), fun _ => ⟨by rw [← hres4.out]; rfl, HSN.out.1⟩, fun h => by rw [← hres4.out] at h; cases h⟩
          · have hbd : decide (9223372036854775807 - last ≤ (y : Int)) = false := by simp; omega
            have hres4 : Hid (rgL bs r (k + n) (out ++ [last + y + 1]) = RES) := by have := HRES3.out; rw [if_neg hbig] at this; exact this.symm
            have hwl : wrap64 (wrap64 (last + wrap64 (y : Int)) + 1) = last + y + 1 := by have := hlr.1; unfold wrap64; omega
            have hI : I64 (last + y + 1) := ⟨by have := hlr.1; omega, by omega⟩
            have HI := Lib.hid hI
            clear HRES3 hbig hI
            go_wp2_with (first
              | (go_at_call 61; (with_reducible refine HNUM.out.mono ?_); rintro e w1 ⟨rfl, hr1, hg1⟩
                 have hoq := HR.out.own.kept hg1 (.inr (own_bk_ne HR.out.own HR.out.rd.blk (by decide)))
                 rw [HLL.out] at hoq
                 obtain ⟨gq, rfl, _, _, _, _, hcells, _⟩ := ownsRow_at hoq (by omega)
                 have yl : w1.cell? ⟨gq, j, none⟩ = some (.int .i64 last) := hcells j _ (ic_at HOL.out)
                 have HRD := Lib.hid (rd_lit64 w1 #[.int .i64 (last + y + 1)] 1 [last + y + 1] (by decide) rfl rfl)
                 have HA := Lib.hid (hoq.alloc (.cells #[.int .i64 (last + y + 1)] 2))
                 have HSZ : Hid (w.heap.size ≤ (w1.alloc (.cells #[.int .i64 (last + y + 1)] 2)).heap.size) := by show _ ≤ _; have := HR.out.gr.size; have := hg1.size; simp; omega
                 have HR1 := Lib.hid hr1; have HG1 := Lib.hid hg1; clear hr1 hg1 hoq hcells)
              | (at_builtin; refine wpList_append_rd _ rfl (.tmp 57) (.tmp 63) 37 rfl w.heap.size 2 i0 _ 1 8 Try.underlying37 hi0 hz0 hz1 hz2 rfl (by decide) _ (j + 1) _ rfl HA.out (some ⟨w1.heap.size, 0, none⟩) 1 1 [.int .i64 (last + y + 1)] rfl rfl HRD.out (by simp [Value.oneCell']) (by simp only [maxLen]; omega) (by omega) HSZ.out ?_; intro v2 w2 ho2 hg2 hat2
                 have hg3 := Grew.of_append hg2 hat2
                 have hg4 := (Grew.of_below (below_alloc w1 (.cells #[.int .i64 (last + y + 1)] 2)) _).trans hg3
                 have HO2 := Lib.hid ho2
                 have HG2 := Lib.hid hg4
                 clear ho2 hg2 hg3 hg4 hat2))
            go_roundw
            case rel => exact ⟨_, r, _, _, rfl, rfl, by rw [List.length_append, HLL.out]; go_num, Dn.more HR.out HW.out HR1.out HG1.out hn0 (by rw [HLL.out]; exact HG2.out) (by rw [HLL.out]; exact HO2.out) hres4.out HI.out⟩
            case measure => clear hwl hjj hD hDn; simp [intOf]; omega
      · have hres : RES = (out, k, (rdAt bs k).2.2) := by rw [← HR.out.res]; unfold rgL; rw [if_pos hz]
        have HRES := Lib.hid hres
        clear hres
        obtain ⟨hz1', hz2'⟩ := hfa.2.2.2 hz
        have h1 : (((rdAt bs k).2.2 : Int) == 0) = false := by simp; omega
        have h2 : (((rdAt bs k).2.2 : Int) != 0) = true := by simp; omega
        have HZ := Lib.hid hz
        clear hfa hz hz1' hz2'
        generalize rdAt bs k = R at *
        obtain ⟨y, n, z⟩ := R
        go_wp2_with (first
          | (go_at_call 61; (with_reducible refine HNUM.out.mono ?_); rintro e w1 ⟨rfl, hr1, hg1⟩
             have f2 := hr1.blk.frozen 1
             have y2 : w1.cell? ⟨d, 1, none⟩ = some (.int .i64 ((k + n : Nat) : Int)) := hr1.blk.cell 1
             have HSN := Lib.hid (hr1.stepTo at_ HLE.out)
             have HG1 := Lib.hid hg1; clear hr1 hg1))
        go_ret2
        exact ⟨only_step (only_step HR.out.gr HG1.out (fun b e => .inl e)) HSN.out.2 (fun b e => .inl e), fun _ => ⟨by rw [HRES.out]; rfl, HSN.out.1⟩, fun h => absurd h (by rw [HRES.out]; exact HZ.out)⟩
end
end Go.Proofs.Ytmcgagjjgomkeaa
