/- The law GroupsDeal where the keys can be dealt. -/
import Derived.Test.YtdbbipdkaahplaaSpoil
import Derived.Deep.RegionHeld3
namespace Go.Proofs.Ytdbbipdkaahplaa
open Go.RowKit

set_option maxRecDepth 100000 in
set_option maxHeartbeats 2000000 in
theorem dealLaw_good (P : Nat) (g : Int) (ad : Addr) (cap : Nat) (ks : List ByteArray) (w : World) (hn : fits (P : Int) g ks) (hk : ks.length ≤ 1048576) (hs : ∀ k ∈ ks, k.size ≤ maxLen) (hr : Rd w (.slice (some ad) ks.length cap) ks.length (txCells ks)) (hw : ∀ j u, (txCells ks)[j]? = some u → w.cell? (ad.add j) = some u) :
    Calls Try.prog 7 #[.int .i64 (P : Int), .int .i64 g, .slice (some ad) ks.length cap] w fun e w' => e = .returned (.bool true) ∧ Below w.heap.size w w' := by
  obtain ⟨i0, hi0, hz0, hz1, hz2⟩ := info_parts strInfo
  have HF := Lib.hid hn
  have HS := Lib.hid hs
  obtain ⟨n, hnn⟩ : ∃ n, ks.length = n := ⟨_, rfl⟩
  have HN := Lib.hid hnn
  have HC := Lib.hid (show n ≤ cap ∧ cap ≤ maxLen by obtain ⟨_, _, hv, h1, h2, _⟩ := hr; cases hv; exact ⟨hnn ▸ h1, h2⟩)
  obtain ⟨hc1, hc2⟩ := HC.out
  unfold maxLen at hc2
  have HW := Lib.hid hw
  have HDL := Lib.hid (fun (W : World) (v : Value) (h : Rd W v ks.length (txCells ks)) => Deal_good P g v ks W hn (by omega) hs h)
  have HRL := Lib.hid (fun (W : World) (v : Value) (h : Rd W v ks.length (txCells ks)) => refDeal_good P g v ks W hn (by omega) hs h)
  have HST := Lib.hid (fun (W : World) (v1 v2 : Value) (h1 : Rd W v1 ks.length (txCells ks)) (h2 : Rd W v2 ks.length (txCells ks)) => SameTexts_any v1 v2 ks W h1 h2)
  have HRK : Hid (Rd w (.slice (some ad) n cap) ks.length (txCells ks)) := by have h := hr; rw [show (Value.slice (some ad) ks.length cap) = .slice (some ad) n cap by rw [hnn]] at h; exact h
  rw [hnn] at hk ⊢
  clear hn hs hr hnn hw
  obtain ⟨B, hB⟩ : ∃ B, w.heap.size = B := ⟨_, rfl⟩
  rw [hB]
  have hp1 : 1 ≤ P := by have := HF.out.1.2.2.1; omega
  have hp2 : P ≤ 32768 := by have := HF.out.1.2.2.2; have := HF.out.1.2.1; omega
  have HTA : Hid (tot (rowOf (P : Int) g ks) P = n) := by have := tot_all HF.out.1 ks HF.out.2; rw [HN.out] at this; exact this
  generalize hR : rowOf (P : Int) g ks = R at *
  go_enter Try.func7, Try.ntmps7
  go_wp2_with (first
    | (at_builtin; refine wpList_append_own _ rfl _ _ 56 rfl B 9 i0 _ 1 16 Try.underlying56 hi0 hz0 hz1 hz2 rfl (by decide) _ 0 [] rfl (World.ownsRow_nil _ _ _ _) ad n cap (txCells ks) rfl (by rw [txCells_length, HN.out, Nat.mul_one]) HW.out (by intro u hu; simp only [txCells, List.mem_map] at hu; obtain ⟨x, _, rfl⟩ := hu; simp [Value.oneCell']) (by simp only [maxLen]; omega) (by omega) (by omega) ?_; intro v1 w1 hown1 hgrow1 _
       have hsz1 := hgrow1.size
       have HO1 := Lib.hid (hown1.alloc (.cells #[.string roomTx] 9))
       have HG1 := Lib.hid hgrow1
       clear hown1 hgrow1)
    | (at_builtin; refine wpList_append_own _ rfl _ _ 56 rfl B 9 i0 _ 1 16 Try.underlying56 hi0 hz0 hz1 hz2 rfl (by decide) _ (0 + n) ([] ++ txCells ks) rfl HO1.out ⟨w1.heap.size, 0, none⟩ 1 1 [.string roomTx] rfl rfl (cell_one_new _ _ _) (by simp [Value.oneCell']) (by simp only [maxLen]; omega) (by omega) (by simp; omega) ?_; intro v2 w2 hown2 hgrow2 _
       obtain ⟨gm, capm, rfl, hgm, hgl, hcm, hcm2, hcell, hfz⟩ := ownsRow_open hown2
       obtain ⟨hrm, fr⟩ := room_row HN.out hown2
       have hb2 : Below B w w2 := (((Below.refl B w).grown HG1.out (by omega) (fun r e => by cases e)).alloc (by omega) (.cells #[.string roomTx] 9)).grown hgrow2 (by simp; omega) (fun r e => (HO1.out.lt r e).1)
       have HM2 : Hid (MS B w w2 (.slice (some ⟨gm, 0, none⟩) n capm) (.slice (some ad) n cap) gm n ks) := ⟨hb2, hrm, HRK.out.below (hB ▸ hb2), fr, hgl, by have := hb2.size; omega⟩
       unfold maxLen at hcm2
       clear hcell hfz hown2 hgrow2 hrm hb2 fr)
    | (go_at_call 25; (with_reducible refine (HDL.out _ _ HM2.out.rm).mono ?_); rintro e w3 ⟨goa, vsa, rfl, hb3, hda⟩; have HM3 := Lib.hid (HM2.out.next hb3); have HB3 := Lib.hid hb3; have HDA := Lib.hid hda; clear hb3 hda)
    | (go_at_call 25; (with_reducible refine (HDL.out _ _ HM3.out.rm).mono ?_); rintro e w4 ⟨gob, vsb, rfl, hb4, hdb⟩; have HM4 := Lib.hid (HM3.out.next hb4); have HB4 := Lib.hid hb4; have HDB := Lib.hid hdb; clear hb4 hdb HM3)
    | (go_at_call 26; (with_reducible refine (HRL.out _ _ HM4.out.rk).mono ?_); rintro e w5 ⟨gow, vsw, rfl, hb5, hdw⟩; have HM5 := Lib.hid (HM4.out.next hb5); have HB5 := Lib.hid hb5; have HDW := Lib.hid hdw; clear hb5 hdw HM4)
    | (go_at_call 14; (with_reducible refine (num_any _ _).mono ?_); rintro e w' ⟨rfl, rfl⟩)
    | (go_at_call 27; (with_reducible refine (HST.out _ _ _ HM5.out.rm HM5.out.rk).mono ?_); rintro e w6 ⟨rfl, hb6⟩; have HM6 := Lib.hid (HM5.out.next hb6); have fr : w6.cell? ⟨gm, n, none⟩ = some (.string ⟨#[114, 111, 111, 109]⟩) := HM6.out.room; have HB6 := Lib.hid hb6; clear hb6 HM5))
  have h34 := HB3.out.size
  have h45 := HB4.out.size
  have h56 := HB5.out.size
  have h67 := HB6.out.size
  have b36 : Below w3.heap.size w3 w6 := (HB4.out.trans (HB5.out.mono h45)).trans (HB6.out.mono (by omega))
  have b26 : Below w2.heap.size w2 w6 := HB3.out.trans (b36.mono h34)
  have HA0 := Lib.hid (HDA.out.front b36)
  have HBD := Lib.hid (HDB.out.kept (below_grown ((HB5.out).trans (HB6.out.mono h56)) none))
  have HWD := Lib.hid (HDW.out.kept (below_grown HB6.out none))
  have HB26 := Lib.hid b26
  have hlo : w2.heap.size ≤ w6.heap.size := b26.size
  have HMS : Hid (∀ W, Sp w2.heap.size w3.heap.size w6 W → MS B w W (.slice (some ⟨gm, 0, none⟩) n capm) (.slice (some ad) n cap) gm n ks) := fun W hs => HM2.out.next (HB26.out.trans hs.below)
  clear b36 b26 fr
  obtain ⟨lo, hlo'⟩ : ∃ lo, w2.heap.size = lo := ⟨_, rfl⟩
  obtain ⟨hi, hhi'⟩ : ∃ hi, w3.heap.size = hi := ⟨_, rfl⟩
  rw [hlo'] at HA0 hlo HMS h34
  rw [hhi'] at HA0 HBD HMS h34 h45
  go_loopw [14, 15] (fun nn i wr => ∃ j : Nat, i = .int .i64 (j : Int) ∧ j ≤ P ∧ nn = .int .i64 (tot R j : Nat) ∧ Sp lo hi w6 wr ∧ ∃ vs, DealtF wr j lo hi P goa vs R) (fun _ i _ => P - (intOf i).toNat)
  case atStart => exact ⟨0, rfl, Nat.zero_le _, rfl, Sp.refl _ _ _, _, HA0.out⟩
  case round =>
    obtain ⟨j, rfl, hjP, rfl, hsp, vs, hdf⟩ := hrel
    have HSP := Lib.hid hsp
    have HDF := Lib.hid hdf
    clear hsp hdf
    by_cases hlt : j < P
    · obtain ⟨v, hv⟩ : ∃ v, vs[j]? = some v := ⟨_, List.getElem?_eq_getElem (by have := HDF.out.len; omega)⟩
      have hrow := HDF.out.row j v (Nat.le_refl _) hv
      obtain ⟨av, cv, rfl, hcv1, hcv2⟩ := ownsRow_shape hrow
      unfold maxLen at hcv2
      have HWW := Lib.hid (HWD.out.sp h45 HSP.out)
      obtain ⟨vw, hvw⟩ : ∃ vw, vsw[j]? = some vw := ⟨_, List.getElem?_eq_getElem (by have := HWW.out.len; omega)⟩
      have HV := Lib.hid hv
      have HVW := Lib.hid hvw
      have fa := (HDF.out.cell hv).1
      have fw := (HWW.out.cell hvw).1
      have HSJ : Hid (∀ W, Below wr.heap.size wr W → Calls Try.prog 27 #[.slice av (R j).length cv, vw] W fun e w' => e = .returned (.bool true) ∧ Below W.heap.size W w') := fun W hb => SameTexts_any _ _ (R j) W ((Rd.of_owns hrow).below hb) ((Rd.of_owns (HWW.out.row j vw hvw)).below hb)
      have hga := HDF.out.gtop
      have HKS : Hid (∀ W, Below wr.heap.size wr W → Below wr.heap.size wr W ∧ W.cell? ⟨goa, j, none⟩ = some (.slice av (R j).length cv) ∧ W.cell? ⟨gow, j, none⟩ = some vw) := fun W hb => ⟨hb, (hb.cell (p := ⟨goa, j, none⟩) (HDF.out.out.lt goa rfl).2).trans fa, (hb.cell (p := ⟨gow, j, none⟩) HWW.out.lt.2).trans fw⟩
      have hLn : tot R j + (R j).length ≤ n := by rw [← HTA.out]; exact tot_mono R (show j + 1 ≤ P by omega)
      have hw1 : IntKind.i64.wrap ((tot R j : Int) + ((R j).length : Int)) = (tot R j : Int) + ((R j).length : Int) := IntWalk.i64_in _ (by omega)
      have HTS : Hid (tot R (j + 1) = tot R j + (R j).length) := rfl
      have HROW := Lib.hid hrow
      have HFS : Hid (∀ W, wr.grownBy W (Value.slice av (R j).length cv).ownBlock → DealtF W (j + 1) lo hi P goa vs R) := fun W hg => HDF.out.keeps hv hg
      have HNE : Hid (some goa ≠ (Value.slice av (R j).length cv).ownBlock) := fun e => HDF.out.off j _ (Nat.le_refl _) hv e.symm
      have HTOP : Hid (∀ r, (Value.slice av (R j).length cv).ownBlock = some r → lo ≤ r ∧ (r < hi ∨ w6.heap.size ≤ r)) := fun r e => ⟨(hrow.lt r e).1, .inl (HDF.out.tops j _ r (Nat.le_refl _) hv e)⟩
      clear hv hvw hrow
      generalize (R j).length = L at *
      generalize tot R j = T0 at *
      go_wp2
      go_region_held3 (fun W => Below wr.heap.size wr W ∧ W.cell? ⟨goa, j, none⟩ = some (.slice av L cv) ∧ W.cell? ⟨gow, j, none⟩ = some (vw))
        (first
          | exact HKS.out _ (below_drew wr)
          | exact HKS.out _ hb7)
        ((go_at_call 27; (with_reducible refine (HSJ.out _ (below_drew wr)).mono ?_); rintro e w7 ⟨rfl, hb7'⟩; have hb7 : Below wr.heap.size wr w7 := below_trans (below_drew wr) hb7'))
      clear hw1
      have ho7 : wr.grownBy w7 (Value.slice av L cv).ownBlock := below_grown hb7 _
      have hr7 : w7.ownsRow lo 9 1 (.slice av L cv) L (txCells (R j)) := HROW.out.kept (below_grown hb7 none) (by cases (Value.slice av L cv).ownBlock <;> simp)
      have HO7 := Lib.hid ho7
      have HR7 := Lib.hid hr7
      clear ho7 hr7 hb7' fa fw
      have hgz := (HDF.out.out.lt goa rfl).2
      go_wp2
      obtain ⟨wz, rfl⟩ : ∃ wz, wz = wr := ⟨_, rfl⟩
      go_loopw [16] (fun i wr => ∃ k : Nat, i = .int .i64 (k : Int) ∧ k ≤ L ∧ wz.grownBy wr (Value.slice av L cv).ownBlock ∧ ∃ xs, wr.ownsRow lo 9 1 (.slice av L cv) L xs) (fun i _ => L - (intOf i).toNat)
      case atStart => exact ⟨0, rfl, Nat.zero_le _, HO7.out, _, HR7.out⟩
      case round =>
        obtain ⟨k, rfl, hkL, hg, xs, hxs⟩ := hrel
        have HG := Lib.hid hg
        have HX := Lib.hid hxs
        have fa := (HFS.out _ hg)
        clear hg hxs
        have fc := (fa.cell HV.out).1
        clear fa
        by_cases hlt2 : k < L
        · obtain ⟨gv, rfl, hgv, hgvl, _, _, hcell, hfz⟩ := ownsRow_at HX.out (by omega)
          obtain ⟨u, hu⟩ := ownsRow_cell HX.out (j := k) (by omega)
          have fx := hcell k u hu
          have ff := hfz k
          clear hcell hfz hu
          go_wp2
          go_roundw
          case rel => exact ⟨k + 1, by go_num, by omega, only_set HG.out ⟨gv, k, none⟩ _ (.inl rfl), _, ownsRow_set HX.out _⟩
          case measure => simp [intOf]; omega
        · have hsq := HG.out.size
          have HAL := Lib.hid (HX.out.alloc (.cells #[.string ⟨#[115, 112, 111, 105, 108, 116]⟩, .string ⟨#[115, 112, 111, 105, 108, 116]⟩, .string ⟨#[115, 112, 111, 105, 108, 116]⟩] 9))
          have hlow : lo ≤ wr.heap.size := by have := (HDF.out.out.lt goa rfl).1; omega
          go_wp2_with (first
            | (at_builtin; refine wpList_append_own_at _ rfl _ _ 56 rfl lo 9 i0 _ 1 16 Try.underlying56 hi0 hz0 hz1 hz2 rfl (by decide) _ _ _ rfl HAL.out ⟨wr.heap.size, 0, none⟩ 3 3 [.string ⟨#[115, 112, 111, 105, 108, 116]⟩, .string ⟨#[115, 112, 111, 105, 108, 116]⟩, .string ⟨#[115, 112, 111, 105, 108, 116]⟩] rfl rfl (World.news_of_block (cs := #[.string ⟨#[115, 112, 111, 105, 108, 116]⟩, .string ⟨#[115, 112, 111, 105, 108, 116]⟩, .string ⟨#[115, 112, 111, 105, 108, 116]⟩]) (t := 9) (fr := (0, 0)) (heap_alloc_new _ _)) (by simp [Value.oneCell']) (by simp only [maxLen]; omega) (by omega) (by simp; omega) ?_; intro v' w4 hown' hgrow _ hat
               have HG4 := Lib.hid (only_step (only_alloc HG.out (.cells #[.string ⟨#[115, 112, 111, 105, 108, 116]⟩, .string ⟨#[115, 112, 111, 105, 108, 116]⟩, .string ⟨#[115, 112, 111, 105, 108, 116]⟩] 9)) hgrow (fun b e => .inl e))
               obtain ⟨fd, ff⟩ := (HFS.out _ HG4.out).cell HV.out
               obtain ⟨a', cap', rfl, _, _⟩ := ownsRow_shape hown'
               clear hown' hgrow hat))
          go_roundw
          case rel =>
            exact ⟨j + 1, by go_num, by omega, by rw [HTS.out]; push_cast; rfl, (HSP.out.step hlo HG4.out HTOP.out).step hlo (grownBy_set w4 ⟨goa, j, none⟩ _) (fun r e => by cases e; exact ⟨(HDF.out.out.lt goa rfl).1, .inl hga⟩), _, (HFS.out _ HG4.out).set _⟩
          case measure => simp [intOf]; omega
    · have hjp : j = P := by omega
      subst hjp
      have hta := HTA.out
      rw [hta]
      have HBW := Lib.hid (HBD.out.sp (Nat.le_refl _) HSP.out)
      have HWW := Lib.hid (HWD.out.sp h45 HSP.out)
      have HMW := Lib.hid (HMS.out _ HSP.out)
      go_wp2
      obtain ⟨wz, rfl⟩ : ∃ wz, wz = wr := ⟨_, rfl⟩
      go_loopw [17] (fun i wr => ∃ k : Nat, i = .int .i64 (k : Int) ∧ k ≤ j ∧ Below wz.heap.size wz wr) (fun i _ => j - (intOf i).toNat)
      case atStart => exact ⟨0, rfl, Nat.zero_le _, Below.refl _ _⟩
      case round =>
        obtain ⟨k, rfl, hkj, hbz⟩ := hrel
        have HBZ := Lib.hid hbz
        clear hbz
        by_cases hlt2 : k < j
        · obtain ⟨vb, hvb⟩ : ∃ v, vsb[k]? = some v := ⟨_, List.getElem?_eq_getElem (by have := HBW.out.len; omega)⟩
          obtain ⟨vw, hvw⟩ : ∃ v, vsw[k]? = some v := ⟨_, List.getElem?_eq_getElem (by have := HWW.out.len; omega)⟩
          have HBW2 := Lib.hid (HBW.out.kept (below_grown HBZ.out none))
          have HWW2 := Lib.hid (HWW.out.kept (below_grown HBZ.out none))
          have fb := (HBW2.out.cell hvb).1
          have fw := (HWW2.out.cell hvw).1
          have HSJ : Hid (∀ W, Below wr.heap.size wr W → Calls Try.prog 27 #[vb, vw] W fun e w' => e = .returned (.bool true) ∧ Below W.heap.size W w') := fun W hb => SameTexts_any _ _ (R k) W ((Rd.of_owns (HBW2.out.row k vb hvb)).below hb) ((Rd.of_owns (HWW2.out.row k vw hvw)).below hb)
          have HKS : Hid (∀ W, Below wr.heap.size wr W → Below wr.heap.size wr W ∧ W.cell? ⟨gob, k, none⟩ = some vb ∧ W.cell? ⟨gow, k, none⟩ = some vw) := fun W hb => ⟨hb, (hb.cell (p := ⟨gob, k, none⟩) HBW2.out.lt.2).trans fb, (hb.cell (p := ⟨gow, k, none⟩) HWW2.out.lt.2).trans fw⟩
          clear hvb hvw
          go_wp2
          go_region_held3 (fun W => Below wr.heap.size wr W ∧ W.cell? ⟨gob, k, none⟩ = some (vb) ∧ W.cell? ⟨gow, k, none⟩ = some (vw))
            (first
              | exact HKS.out _ (below_drew wr)
              | exact HKS.out _ hb7)
            ((go_at_call 27; (with_reducible refine (HSJ.out _ (below_drew wr)).mono ?_); rintro e w7 ⟨rfl, hb7'⟩; have hb7 : Below wr.heap.size wr w7 := below_trans (below_drew wr) hb7'))
          go_wp2
          go_roundw
          case rel => exact ⟨k + 1, by go_num, by omega, below_trans HBZ.out hb7⟩
          case measure => simp [intOf]; omega
        · have hnn : ((n : Int) == (n : Int)) = true := beq_self_eq_true _
          have HMZ := Lib.hid (HMW.out.next HBZ.out)
          go_wp2_with (first
            | (go_at_call 27; (with_reducible refine (HST.out _ _ _ HMZ.out.rm HMZ.out.rk).mono ?_); rintro e w8 ⟨rfl, hb8⟩; have HMY := Lib.hid (HMZ.out.next hb8); clear hb8)
            | (go_at_call 11; (with_reducible refine (known_any _).mono ?_); rintro e w9 ⟨rfl, hb9⟩))
          have := HMY.out.below.trans (hb9.mono HMY.out.size)
          first | exact ⟨rfl, this⟩ | (go_ret; exact ⟨rfl, this⟩)
end Go.Proofs.Ytdbbipdkaahplaa
