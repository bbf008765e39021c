/- ClockMeanwhile: the first loop. -/
import Derived.Test.YtdndljbagjfkkaaMw2
namespace Go.Proofs.Ytdndljbagjfkkaa
open Go.RowKit Go.Shelf Go.Lib
/-- Behind k rounds. -/
def MwL (W0 : World) (X0 : Nat → Prop) (c d nb : Nat) (Lm : List Int) (W : World) (k : Nat) : Prop :=
  (∃ X H, PrS W X c d nb Lm H H.length ∧ (∀ b, X b → X0 b ∨ W0.heap.size ≤ b) ∧ H.length ≤ k) ∧ Only X0 W0 W
theorem holdH_length (H : List Hd) (s : ByteArray) (t : Int) : (holdH H s t).length ≤ H.length + 1 := by
  unfold holdH
  split
  · exact hoH_length s t
  · omega
set_option maxRecDepth 100000 in
set_option maxHeartbeats 4000000 in
theorem mw_loop (n cap N B4 B5 B7 c d nb : Nat) (A : Option Addr) (Lm : List Int) (ho : List Sp) (X0 : Nat → Prop) (W0 : World)
    (b5 : Boxed W0 B5 24 (.pointer (some ⟨c, 0, none⟩))) (b7 : Boxed W0 B7 40 (.pointer (some ⟨d, 0, none⟩)))
    (hr : Rd W0 (.slice A n cap) n (spc ho)) (hl : ho.length = n) (hnm : ∀ s ∈ ho, s.name.size ≤ maxLen) (hA : 0 < n → ∀ g off, A = some ⟨g, off, none⟩ → g < N) (hn : n ≤ 4398046511102)
    (hx : ∀ b, X0 b → N ≤ b ∧ b ≠ B5 ∧ b ≠ B7) (h0 : MwL W0 X0 c d nb Lm W0 0)
    (ds : List Deferred) (s1 s2 s3 s6 s8 s10 s11 s12 s13 s14 s15 s16 s17 s18 s19 s20 s21 s22 s23 s24 s25 s26 s27 s28 s29 s30 s31 s32 s33 s34 s35 s36 s37 s38 s39 s40 s41 s42 s43 s44 s45 s46 s47 s48 s49 s50 s51 s52 s53 s54 s55 s56 s57 s58 s59 s60 s61 s62 s63 s64 s65 s66 s67 s68 s69 s70 s71 s72 s73 s74 s75 s76 s77 s78 s79 s80 s81 s82 s83 s84 s85 s86 s87 s88 s89 s90 s91 s92 s93 s94 s95 s96 s97 s98 s99 s100 s101 s102 s103 s104 s105 s106 s107 s108 s109 s110 s111 s112 s113 s114 s115 s116 s117 s118 s119 s120 s121 s122 s123 s124 s125 s126 s127 s128 s129 s130 s131 s132 s133 s134 s135 s136 s137 : Value) (Q : Exit → Act → World → Prop)
    (hQ : ∀ (r9 r30 r31 r32 r33 r34 r35 r36 r37 r38 r39 r40 r41 r42 r43 r44 r45 r46 r47 r48 r49 r50 r51 r52 r53 r54 r55 r56 r57 r58 r59 r60 r61 : Value) (W1 : World), MwL W0 X0 c d nb Lm W1 n → Q (.exit 0) { tmps := #[.slice A n cap, s1, s2, s3, .pointer (some ⟨B4, 0, none⟩), .pointer (some ⟨B5, 0, none⟩), s6, .pointer (some ⟨B7, 0, none⟩), s8, r9, s10, s11, s12, s13, s14, s15, s16, s17, s18, s19, s20, s21, s22, s23, s24, s25, s26, s27, s28, s29, r30, r31, r32, r33, r34, r35, r36, r37, r38, r39, r40, r41, r42, r43, r44, r45, r46, r47, r48, r49, r50, r51, r52, r53, r54, r55, r56, r57, r58, r59, r60, r61, s62, s63, s64, s65, s66, s67, s68, s69, s70, s71, s72, s73, s74, s75, s76, s77, s78, s79, s80, s81, s82, s83, s84, s85, s86, s87, s88, s89, s90, s91, s92, s93, s94, s95, s96, s97, s98, s99, s100, s101, s102, s103, s104, s105, s106, s107, s108, s109, s110, s111, s112, s113, s114, s115, s116, s117, s118, s119, s120, s121, s122, s123, s124, s125, s126, s127, s128, s129, s130, s131, s132, s133, s134, s135, s136, s137], defers := ds } W1) :
    Code.wpIn Fence.wide 10 Try.prog mwLoop Q { tmps := #[.slice A n cap, s1, s2, s3, .pointer (some ⟨B4, 0, none⟩), .pointer (some ⟨B5, 0, none⟩), s6, .pointer (some ⟨B7, 0, none⟩), s8, .int .i64 0, s10, s11, s12, s13, s14, s15, s16, s17, s18, s19, s20, s21, s22, s23, s24, s25, s26, s27, s28, s29, s30, s31, s32, s33, s34, s35, s36, s37, s38, s39, s40, s41, s42, s43, s44, s45, s46, s47, s48, s49, s50, s51, s52, s53, s54, s55, s56, s57, s58, s59, s60, s61, s62, s63, s64, s65, s66, s67, s68, s69, s70, s71, s72, s73, s74, s75, s76, s77, s78, s79, s80, s81, s82, s83, s84, s85, s86, s87, s88, s89, s90, s91, s92, s93, s94, s95, s96, s97, s98, s99, s100, s101, s102, s103, s104, s105, s106, s107, s108, s109, s110, s111, s112, s113, s114, s115, s116, s117, s118, s119, s120, s121, s122, s123, s124, s125, s126, s127, s128, s129, s130, s131, s132, s133, s134, s135, s136, s137], defers := ds } W0 := by
  have HQ := Lib.hid hQ
  have HR := Lib.hid hr
  have HL := Lib.hid hl
  have HNM := Lib.hid hnm
  have HA := Lib.hid hA
  have HX := Lib.hid hx
  have H0 := Lib.hid h0
  have HB5 := Lib.hid b5
  have HB7 := Lib.hid b7
  have hn2 : n ≤ 9223372036854775807 := by omega
  clear hQ hr hl hnm hA hx h0 b5 b7
  refine wpIn_wide.2 ?_
  unfold mwLoop
  conv => arg 2; whnf
  dsimp only
  go_loopw [9] (fun iv wr => ∃ k : Nat, iv = .int .i64 (k : Int) ∧ k ≤ n ∧ MwL W0 X0 c d nb Lm wr k) (fun iv _ => n - (intOf iv).toNat)
  case atStart => exact ⟨0, rfl, Nat.zero_le _, H0.out⟩
  case round =>
    obtain ⟨k, rfl, hk, hi⟩ := hrel
    have HI := Lib.hid hi
    clear hi
    by_cases hkn : k < n
    · obtain ⟨s, hsi⟩ : ∃ s, ho[k]? = some s := ⟨_, List.getElem?_eq_getElem (by have := HL.out; omega)⟩
      obtain ⟨_, _, hv, _, _, hxx⟩ := HR.out
      cases hv
      obtain ⟨g, off, rfl, hgl, hc⟩ := hxx (by omega)
      have hgN := HA.out (by omega) g off rfl
      have hg1 : wr.heap[g]? = W0.heap[g]? := HI.out.2.block g hgl (fun h => by have := (HX.out _ h).1; omega)
      have hcc := fun j v hj => (World.cell?_of_block (a := ⟨g, off + (k * 7 + j), none⟩) hg1).trans (hc (k * 7 + j) v (spc_at hsi j v hj))
      have z5 := hcc 5 _ rfl
      have z6 := hcc 6 _ rfl
      simp only [← Nat.add_assoc] at z5 z6
      have hsn : s.name.size ≤ maxLen := HNM.out s (List.mem_of_getElem? hsi)
      obtain ⟨⟨X, H, hp, hsub, hlen⟩, hon⟩ := HI.out
      have hXn : ∀ b, b < W0.heap.size → ¬ X0 b → ¬ X b := fun b h1 h2 h3 => (hsub b h3).elim h2 (fun h => by omega)
      obtain ⟨T, ht, hpg⟩ := hp.ex
      have c5 : wr.cell? ⟨B5, 0, none⟩ = some (.pointer (some ⟨c, 0, none⟩)) := (World.cell?_of_block (a := ⟨B5, 0, none⟩) (hon.block B5 HB5.out.lt (fun h => (HX.out _ h).2.1 rfl))).trans HB5.out.cell
      have c7 : wr.cell? ⟨B7, 0, none⟩ = some (.pointer (some ⟨d, 0, none⟩)) := (World.cell?_of_block (a := ⟨B7, 0, none⟩) (hon.block B7 HB7.out.lt (fun h => (HX.out _ h).2.2 rfl))).trans HB7.out.cell
      have HSV0 : Hid (∀ W, Only X wr W → W.cell? ⟨B5, 0, none⟩ = some (.pointer (some ⟨c, 0, none⟩)) ∧ W.cell? ⟨B7, 0, none⟩ = some (.pointer (some ⟨d, 0, none⟩)) ∧ W.cell? ⟨g, off + k * 7 + 5, none⟩ = some (.string s.name) ∧ W.cell? ⟨g, off + k * 7 + 6, none⟩ = some (.int .i64 s.tm)) := fun W hW => by
        have kb : ∀ {b : Nat} {j : Nat} {v : Value}, b < W0.heap.size → ¬ X0 b → wr.cell? ⟨b, j, none⟩ = some v → W.cell? ⟨b, j, none⟩ = some v := fun {b j v} h1 h2 h3 => (World.cell?_of_block (a := ⟨b, j, none⟩) (hW.block b (Clock.block_lt h3) (hXn b h1 h2))).trans h3
        exact ⟨kb HB5.out.lt (fun h => (HX.out _ h).2.1 rfl) c5, kb HB7.out.lt (fun h => (HX.out _ h).2.2 rfl) c7, kb hgl (fun h => by have := (HX.out _ h).1; omega) z5, kb hgl (fun h => by have := (HX.out _ h).1; omega) z6⟩
      have HST := Lib.hid (St.start hpg)
      have HSV : Hid (∀ (W : World) (Lc : List Int) (T' : ByteArray → Option Int) (Lr : List Int) (H' : List Hd) (B' : Nat), St wr X W c d nb Lc T' Lr H' B' → W.cell? ⟨B5, 0, none⟩ = some (.pointer (some ⟨c, 0, none⟩)) ∧ W.cell? ⟨B7, 0, none⟩ = some (.pointer (some ⟨d, 0, none⟩)) ∧ W.cell? ⟨g, off + k * 7 + 5, none⟩ = some (.string s.name) ∧ W.cell? ⟨g, off + k * 7 + 6, none⟩ = some (.int .i64 s.tm)) := fun W Lc T' Lr H' B' h => HSV0.out W h.2.1
      obtain ⟨rv, hrv⟩ : ∃ rv : Int, (if isTime s.tm = true then (0 : Int) else 2) = rv := ⟨_, rfl⟩
      have h1 := fun W T' Lr H' B' (hb : B' ≤ 4398046511103) (h : St wr X W c d nb Lm T' Lr H' B') => h.holdC s.name s.tm hsn hb
      have h2 := fun W T' Lr H' B' (hb : B' ≤ 4398046511103) (h : St wr X W c d nb Lm T' Lr H' B') => h.holdR s.name s.tm hb
      rw [hrv] at h1 h2
      have H1 := Lib.hid h1
      have H2 := Lib.hid h2
      have HS := Lib.hid HST.out.drew
      have HHT := Lib.hid (ht.hold s.name s.tm)
      have HOK := Lib.hid (ok_held hp.ok hsn (t := s.tm))
      have HXL := Lib.hid hpg.xl
      have HON := Lib.hid hon
      have HSUB := Lib.hid hsub
      have hki : (k : Int) < (n : Int) := by omega
      have hb1 : H.length ≤ 4398046511102 := by omega
      have hrr : (rv != rv) = false := by simp
      clear h1 h2 hrv hp hpg ht hsub hon hxx hc hcc z5 z6 c5 c7 hsi hg1 hXn
      go_wp2
      go_region_held3 (fun W => W.cell? ⟨B5, 0, none⟩ = some (.pointer (some ⟨c, 0, none⟩)) ∧ W.cell? ⟨B7, 0, none⟩ = some (.pointer (some ⟨d, 0, none⟩)) ∧ W.cell? ⟨g, off + k * 7 + 5, none⟩ = some (.string s.name) ∧ W.cell? ⟨g, off + k * 7 + 6, none⟩ = some (.int .i64 s.tm))
        (exact HSV.out _ _ _ _ _ _ HS.out)
        (first
          | (go_at_call 15; (with_reducible refine (H1.out _ _ _ _ _ (by omega) HS.out).mono ?_); rintro e w1 ⟨rfl, hst⟩
             replace HS := Lib.hid hst
             clear hst)
          | (go_at_call 18; (with_reducible refine (H2.out _ _ _ _ _ (by omega) HS.out).mono ?_); rintro e w1 ⟨rfl, hst⟩
             replace HS := Lib.hid hst
             clear hst)
          | (go_at_call 9; (with_reducible refine (num_any _ _).mono ?_); rintro e wn ⟨rfl, rfl⟩))
      all_goals go_simp
      all_goals go_wp2
      all_goals go_roundw
      case rel =>
        refine ⟨k + 1, by go_num, by omega, ⟨_, _, (PrS.tight ⟨⟨_, HHT.out, HS.out.1⟩, HOK.out⟩), fun b hb => hb.elim (fun h => HSUB.out b h) (fun h => .inr (Nat.le_trans HON.out.size h.1)), ?_⟩, HON.out.trans HS.out.2.1 fun b hb => HSUB.out b hb⟩
        have := holdH_length H s.name s.tm
        omega
      case measure => simp [intOf]; omega
    · obtain rfl : k = n := by omega
      go_wp2
      exact HQ.out _ _ _ _ _ _ _ _ _ _ _ _ _ _ _ _ _ _ _ _ _ _ _ _ _ _ _ _ _ _ _ _ _ _ HI.out
end Go.Proofs.Ytdndljbagjfkkaa
