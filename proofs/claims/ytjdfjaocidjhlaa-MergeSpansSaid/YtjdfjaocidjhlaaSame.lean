/- The walks of SameWins, lent, kept and known. -/
import Derived.Test.YtjdfjaocidjhlaaRefJoin
import Derived.RegionTactic
namespace Go.Proofs.Ytjdfjaocidjhlaa
open Go.RowKit


set_option maxRecDepth 100000 in
set_option maxHeartbeats 400000 in
theorem SameWins_any (v1 v2 : Value) (l : List Wn) (w : World) (h1 : Rw w v1 l) (h2 : Rw w v2 l) :
    Calls Try.prog 15 #[v1, v2] w fun e w' => e = .returned (.bool true) ∧ Below w.heap.size w w' := by
  obtain ⟨a1, cap1, rfl, hc1, hm1, hr1⟩ := h1
  obtain ⟨a2, cap2, rfl, hc2, hm2, hr2⟩ := h2
  obtain ⟨n, hn⟩ : ∃ n, l.length = n := ⟨_, rfl⟩
  rw [hn] at hc1 hc2 hr1 hr2 ⊢
  unfold maxLen at hm1 hm2
  have HN := Lib.hid hn
  have HR1 := Lib.hid hr1
  have HR2 := Lib.hid hr2
  clear hn hr1 hr2
  go_enter Try.func15, Try.ntmps15
  go_wp2
  go_loopw [5] (fun i wr => ∃ k : Nat, i = .int .i64 k ∧ k ≤ n ∧ Below w.heap.size w wr) (fun i _ => n - (intOf i).toNat)
  case atStart => exact ⟨0, rfl, Nat.zero_le _, Below.refl _ _⟩
  case round =>
    obtain ⟨k, rfl, hk, hb⟩ := hrel
    by_cases hlt : k < n
    · obtain ⟨g1, o1, rfl, hg1, hx1⟩ := HR1.out (by omega)
      obtain ⟨g2, o2, rfl, hg2, hx2⟩ := HR2.out (by omega)
      obtain ⟨x, hx⟩ : ∃ x, l[k]? = some x := ⟨_, List.getElem?_eq_getElem (by have := HN.out; omega)⟩
      obtain ⟨c0, c1, c2, c3, c4, c5, c6, c7, c8⟩ := (hx1 k x hx).below hb hg1
      obtain ⟨d0, d1, d2, d3, d4, d5, d6, d7, d8⟩ := (hx2 k x hx).below hb hg2
      clear hx1 hx2 hx
      go_wp2
      go_region
      all_goals go_wp2
      all_goals go_roundw
      case rel => exact ⟨k + 1, by go_num, by omega, hb.drew⟩
      case measure => simp [intOf]; omega
    · go_wp2
      go_ret
      exact ⟨rfl, hb⟩

/-- Windows in memory of their own, with a mark behind. -/
structure Lt9 (W : World) (g n cap : Nat) (l : List Wn) : Prop where
  rw : Rw W (.slice (some ⟨g, 0, none⟩) n cap) l
  len : l.length = n
  cap1 : n + 1 ≤ cap
  capm : cap ≤ maxLen
  mark : W.cell? ⟨g, n * 9 + 2, none⟩ = some (.int .i64 4242)
  lt : g < W.heap.size
theorem Lt9.below {W W' : World} {g n cap : Nat} {l : List Wn} (h : Lt9 W g n cap l) (hb : Below W.heap.size W W') : Lt9 W' g n cap l :=
  ⟨h.rw.below hb, h.len, h.cap1, h.capm, (hb.cell (p := ⟨g, n * 9 + 2, none⟩) h.lt).trans h.mark, Nat.lt_of_lt_of_le h.lt hb.size⟩

theorem Rw.of_cells {W : World} {g n cap : Nat} {l : List Wn} (hn : l.length = n) (hc : n ≤ cap) (hm : cap ≤ maxLen) (hg : g < W.heap.size) (h : ∀ j u, (wcells l)[j]? = some u → W.cell? ⟨g, j, none⟩ = some u) : Rw W (.slice (some ⟨g, 0, none⟩) n cap) l :=
  ⟨_, cap, by rw [hn], by omega, hm, fun _ => ⟨g, 0, rfl, hg, fun k x hk => wnAt_of fun j u hj => by rw [Nat.zero_add]; exact h _ _ (wcells_at l k x hk j u hj)⟩⟩

set_option maxRecDepth 100000 in
set_option maxHeartbeats 1000000 in
theorem lent_any (v : Value) (l : List Wn) (w : World) (hr : Rw w v l) (hlen : l.length ≤ 200) :
    Calls Try.prog 8 #[v] w fun e w' => ∃ g cap, e = .returned (.slice (some ⟨g, 0, none⟩) l.length cap) ∧ Below w.heap.size w w' ∧ Lt9 w' g l.length cap l := by
  obtain ⟨iW, hiW, hW0, hW1, hW2⟩ := info_parts winInfo
  obtain ⟨a, cap, rfl, _, _, _⟩ := id hr
  have HRD := Lib.hid hr.rd
  obtain ⟨n, hn⟩ : ∃ n, l.length = n := ⟨_, rfl⟩
  have HN := Lib.hid hn
  rw [hn] at HRD hlen ⊢
  clear hr hn
  go_enter Try.func8, Try.ntmps8
  go_wp2_with (first
    | (at_builtin; refine wpList_append_rd _ rfl (.const (.slice none 0 0)) (.tmp 3) 22 rfl w.heap.size 43 iW _ 9 72 Try.underlying22 hiW hW0 hW1 hW2 rfl (by decide) (.slice none 0 0) 0 [] rfl (World.ownsRow_nil _ _ _ _) a n cap (wcells l) rfl (by rw [wcells_length, HN.out]) HRD.out (wcells_one _) (by simp only [maxLen]; omega) (by omega) (Nat.le_refl _) ?_; intro v1 w1 hoa1 hg1 _
       have HBL1 : Hid (Below w.heap.size w w1) := (Below.refl _ w).grown hg1 (Nat.le_refl _) (fun r e => by simp [Value.ownBlock] at e)
       have HOA1 := Lib.hid (hoa1.alloc (.cells #[.int .i64 0, .int .i64 0, .int .i64 4242, .int .i64 0, .int .i64 0, .int .i64 0, .int .i64 0, .int .i64 0, .int .i64 0] 43))
       have hs1 := hg1.size
       clear hoa1 hg1)
    | (at_builtin; refine wpList_append_own _ rfl (.tmp 4) (.tmp 6) 22 rfl w.heap.size 43 iW _ 9 72 Try.underlying22 hiW hW0 hW1 hW2 rfl (by decide) _ (0 + n) _ rfl HOA1.out ⟨w1.heap.size, 0, none⟩ 1 1 [.int .i64 0, .int .i64 0, .int .i64 4242, .int .i64 0, .int .i64 0, .int .i64 0, .int .i64 0, .int .i64 0, .int .i64 0] rfl rfl (news_lit w1 #[.int .i64 0, .int .i64 0, .int .i64 4242, .int .i64 0, .int .i64 0, .int .i64 0, .int .i64 0, .int .i64 0, .int .i64 0] 43 w1.heap.size rfl) (by simp [Value.oneCell']) (by simp only [maxLen]; omega) (by omega) (by simp; omega) ?_; intro v2 w2 hoa2 hg2 _
       have HBL2 := Lib.hid ((HBL1.out.alloc hs1 (.cells #[.int .i64 0, .int .i64 0, .int .i64 4242, .int .i64 0, .int .i64 0, .int .i64 0, .int .i64 0, .int .i64 0, .int .i64 0] 43)).grown hg2 (by simp; omega) (fun r e => (HOA1.out.lt r e).1))
       obtain ⟨g2, cap2, rfl, hgb, hgl, hcl, hcm, hcell, -⟩ := ownsRow_open hoa2
       have HC := Lib.hid hcell
       have HG := Lib.hid hgl
       have HCM := Lib.hid hcm
       have hcp : ¬ cap2 = 0 := by omega
       have hcn : n + 1 ≤ cap2 := by omega
       clear hoa2 hg2 hcell hgl hcm))
  go_ret
  refine ⟨g2, cap2, by simp, HBL2.out, Rw.of_cells HN.out (by omega) HCM.out HG.out (fun j u hj => HC.out j u ?_), HN.out, hcn, HCM.out, HC.out _ _ ?_, HG.out⟩
  · rw [List.nil_append, List.getElem?_append_left (List.getElem?_eq_some_iff.1 hj).1]; exact hj
  · have hl : (wcells l).length = n * 9 := by rw [wcells_length, HN.out]
    rw [List.nil_append, List.getElem?_append_right (by omega), hl, Nat.add_sub_cancel_left]; rfl

set_option maxRecDepth 100000 in
set_option maxHeartbeats 400000 in
theorem kept_any (g n cap : Nat) (v2 : Value) (l : List Wn) (w : World) (h1 : Lt9 w g n cap l) (h2 : Rw w v2 l) (hlen : n ≤ 200) :
    Calls Try.prog 16 #[.slice (some ⟨g, 0, none⟩) n cap, v2] w fun e w' => e = .returned (.bool true) ∧ Below w.heap.size w w' := by
  have HS := Lib.hid (SameWins_any _ _ l w h1.rw h2)
  obtain ⟨a2, cap2, rfl, _, hm2, _⟩ := id h2
  rw [h1.len] at HS ⊢
  have H1 := Lib.hid h1
  have hc1 := h1.cap1
  have hc2 := h1.capm
  unfold maxLen at hc2 hm2
  have hcp : ¬ cap = 0 := by omega
  clear h1 h2
  go_enter Try.func16, Try.ntmps16
  go_wp2_with (go_at_call 15; (with_reducible refine HS.out.mono ?_); rintro e w1 ⟨rfl, hb1⟩; have HB := Lib.hid hb1; have mk := (H1.out.below hb1).mark; clear hb1)
  go_ret
  exact ⟨rfl, HB.out⟩
end Go.Proofs.Ytjdfjaocidjhlaa
