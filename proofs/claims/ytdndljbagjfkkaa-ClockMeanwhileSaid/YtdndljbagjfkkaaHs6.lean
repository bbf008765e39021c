/- The library's heap: Push, Fix, Remove at a clock's holds. -/
import Derived.Test.YtdndljbagjfkkaaHs5
namespace Go.Proofs.Ytdndljbagjfkkaa
open Go.RowKit Go.Lib

section
variable {w w' : World} {X : Nat → Prop} {c : Nat} {mk mp v : Value} {n : Nat} {f : Nat → Nat} {nm : Nat → ByteArray} {tm : Nat → Int}
theorem Turned.len {n' N : Nat} {f f' : Nat → Nat} (h : Turned n N f f') : Turned n' N f f' := ⟨h.same, h.rest⟩
set_option maxRecDepth 100000 in
theorem heapPush_any (b : Nat) (at0 : Int) (h : Hs w X c mk mp v n f nm tm) (hb : Bk w b 82 #[.string (nm b), .int .i64 (tm b), .int .i64 at0]) (hbX : X b) (hnew : ∀ k, k < n → f k ≠ b) (hn : n ≤ 4398046511103) (hH : Hp.Heap (hlt nm tm) n f) :
    Calls Try.prog 39 #[.iface 80 (.pointer (some ⟨c, 1, none⟩)), .iface 77 (.pointer (some ⟨b, 0, none⟩))] w fun e w' => e = .returned (.tuple #[]) ∧ (∃ v' f', Hs w' (Xt X w w') c mk mp v' (n + 1) f' nm tm ∧ Hp.Same (n + 1) (pu f n b) f' ∧ Hp.Heap (hlt nm tm) (n + 1) f') ∧ Only X w w' := by
  have HP := Lib.hid (mPush_any b at0 h hb hbX hnew (by omega))
  have hH2 : Hp.Heap (hlt nm tm) n (pu f n b) := hH.congr (fun k hk => pu_k f b hk)
  have HF := Lib.hid hH2.more
  have iP : ∀ w : World, (method 252 80 (.pointer (some ⟨c, 1, none⟩)) "Push").run Try.prog w = .ok (106, .pointer (some ⟨c, 1, none⟩)) w := fun w => iPush
  clear h hb hbX hnew hH hH2
  go_enter Try.func39, Try.ntmps39
  go_wp2_with (first
    | (go_at_call 106; (with_reducible refine HP.out.mono ?_); rintro e w1 ⟨rfl, ⟨v1, hh1⟩, ho1⟩
       obtain ⟨qa, cap, rfl, h1, h2⟩ := ownsRow_shape hh1.own
       unfold maxLen at h2
       have iL := iLen (hh1.blk.cell 1)
       have HU := Lib.hid (up_any n (n + 1) hh1 (by omega) (Nat.le_refl _) HF.out.1 HF.out.2)
       have HO1 := Lib.hid ho1
       clear hh1 ho1)
    | (go_at_call 102; (with_reducible refine (hLen_any _ _ _ _).mono ?_); rintro e wn ⟨rfl, rfl⟩)
    | (go_at_call 57; (with_reducible refine HU.out.mono ?_); rintro e w2 ⟨rfl, f', hh2, ho2, ht2, hp2⟩
       have HH2 := Lib.hid hh2
       have HO2 := Lib.hid ho2
       have HT2 := Lib.hid ht2
       have HP2 := Lib.hid hp2
       clear hh2 ho2 ht2 hp2))
  go_end0
  exact ⟨rfl, ⟨_, f', HH2.out.wide (fun k hk => by rcases hk with h | ⟨h1, h2⟩; exact .inl h; exact .inr ⟨h1, Nat.lt_of_lt_of_le h2 HO2.out.size⟩), HT2.out.same, HP2.out⟩, HO1.out.trans HO2.out (fun k hk => by rcases hk with h | ⟨h1, h2⟩; exact .inl h; exact .inr h1)⟩
set_option maxRecDepth 100000 in
set_option maxHeartbeats 1000000 in
theorem heapFix_any (i : Nat) (h : Hs w X c mk mp v n f nm tm) (hi : i < n) (hn : n ≤ 4398046511104) (hF : Hp.Fl (hlt nm tm) n f i) :
    Calls Try.prog 40 #[.iface 80 (.pointer (some ⟨c, 1, none⟩)), .int .i64 (i : Int)] w fun e w' => e = .returned (.tuple #[]) ∧ Left X c mk mp v n n f nm tm w w' (Hp.Heap (hlt nm tm) n) := by
  obtain ⟨q, cap, rfl, h1, h2, -, -⟩ := h.at_ hi
  unfold maxLen at h2
  have HD := Lib.hid (down_any i n h hi (Nat.le_refl _) hn hF)
  have iL := iLen (h.blk.cell 1)
  have HF := Lib.hid hF
  clear h hF
  go_enter Try.func40, Try.ntmps40
  go_wp2_with (first
    | (go_at_call 102; (with_reducible refine (hLen_any _ _ _ _).mono ?_); rintro e wn ⟨rfl, rfl⟩)
    | (go_at_call 56; (with_reducible refine HD.out.mono ?_); rintro e w1 ⟨b, rfl, f1, hh1, ho1, ht1, hy1, hn1⟩
       have HH1 := Lib.hid hh1
       have HO1 := Lib.hid ho1
       have HT1 := Lib.hid ht1
       have HY1 := Lib.hid hy1
       have HN1 := Lib.hid hn1
       clear hh1 ho1 ht1 hy1 hn1)
    | (go_at_call 57
       have hb : b = false := by simp_all
       obtain ⟨e1, hk⟩ := HN1.out hb
       have HU := Lib.hid (up_any i n HH1.out hi (Nat.le_refl _) (by rw [e1]; exact HF.out) (by rw [e1]; exact hk))
       clear hk
       (with_reducible refine HU.out.mono ?_); rintro e w2 ⟨rfl, f', hh2, ho2, ht2, hp2⟩
       have HH2 := Lib.hid hh2
       have HO2 := Lib.hid ho2
       have HT2 := Lib.hid ht2
       have HP2 := Lib.hid hp2
       clear hh2 ho2 ht2 hp2))
  · go_end0
    exact ⟨rfl, f', HH2.out, HO1.out.then HO2.out, by rw [← e1]; exact HT2.out, HP2.out⟩
  · have hb : b = true := by simp_all
    go_end0
    exact ⟨rfl, f1, HH1.out, HO1.out, HT1.out, HY1.out hb⟩
/-- What stands in the row but for one. -/
def But (n i : Nat) (f f' : Nat → Nat) : Prop := (∀ k, k < n → ∃ l, l < n + 1 ∧ l ≠ i ∧ f l = f' k) ∧ ∀ l, l < n + 1 → l ≠ i → ∃ k, k < n ∧ f' k = f l
theorem But.last (n : Nat) (f : Nat → Nat) : But n n f f := ⟨fun k hk => ⟨k, by omega, by omega, rfl⟩, fun l hl h => ⟨l, by omega, rfl⟩⟩
theorem But.of {n i : Nat} {f f' : Nat → Nat} (hi : i < n) (h : Turned (n + 1) n (Hp.sw f i n) f') : But n i f f' ∧ f' n = f i := by
  refine ⟨⟨fun k hk => ?_, fun l hl hli => ?_⟩, by rw [h.rest n (Nat.le_refl _), Hp.sw_j]⟩
  · obtain ⟨l, hl, e⟩ := h.same.bwd k hk
    by_cases h1 : l = i
    · subst h1; rw [Hp.sw_i] at e; exact ⟨n, by omega, by omega, e⟩
    · rw [Hp.sw_k f h1 (by omega)] at e; exact ⟨l, by omega, h1, e⟩
  · by_cases h1 : l = n
    · obtain ⟨k, hk, e⟩ := h.same.fwd i hi
      rw [Hp.sw_i] at e
      exact ⟨k, hk, by rw [e, h1]⟩
    · obtain ⟨k, hk, e⟩ := h.same.fwd l (by omega)
      rw [Hp.sw_k f hli h1] at e
      exact ⟨k, hk, e⟩
set_option maxRecDepth 100000 in
set_option maxHeartbeats 1000000 in
theorem heapRemove_any (i : Nat) (h : Hs w X c mk mp v (n + 1) f nm tm) (hi : i < n + 1) (hn : n + 1 ≤ 4398046511104) (hH : Hp.Heap (hlt nm tm) (n + 1) f) :
    Calls Try.prog 38 #[.iface 80 (.pointer (some ⟨c, 1, none⟩)), .int .i64 (i : Int)] w fun e w' => e = .returned (.iface 77 (.pointer (some ⟨f i, 0, none⟩))) ∧ (∃ v' f', Hs w' X c mk mp v' n f' nm tm ∧ But n i f f' ∧ Hp.Heap (hlt nm tm) n f') ∧ Only X w w' := by
  obtain ⟨q, cap, rfl, h1, h2, -, -⟩ := h.at_ hi
  unfold maxLen at h2
  have iL := iLen (h.blk.cell 1)
  have iS := iSwap (h.blk.cell 1)
  have iP : ∀ w : World, (method 252 80 (.pointer (some ⟨c, 1, none⟩)) "Pop").run Try.prog w = .ok (105, .pointer (some ⟨c, 1, none⟩)) w := fun w => iPop
  have hsub : (n : Int) + 1 - 1 = (n : Int) := by omega
  by_cases hin : i = n
  · subst hin
    have HP := Lib.hid (mPop_any h)
    have HH := Lib.hid (hH.less (m := i) (by omega))
    clear h hH iS
    go_enter Try.func38, Try.ntmps38
    go_wp2_with (first
      | (go_at_call 102; (with_reducible refine (hLen_any _ _ _ _).mono ?_); rintro e wn ⟨rfl, rfl⟩)
      | (go_at_call 105; (with_reducible refine HP.out.mono ?_); rintro e w2 ⟨rfl, v2, hh2, ho2⟩; have HH2 := Lib.hid hh2; have HO2 := Lib.hid ho2; clear hh2 ho2))
    go_ret
    exact ⟨rfl, ⟨v2, f, HH2.out, But.last i f, HH.out⟩, HO2.out⟩
  · have hne : ((n : Int) != (i : Int)) = true := by simp; omega
    have hlt : i < n := by omega
    have HS := Lib.hid (hSwap_any i n h hin (by omega) (by omega))
    have HF := Lib.hid (((hH.less (m := n) (by omega)).fl (hlt_ord nm tm) i).congr (f' := Hp.sw f i n) (fun k hk hkn => Hp.sw_k f hk (by omega)) hlt)
    clear h hH
    go_enter Try.func38, Try.ntmps38
    go_wp2_with (first
      | (go_at_call 102; (with_reducible refine (hLen_any _ _ _ _).mono ?_); rintro e wn ⟨rfl, rfl⟩)
      | (go_at_call 104; (with_reducible refine HS.out.mono ?_); rintro e w0 ⟨rfl, hh0, ho0⟩
         have HD := Lib.hid (down_any i n hh0 hlt (by omega) hn HF.out)
         have HO0 := Lib.hid ho0
         clear hh0 ho0)
      | (go_at_call 56; (with_reducible refine HD.out.mono ?_); rintro e w1 ⟨b, rfl, f1, hh1, ho1, ht1, hy1, hn1⟩
         have HH1 := Lib.hid hh1
         have HO1 := Lib.hid (HO0.out.then ho1)
         have HT1 := Lib.hid ht1
         have HY1 := Lib.hid hy1
         have HN1 := Lib.hid hn1
         clear hh1 ho1 ht1 hy1 hn1)
      | (go_at_call 57
         have hb : b = false := by simp_all
         obtain ⟨e1, hk⟩ := HN1.out hb
         have HU := Lib.hid (up_any i n HH1.out hlt (by omega) (by rw [e1]; exact HF.out) (by rw [e1]; exact hk))
         have E1 := Lib.hid e1
         clear hk e1
         (with_reducible refine HU.out.mono ?_); rintro e w2 ⟨rfl, f', hh2, ho2, ht2, hp2⟩
         have HPP := Lib.hid (mPop_any hh2)
         have HO2 := Lib.hid (HO1.out.then ho2)
         have HT2 := Lib.hid ht2
         have HP2 := Lib.hid hp2
         clear hh2 ho2 ht2 hp2)
      | (go_at_call 105; (with_reducible refine HPP.out.mono ?_); rintro e w3 ⟨rfl, v3, hh3, ho3⟩; have HH3 := Lib.hid hh3; have HO3 := Lib.hid (HO2.out.then ho3); clear hh3 ho3)
      | (go_at_call 105; (with_reducible refine (mPop_any HH1.out).mono ?_); rintro e w3 ⟨rfl, v3, hh3, ho3⟩; have HH3 := Lib.hid hh3; have HO3 := Lib.hid (HO1.out.then ho3); clear hh3 ho3))
    · go_ret
      have ht : Turned (n + 1) n (Hp.sw f i n) f' := by rw [← E1.out]; exact HT2.out
      obtain ⟨k1, k2⟩ := But.of hlt ht
      exact ⟨by rw [← k2]; rfl, ⟨v3, f', HH3.out, k1, HP2.out⟩, HO3.out⟩
    · have hb : b = true := by simp_all
      go_ret
      obtain ⟨k1, k2⟩ := But.of hlt HT1.out
      exact ⟨by rw [← k2]; rfl, ⟨v3, f1, HH3.out, k1, HY1.out hb⟩, HO3.out⟩
end
end Go.Proofs.Ytdndljbagjfkkaa
