/- The heap of holds: Push, Pop; the library's Push, Fix, Remove. -/
import Derived.Test.YtdndljbagjfkkaaHs4
namespace Go.Proofs.Ytdndljbagjfkkaa
open Go.RowKit Go.Lib

theorem phInfo : (Try.prog.info? 77).map (fun i => (i.zero, i.size, i.bytes)) = some (some (.pointer none), 1, 8) := by kernel_rfl
theorem phSl : Try.prog.underlying 67 = some (.slice (Try.prog.elem 67)) := by kernel_rfl
theorem phSz (W : World) : (sizeOf (Try.prog.elem 67)).run Try.prog W = .ok 1 W := by kernel_rfl
theorem asHold (W : World) (a : Addr) : (Instr.typeAssert (.iface 77 (.pointer (some a))) 20 77 false).run Try.prog W = .ok (.pointer (some a)) W := by kernel_rfl
/-- What there was of X, and what is new. -/
def Xt (X : Nat → Prop) (w w' : World) (k : Nat) : Prop := X k ∨ (w.heap.size ≤ k ∧ k < w'.heap.size)
/-- One more behind the row. -/
def pu (f : Nat → Nat) (n b k : Nat) : Nat := if k = n then b else f k
theorem pu_n (f : Nat → Nat) (n b : Nat) : pu f n b n = b := by simp [pu]
theorem pu_k (f : Nat → Nat) {n k : Nat} (b : Nat) (h : k < n) : pu f n b k = f k := by unfold pu; rw [if_neg (by omega)]
theorem hc_more (f : Nat → Nat) (n b : Nat) : hc (pu f n b) (n + 1) = hc f n ++ [.pointer (some ⟨b, 0, none⟩)] := by
  unfold hc
  rw [List.range_succ, List.map_append]
  congr 1
  · apply List.map_congr_left
    intro k hk
    rw [pu_k f b (by simpa using hk)]
  · simp [pu_n]
theorem hc_less (f : Nat → Nat) {n m : Nat} (h : m ≤ n) : (hc f n).take m = hc f m := by
  unfold hc
  rw [← List.map_take, List.take_range, Nat.min_eq_left h]
/-- The front of a row. -/
theorem own_front {w : World} {base : Nat} {e : TypeId} {g n cap : Nat} {xs : List Value} (h : w.ownsRow base e 1 (.slice (some ⟨g, 0, none⟩) n cap) n xs) {m : Nat} (hm : m ≤ n) : w.ownsRow base e 1 (.slice (some ⟨g, 0, none⟩) m cap) m (xs.take m) := by
  have hl := h.1
  refine ⟨by simp; omega, ?_⟩
  rcases h.2 with ⟨h1, _⟩ | ⟨g', cap', cur, h1, h2, h3, h4, h5, h6, h7⟩
  · cases h1
  · cases h1
    refine .inr ⟨_, _, cur, rfl, h2, h3, by omega, h5, h6, ?_⟩
    rw [← h7, List.take_take]
    congr 1
    omega
section
variable {w w' : World} {X : Nat → Prop} {c : Nat} {mk mp v : Value} {n : Nat} {f : Nat → Nat} {nm : Nat → ByteArray} {tm : Nat → Int}
theorem Hs.wide {Y : Nat → Prop} (h : Hs w X c mk mp v n f nm tm) (hy : ∀ k, X k → Y k) : Hs w Y c mk mp v n f nm tm := ⟨h.blk, h.own, h.ent, h.inj, hy _ h.xc, fun r e => hy _ (h.xv r e), fun k hk => hy _ (h.xf k hk)⟩
set_option maxRecDepth 100000 in
theorem mPush_any (b : Nat) (at0 : Int) (h : Hs w X c mk mp v n f nm tm) (hb : Bk w b 82 #[.string (nm b), .int .i64 (tm b), .int .i64 at0]) (hbX : X b) (hnew : ∀ k, k < n → f k ≠ b) (hn : n ≤ 4398046511104) :
    Calls Try.prog 106 #[.pointer (some ⟨c, 1, none⟩), .iface 77 (.pointer (some ⟨b, 0, none⟩))] w fun e w' => e = .returned (.tuple #[]) ∧ (∃ v', Hs w' (Xt X w w') c mk mp v' (n + 1) (pu f n b) nm tm) ∧ Only X w w' := by
  obtain ⟨i0, hi0, hz0, hz1, hz2⟩ := info_parts phInfo
  obtain ⟨A, cap, rfl, h1, h2⟩ := ownsRow_shape h.own
  have HH := Lib.hid h
  have HB := Lib.hid hb
  have HBX := Lib.hid hbX
  have HNEW := Lib.hid hnew
  have hcb : c ≠ b := h.blk.ne hb (by decide)
  have x1 : w.cell? ⟨c, 1, none⟩ = some (.slice A n cap) := h.blk.cell 1
  have b2 : w.cell? ⟨b, 2, none⟩ = some (.int .i64 at0) := hb.cell 2
  have fb := hb.frozen 2
  obtain ⟨W1, hW1⟩ : ∃ W1, W1 = w.setCell ⟨b, 2, none⟩ (.int .i64 (n : Int)) := ⟨_, rfl⟩
  have hb1 : Bk W1 b 82 #[.string (nm b), .int .i64 (tm b), .int .i64 (n : Int)] := by rw [hW1]; exact hb.set 2 _
  have hk1 : Bk W1 c 70 #[mk, .slice A n cap, mp] := by rw [hW1]; exact h.blk.far (p := ⟨b, 2, none⟩) hcb _
  have ho1 : W1.ownsRow 0 77 1 (.slice A n cap) n (hc f n) := by rw [hW1]; exact own_set h.own hb (by decide) 2 _
  have he1 : ∀ k, k < n → Bk W1 (f k) 82 #[.string (nm (f k)), .int .i64 (tm (f k)), .int .i64 (k : Int)] := fun k hk => by rw [hW1]; exact (h.ent k hk).far (p := ⟨b, 2, none⟩) (hnew k hk) _
  have hX1 : Only X w W1 := by rw [hW1]; exact Only.set ⟨b, 2, none⟩ _ hbX w
  have HX1 := Lib.hid hX1
  have HK1 := Lib.hid (hk1.alloc (.cells #[.pointer (some ⟨b, 0, none⟩)] 77))
  have HB1 := Lib.hid (hb1.alloc (.cells #[.pointer (some ⟨b, 0, none⟩)] 77))
  have HE1 := Lib.hid (fun k hk => (he1 k hk).alloc (.cells #[.pointer (some ⟨b, 0, none⟩)] 77))
  have HO1 := Lib.hid (ho1.alloc (.cells #[.pointer (some ⟨b, 0, none⟩)] 77))
  have hsz : W1.heap.size = w.heap.size := by rw [hW1]; simp [World.setCell]
  have hrd := (Rd.of_owns (World.ownsRow_lit (base := 0) (e := 77) (size := 1) W1 #[.pointer (some ⟨b, 0, none⟩)] 1 (Nat.zero_le _) (by decide) rfl))
  rw [hsz] at hrd
  have HRD := Lib.hid hrd
  have HSZ := Lib.hid hsz
  have y1 : (W1.alloc (.cells #[.pointer (some ⟨b, 0, none⟩)] 77)).cell? ⟨c, 1, none⟩ = some (.slice A n cap) := HK1.out.cell 1
  have z1 : W1.cell? ⟨c, 1, none⟩ = some (.slice A n cap) := hk1.cell 1
  have HW1 : Hid (w.setCell ⟨b, 2, none⟩ (.int .i64 (n : Int)) = W1) := hW1.symm
  clear h hb hbX hnew hb1 hk1 ho1 he1 hX1 hW1 h2 hrd hsz
  have hta := fun W => asHold W ⟨b, 0, none⟩
  go_enter Try.func106, Try.ntmps106
  go_wp2_with (first
    | (at_builtin; rw [HW1.out]; refine wpList_append_rd _ rfl (.tmp 17) (.tmp 19) 67 rfl 0 77 i0 _ 1 8 Try.underlying67 hi0 hz0 hz1 hz2 rfl (by decide) _ n _ rfl HO1.out (some ⟨w.heap.size, 0, none⟩) 1 1 [.pointer (some ⟨b, 0, none⟩)] rfl rfl HRD.out (by simp [Value.oneCell']) (by simp only [maxLen]; omega) (by omega) (Nat.zero_le _) ?_; intro v2 w2 ho2 hg2 hat2
       have hgw := Grew.of_append hg2 hat2
       have HK2 := Lib.hid (HK1.out.grew hgw (own_bk_ne HO1.out HK1.out (by decide)))
       have HB2 := Lib.hid (HB1.out.grew hgw (own_bk_ne HO1.out HB1.out (by decide)))
       have HE2 := Lib.hid (fun k hk => (HE1.out k hk).grew hgw (own_bk_ne HO1.out (HE1.out k hk) (by decide)))
       rw [← hc_more] at ho2
       obtain ⟨a2, k2, rfl, _, _⟩ := ownsRow_shape ho2
       have y2 : w2.cell? ⟨c, 1, none⟩ = some (.slice A n cap) := HK2.out.cell 1
       have f2 := HK2.out.frozen 1
       have HO2 := Lib.hid ho2
       have HG2 := Lib.hid hgw
       clear ho2 hg2 hat2 hgw))
  go_end0
  have hal := below_alloc W1 (.cells #[.pointer (some ⟨b, 0, none⟩)] 77)
  have hsa : w.heap.size ≤ (W1.alloc (.cells #[.pointer (some ⟨b, 0, none⟩)] 77)).heap.size := by have := hal.size; have := HX1.out.size; omega
  have hX2 : Only X w w2 := (HX1.out.then (Only.of_below hal)).trans (Only.of_grown (X := X) HG2.out.only (fun r e => .inl (HH.out.xv r e))) (fun b h => .inl h)
  have hsz2 : (w2.setCell ⟨c, 1, none⟩ (.slice a2 (n + 1) k2)).heap.size = w2.heap.size := by simp [World.setCell]
  have far : ∀ {g : Nat} {t : TypeId} {cs : Array Value}, Bk w2 g t cs → t ≠ 70 → Bk (w2.setCell ⟨c, 1, none⟩ (.slice a2 (n + 1) k2)) g t cs := fun hx ht => hx.far (p := ⟨c, 1, none⟩) (hx.ne HK2.out ht) _
  refine ⟨rfl, ⟨_, ⟨HK2.out.set 1 _, own_set HO2.out HK2.out (by decide) 1 _, fun k hk => ?_, fun k l hk hl e => ?_, .inl HH.out.xc, fun r e => ?_, fun k hk => ?_⟩⟩, hX2.then (Only.set ⟨c, 1, none⟩ _ HH.out.xc _)⟩
  · by_cases hkn : k = n
    · subst hkn; rw [pu_n]; exact far HB2.out (by decide)
    · rw [pu_k f b (by omega)]; exact far (HE2.out k (by omega)) (by decide)
  · by_cases hkn : k = n <;> by_cases hln : l = n
    · omega
    · rw [hkn, pu_n, pu_k f b (by omega)] at e; exact absurd e.symm (HNEW.out l (by omega))
    · rw [hln, pu_n, pu_k f b (by omega)] at e; exact absurd e (HNEW.out k (by omega))
    · rw [pu_k f b (by omega), pu_k f b (by omega)] at e; exact HH.out.inj k l (by omega) (by omega) e
  · rcases HG2.out.at_ r e with h1 | h1
    · exact .inl (HH.out.xv r h1)
    · exact .inr ⟨by omega, by rw [hsz2]; exact (own_lt HO2.out e).2⟩
  · by_cases hkn : k = n
    · subst hkn; rw [pu_n]; exact .inl HBX.out
    · rw [pu_k f b (by omega)]; exact .inl (HH.out.xf k (by omega))
set_option maxRecDepth 100000 in
theorem mPop_any (h : Hs w X c mk mp v (n + 1) f nm tm) :
    Calls Try.prog 105 #[.pointer (some ⟨c, 1, none⟩)] w fun e w' => e = .returned (.iface 77 (.pointer (some ⟨f n, 0, none⟩))) ∧ ∃ v', Hs w' X c mk mp v' n f nm tm ∧ Only X w w' := by
  obtain ⟨q, cap, rfl, h1, h2, hc, hq⟩ := h.at_ (k := n) (by omega)
  unfold maxLen at h2
  have HH := Lib.hid h
  have x1 : w.cell? ⟨c, 1, none⟩ = some (.slice (some ⟨q, 0, none⟩) (n + 1) cap) := h.blk.cell 1
  have f1 := h.blk.frozen 1
  have z0 := (hc n (by omega)).1
  have hsl : ∀ W : World, (Instr.sliceAt 67 (.slice (some ⟨q, 0, none⟩) (n + 1) cap) none (some (.int .i64 (n : Int))) none).run Try.prog W = .ok (.slice (some ⟨q, 0, none⟩) n cap) W := by
    intro W
    rw [run_sliceAt_slice _ _ _ _ _ _ phSl, run_slice_h _ _ _ _ _ phSl _ _ (by omega) (by omega)]
    simp only [Int.toNat_natCast, phSz, Result.andThen_ok]
    unfold sliced
    rw [if_neg (by omega)]
    simp [addr_add]
  have hwn : IntKind.i64.wrap ((n : Int) + 1 - 1) = (n : Int) := by rw [Int.add_sub_cancel]; exact IntWalk.i64_in _ (by omega)
  have hni : (n : Int) < (n : Int) + 1 := by omega
  clear h hc
  go_enter Try.func105, Try.ntmps105
  go_wp2
  go_ret
  have hk := HH.out.blk
  refine ⟨rfl, _, ⟨hk.set 1 _, ?_, fun k hk' => (HH.out.ent k (by omega)).far (p := ⟨c, 1, none⟩) ((HH.out.ent k (by omega)).ne hk (by decide)) _, fun k l hk hl e => HH.out.inj k l (by omega) (by omega) e, HH.out.xc, fun r e => HH.out.xv r e, fun k hk => HH.out.xf k (by omega)⟩, Only.set ⟨c, 1, none⟩ _ HH.out.xc _⟩
  have ho := own_front (own_set HH.out.own hk (by decide) 1 (.slice (some ⟨q, 0, none⟩) n cap)) (m := n) (by omega)
  rw [hc_less f (by omega)] at ho
  exact ho
end
end Go.Proofs.Ytdndljbagjfkkaa
