/- The document's clock: Of, Free, Hold, Copy. -/
import Derived.Test.YtdndljbagjfkkaaRc2
namespace Go.Proofs.Ytdndljbagjfkkaa
open Go.RowKit Go.Lib
section
variable {P : Program} {w : World}
theorem step_append_rd {ops : Array Oper} {o : Oper} {a : Act} {K : Act → World → Prop} {Q : Exit → Act → World → Prop} {E : Prop} (hgd : o.guard = none) (s x : Operand) (t : TypeId)
    (ho : o.op = .call { callee := .builtin .append, args := #[s, x], argTypes := #[t, t] })
    (base : Nat) (e : TypeId) (i : TypeInfo) (z : Value) (size bytes : Nat) (ht : P.underlying t = some (.slice e)) (hi : P.info? e = some i) (hz : i.zero = some z)
    (hsize : i.size = size) (hby : i.bytes = bytes) (hzs : z.cells.size = size) (hsz : 0 < size)
    (v : Value) (n : Nat) (xs : List Value) (hs : a.eval s = v) (hown : w.ownsRow base e size v n xs)
    (A : Option Addr) (m c : Nat) (news : List Value) (hx : a.eval x = .slice A m c) (hl : news.length = m * size) (hr : Rd w (.slice A m c) m news) (h1 : ∀ u ∈ news, u.oneCell' = true)
    (h63 : n + m ≤ maxLen) (hbytes : (n + m) * bytes ≤ 140737488355328) (hbase : base ≤ w.heap.size)
    (h : ∀ v' w', w'.ownsRow base e size v' (n + m) (xs ++ news) → Grew w w' v v' → K (a.put o.dst v') w') :
    if Region.wanted o (yielded ops a.tmps) = true then Oper.wp P o a w K Q else E := by
  have hw : Region.wanted o (yielded ops a.tmps) = true := by simp [Region.wanted, hgd]
  rw [if_pos hw]
  obtain ⟨v', w', hrun, h2, h3, h4⟩ := run_append_rd (P := P) w base t o.type e i z size bytes ht hi hz hsize hby hzs hsz v n xs hown A m c news hl hr h1 h63 hbytes hbase
  unfold Oper.wp execOp
  simp only [ho, resolve, invoke, builtin, Sem.run_bind, Sem.run_pure, Result.andThen_ok, List.map_toArray, List.map_cons, List.map_nil, hs, hx, hrun]
  exact h v' w' h2 (Grew.of_append h3 h4)
end
theorem hdInfo : (Try.prog.info? 52).map (fun i => (i.zero, i.size, i.bytes)) = some (some (.agg #[.string ⟨#[]⟩, .int .i64 0]), 2, 24) := by kernel_rfl
theorem hdSl : Try.prog.underlying 48 = some (.slice (Try.prog.elem 48)) := by kernel_rfl
theorem hdSz (W : World) : (sizeOf (Try.prog.elem 48)).run Try.prog W = .ok 2 W := by kernel_rfl
theorem rd_parth {w : World} {a : Option Addr} {cap n : Nat} {l : List Hd} (h : Rd w (.slice a n cap) n (hdc l)) (f z : Nat) (hfz : f ≤ z) (hz : z ≤ n) :
    Rd w (sliced a f z cap 2) (z - f) (hdc ((l.take z).drop f)) := by
  obtain ⟨a', cap', hv, h1, h2, h3⟩ := h
  cases hv
  unfold sliced
  refine ⟨_, _, rfl, by omega, by unfold maxLen at *; omega, fun hn => ?_⟩
  obtain ⟨g, off, rfl, hg, hx⟩ := h3 (by omega)
  rw [if_neg (by omega)]
  refine ⟨g, off + f * 2, by simp [addr_add], hg, fun j u hj => ?_⟩
  rw [(hdc_cut _ f).2, (hdc_cut l z).1, List.getElem?_drop] at hj
  have hj2 : (hdc l)[f * 2 + j]? = some u := by
    rw [List.getElem?_take] at hj
    split at hj
    · exact hj
    · cases hj
  have := hx (f * 2 + j) u hj2
  rw [← Nat.add_assoc] at this
  exact this
theorem run_fronth {w : World} {a : Option Addr} {cap n : Nat} {l : List Hd} (h : Rd w (.slice a n cap) n (hdc l)) (z : Nat) (hz : z ≤ n) :
    ∃ A c, (∀ W : World, (Instr.sliceAt 48 (.slice a n cap) none (some (.int .i64 (z : Int))) none).run Try.prog W = .ok (.slice A z c) W) ∧ Rd w (.slice A z c) z (hdc (l.take z)) := by
  have hp := rd_parth h 0 z (Nat.zero_le _) hz
  obtain ⟨_, _, hv, h1, h2, _⟩ := h
  cases hv
  refine ⟨_, _, fun W => ?_, hp⟩
  rw [run_sliceAt_slice _ _ _ _ _ _ hdSl, run_slice_h _ _ _ _ _ hdSl _ _ (by omega) (by omega)]
  simp only [Int.toNat_natCast, hdSz, Result.andThen_ok]
  rfl
theorem run_backh {w : World} {a : Option Addr} {cap n : Nat} {l : List Hd} (h : Rd w (.slice a n cap) n (hdc l)) (hn : l.length = n) (f : Nat) (hf : f ≤ n) :
    ∃ A c, (∀ W : World, (Instr.sliceAt 48 (.slice a n cap) (some (.int .i64 (f : Int))) none none).run Try.prog W = .ok (.slice A (n - f) c) W) ∧ Rd w (.slice A (n - f) c) (n - f) (hdc (l.drop f)) := by
  have hp := rd_parth h f n hf (Nat.le_refl _)
  rw [show l.take n = l by rw [← hn, List.take_length]] at hp
  obtain ⟨_, _, hv, h1, h2, _⟩ := h
  cases hv
  refine ⟨_, _, fun W => ?_, hp⟩
  rw [run_sliceAt_slice _ _ _ _ _ _ hdSl, run_slice_l _ _ _ _ _ hdSl _ _ (by omega) (by omega)]
  simp only [Int.toNat_natCast, hdSz, Result.andThen_ok]
  rfl
section
variable {w w' : World} {X : Nat → Prop} {c : Nat} {L : List Int} {H : List Hd}
set_option maxRecDepth 100000 in
set_option maxHeartbeats 1000000 in
theorem rFree_any (h : Rc w X c L H) (s : ByteArray) (hH : H.length ≤ 4398046511104) : Calls Try.prog 42 #[.pointer (some ⟨c, 0, none⟩), .string s] w fun e w' => e = .returned (.bool (hasN H s)) ∧ Rc w' (Xt X w w') c L (frH H s) ∧ Only X w w' := by
  have HP := Lib.hid (place_any h s)
  have HH := Lib.hid h
  have HPL := Lib.hid (plc_le H s)
  have HLT : Hid (hasN H s = true → plc H s < H.length) := fun hn => by
    unfold hasN at hn
    rcases hx : H[plc H s]? with _ | x
    · rw [hx] at hn; cases hn
    · exact (List.getElem?_eq_some_iff.1 hx).1
  have HFR : Hid (frH H s = if hasN H s then H.take (plc H s) ++ H.drop (plc H s + 1) else H) := rfl
  have HXL := Lib.hid h.xl
  clear h
  generalize frH H s = F at *
  generalize plc H s = p at *
  rcases hb : hasN H s with _ | _
  · rw [hb] at HP HFR
    have HF : Hid (F = H) := by show _ = _; rw [HFR.out]; simp
    clear hb HFR HLT
    go_enter Try.func42, Try.ntmps42
    go_wp2_with (first
      | (go_at_call 43; (with_reducible refine HP.out.mono ?_); rintro e w1 ⟨rfl, hb1⟩; have HB1 := Lib.hid hb1; clear hb1))
    go_ret
    refine ⟨rfl, ?_, Only.of_below HB1.out⟩
    rw [HF.out]
    exact (HH.out.below HB1.out).wide (fun k hk => .inl hk) (fun k hk => by rcases hk with hk | hk; exact Nat.lt_of_lt_of_le (HXL.out k hk) HB1.out.size; exact hk.2)
  · rw [hb] at HP HFR HLT
    have hlt := HLT.out rfl
    have HF : Hid (F = H.take p ++ H.drop (p + 1)) := by show _ = _; rw [HFR.out]; simp
    clear hb HFR HLT
    obtain ⟨i0, hi0, hz0, hz1, hz2⟩ := info_parts hdInfo
    go_enter Try.func42, Try.ntmps42
    go_wp2_with (first
      | (go_at_call 43; (with_reducible refine HP.out.mono ?_); rintro e w1 ⟨rfl, hb1⟩; have HB1 := Lib.hid hb1; clear hb1))
    have HH1 := Lib.hid (HH.out.below HB1.out)
    obtain ⟨lv, hv, hh⟩ := HH1.out
    obtain ⟨A, cap, rfl, hcap, _⟩ := ownsRow_shape hh.hr
    have hx1 := Rd.of_owns hh.hr
    obtain ⟨q, hq⟩ : ∃ q, p + 1 = q := ⟨_, rfl⟩
    rw [hq] at HF
    have hqm : q ≤ H.length := by omega
    obtain ⟨A1, c1, hr1, hd1⟩ := run_fronth hx1 p (by omega)
    obtain ⟨A2, c2, hr2, hd2⟩ := run_backh hx1 rfl q hqm
    have HD1 : Hid (∀ W, Below w1.heap.size w1 W → Rd W (.slice A1 p c1) p (hdc (H.take p))) := fun W hW => hd1.below hW
    have HD2 : Hid (∀ W, Below w1.heap.size w1 W → Rd W (.slice A2 (H.length - q) c2) (H.length - q) (hdc (H.drop q))) := fun W hW => hd2.below hW
    have HL1 : Hid ((hdc (H.take p)).length = p * 2) := by show _ = _; rw [hdc_length, List.length_take, Nat.min_eq_left (by omega)]
    have HL2 : Hid ((hdc (H.drop q)).length = (H.length - q) * 2) := by show _ = _; rw [hdc_length, List.length_drop]
    have HHH := Lib.hid hh
    have HLF : Hid (F.length = p + (H.length - q)) := by show _ = _; rw [HF.out, List.length_append, List.length_take, List.length_drop, Nat.min_eq_left (by omega)]
    have HFC : Hid (hdc (H.take p) ++ hdc (H.drop q) = hdc F) := by show _ = _; rw [HF.out, hdc_append]
    have x1 : w1.cell? ⟨c, 1, none⟩ = some (.slice A H.length cap) := hh.bk.cell 1
    have hpi : IntKind.i64.wrap ((p : Int) + 1) = (q : Int) := by rw [IntKind.wrap_i64]; omega
    have hm0 : H.length - q ≤ 4398046511104 := by omega
    have hm1 : p + (H.length - q) ≤ 4398046511104 := by omega
    clear hh hd1 hd2 hx1 hq
    generalize H.length - q = r at *
    obtain ⟨m, hm⟩ : ∃ m, H.length = m := ⟨_, rfl⟩
    rw [hm] at x1 hr1 hr2
    clear hm
    have hd : Below w1.heap.size w1 w1.drew := below_drew w1
    have HDR := Lib.hid hd
    clear hd
    go_region_law (first
      | (refine step_append_rd (by rfl) (.const (.slice none 0 0)) (.tmp 22) 48 (by rfl) w1.heap.size 52 i0 _ 2 24 Try.underlying48 hi0 hz0 hz1 hz2 rfl (by decide) _ 0 [] (by rfl) (World.ownsRow_nil _ _ _ _) A1 p c1 (hdc (H.take p)) (by rfl) HL1.out (HD1.out _ HDR.out) (hdc_one _) (by simp only [maxLen]; omega) (by omega) (by simp) ?_; intro v2 w2 ho2 hg2
         simp only [Nat.zero_add, List.nil_append] at ho2
         have HB2 := Lib.hid (HDR.out.trans (hg2.below (by simp) (fun g e => by cases e)))
         obtain ⟨a2, k2, rfl, _, _⟩ := ownsRow_shape ho2
         have HO2 := Lib.hid ho2
         have y1 : w2.cell? ⟨c, 1, none⟩ = some (.slice A m cap) := (HB2.out.cell (p := ⟨c, 1, none⟩) HHH.out.bk.lt).trans x1
         clear ho2 hg2)
      | (refine step_append_rd (by rfl) (.tmp 23) (.tmp 30) 48 (by rfl) w1.heap.size 52 i0 _ 2 24 Try.underlying48 hi0 hz0 hz1 hz2 rfl (by decide) _ p _ (by rfl) HO2.out A2 r c2 (hdc (H.drop q)) (by rfl) HL2.out (HD2.out _ HB2.out) (hdc_one _) (by simp only [maxLen]; omega) (by omega) HB2.out.size ?_; intro v3 w3 ho3 hg3
         have HB3 := Lib.hid (HB2.out.trans (hg3.below HB2.out.size (fun g e => (HO2.out.lt g e).1)))
         obtain ⟨a3, k3, rfl, _, _⟩ := ownsRow_shape ho3
         have HO3 := Lib.hid ho3
         have HK3 := Lib.hid (HHH.out.bk.below HB3.out)
         have y1 := HK3.out.cell 1
         have f1 := HK3.out.frozen 1
         clear ho3 hg3))
    all_goals go_wp2
    all_goals go_ret
    all_goals
      have hs0 := HO3.out
      have hs := own_set hs0 HK3.out (by decide) 1 (Value.slice a3 (p + r) k3)
      rw [HFC.out, ← HLF.out] at hs
      have hon : Only X w (w3.setCell ⟨c, 1, none⟩ (Value.slice a3 (p + r) k3)) := ((Only.of_below HB1.out).trans (Only.of_below HB3.out) (fun _ h => .inl h)).then (Only.set ⟨c, 1, none⟩ _ HHH.out.xc w3)
      have hl := own_set (own_below HHH.out.lr HB3.out) HK3.out (by decide) 1 (Value.slice a3 (p + r) k3)
      refine ⟨rfl, ⟨lv, _, HK3.out.set 1 _, .inl HHH.out.xc, hl, fun r e => .inl (HHH.out.xm r e), ?_, ?_, HHH.out.ln, HHH.out.lm, fun k hk => ?_⟩, hon⟩
      · rw [HLF.out] at hs ⊢; exact own_mono hs (Nat.zero_le _)
      · intro r e
        have := HO3.out.lt r e
        have h1 := HB1.out.size
        exact .inr ⟨by omega, by simp; omega⟩
      · rcases hk with hk | hk
        · exact Nat.lt_of_lt_of_le (HXL.out k hk) hon.size
        · exact hk.2
/-- What Hold leaves, whatever the time. -/
def holdH (H : List Hd) (s : ByteArray) (t : Int) : List Hd := if isTime t = true then hoH H s t else H
theorem HT.hold {H : List Hd} {T : ByteArray → Option Int} (h : HT H T) (s : ByteArray) (t : Int) : HT (holdH H s t) (holdT T s t) := by
  unfold holdH holdT
  split
  · exact h.held s t
  · exact h
set_option maxRecDepth 100000 in
theorem rHold_no (_h : Rc w X c L H) (s : ByteArray) (t : Int) (ht : isTime t = false) : Calls Try.prog 18 #[.pointer (some ⟨c, 0, none⟩), .string s, .int .i64 t] w fun e w' => e = .returned (.int .i64 2) ∧ w = w' := by
  have htm := rtime_any t
  rw [ht] at htm
  have HTM := Lib.hid htm
  clear htm ht
  go_enter Try.func18, Try.ntmps18
  go_wp2_with (first
    | (go_at_call 41; (with_reducible refine (HTM.out _).mono ?_); rintro e wn ⟨rfl, rfl⟩))
  go_ret
  exact ⟨rfl, rfl⟩
set_option maxRecDepth 100000 in
set_option maxHeartbeats 2000000 in
theorem rHold_yes (h : Rc w X c L H) (s : ByteArray) (t : Int) (hH : H.length ≤ 4398046511103) (ht : isTime t = true) : Calls Try.prog 18 #[.pointer (some ⟨c, 0, none⟩), .string s, .int .i64 t] w fun e w' => e = .returned (.int .i64 0) ∧ Rc w' (Xt X w w') c L (hoH H s t) ∧ Only X w w' := by
  have htm := rtime_any t
  rw [ht] at htm
  have HTM := Lib.hid htm
  have HFR := Lib.hid (rFree_any h s (by omega))
  have HHO : Hid (hoH H s t = (frH H s).take (plc (frH H s) s) ++ [⟨s, t⟩] ++ (frH H s).drop (plc (frH H s) s)) := rfl
  have HPP := Lib.hid (fun (W : World) (Y : Nat → Prop) (h' : Rc W Y c L (frH H s)) => place_any h' s)
  have HXL := Lib.hid h.xl
  have HFL := frH_length (H := H) s
  have HPL := plc_le (frH H s) s
  obtain ⟨i0, hi0, hz0, hz1, hz2⟩ := info_parts hdInfo
  clear h htm ht
  generalize hoH H s t = R at *
  generalize frH H s = F at *
  generalize plc F s = p at *
  generalize hasN F s = bn at *
  generalize hasN H s = bm at *
  have hm0 : F.length - p ≤ 4398046511103 := by omega
  have hm1 : p + 1 + (F.length - p) ≤ 4398046511104 := by omega
  have HL1 : Hid ((hdc (F.take p)).length = p * 2) := by show _ = _; rw [hdc_length, List.length_take, Nat.min_eq_left (by omega)]
  have HL2 : Hid ((hdc (F.drop p)).length = (F.length - p) * 2) := by show _ = _; rw [hdc_length, List.length_drop]
  have HLR : Hid (R.length = p + 1 + (F.length - p)) := by show _ = _; rw [HHO.out, List.length_append, List.length_append, List.length_take, List.length_drop, Nat.min_eq_left (by omega)]; simp
  have HRC : Hid (hdc (F.take p) ++ [Value.string s, .int .i64 t] ++ hdc (F.drop p) = hdc R) := by show _ = _; rw [HHO.out, hdc_append, hdc_append]; rfl
  obtain ⟨m, hme0⟩ : ∃ m, F.length = m := ⟨_, rfl⟩
  rw [hme0] at hm0 hm1 HL2 HLR HPL HFL
  obtain ⟨r, hre0⟩ : ∃ r, m - p = r := ⟨_, rfl⟩
  rw [hre0] at hm0 hm1 HL2 HLR
  have HME := Lib.hid hme0
  have HRE := Lib.hid hre0
  clear hH HHO hme0 hre0
  go_enter Try.func18, Try.ntmps18
  go_wp2_with (first
    | (go_at_call 41; (with_reducible refine (HTM.out _).mono ?_); rintro e wn ⟨rfl, rfl⟩)
    | (go_at_call 42; (with_reducible refine HFR.out.mono ?_); rintro e w1 ⟨rfl, hk1, ho1⟩
       have HK1 := Lib.hid hk1
       have HO1 := Lib.hid ho1
       clear hk1 ho1)
    | (go_at_call 43; (with_reducible refine (HPP.out _ _ HK1.out).mono ?_); rintro e w2 ⟨rfl, hb2⟩
       have HB2 := Lib.hid hb2
       have HK2 := Lib.hid (HK1.out.below hb2)
       clear hb2
       obtain ⟨lv, hv, hh⟩ := HK2.out
       obtain ⟨A, cap, rfl, hcap, _⟩ := ownsRow_shape hh.hr
       have hme := HME.out
       have hre := HRE.out
       rw [hme] at hcap
       have hx1 := Rd.of_owns hh.hr
       rw [hme] at hx1
       obtain ⟨A1, c1, hr1, hd1⟩ := run_fronth hx1 p (by omega)
       obtain ⟨A2, c2, hr2, hd2⟩ := run_backh hx1 hme p (by omega)
       rw [hre] at hr2 hd2
       have HD1 : Hid (∀ W, Below w2.heap.size w2 W → Rd W (.slice A1 p c1) p (hdc (F.take p))) := fun W hW => hd1.below hW
       have HD2 : Hid (∀ W, Below w2.heap.size w2 W → Rd W (.slice A2 (r) c2) (r) (hdc (F.drop p))) := fun W hW => hd2.below hW
       have HHH := Lib.hid hh
       have x1 : w2.cell? ⟨c, 1, none⟩ = some (.slice A m cap) := by rw [← hme]; exact hh.bk.cell 1
       clear hh hd1 hd2 hx1 hme hre)
    | (at_builtin; refine wpList_append_rd _ rfl (.const (.slice none 0 0)) (.tmp 29) 48 rfl w2.heap.size 52 i0 _ 2 24 Try.underlying48 hi0 hz0 hz1 hz2 rfl (by decide) _ 0 [] rfl (World.ownsRow_nil _ _ _ _) A1 p c1 (hdc (F.take p)) rfl HL1.out (HD1.out _ (Below.refl _ _)) (hdc_one _) (by simp only [maxLen]; omega) (by omega) (Nat.le_refl _) ?_; intro v3 w3 ho3 hg3 _
       simp only [Nat.zero_add, List.nil_append] at ho3
       have HB3 := Lib.hid ((Below.refl w2.heap.size w2).grown hg3 (Nat.le_refl _) (fun r e => by cases e))
       have HO3 := Lib.hid (ho3.alloc (.cells #[.string s, .int .i64 t] 52))
       have HBA3 := Lib.hid (HB3.out.alloc HB3.out.size (.cells #[.string s, .int .i64 t] 52))
       have HRD := Lib.hid (rd_lit w3 #[.string s, .int .i64 t] 52 1 (by decide))
       have hs3 := HB3.out.size
       clear ho3 hg3)
    | (at_builtin; refine wpList_append_rd _ rfl (.tmp 31) (.tmp 35) 48 rfl w2.heap.size 52 i0 _ 2 24 Try.underlying48 hi0 hz0 hz1 hz2 rfl (by decide) _ p _ rfl HO3.out _ 1 1 [.string s, .int .i64 t] rfl rfl HRD.out (by simp [Value.oneCell']) (by simp only [maxLen]; omega) (by omega) (by simp; omega) ?_; intro v4 w4 ho4 hg4 _
       have HB4 := Lib.hid (HBA3.out.grown hg4 (by simp; omega) (fun r e => (HO3.out.lt r e).1))
       obtain ⟨a4, k4, rfl, _, _⟩ := ownsRow_shape ho4
       have HO4 := Lib.hid ho4
       have y1 : w4.cell? ⟨c, 1, none⟩ = some (.slice A m cap) := (HB4.out.cell (p := ⟨c, 1, none⟩) HHH.out.bk.lt).trans x1
       clear ho4 hg4)
    | (at_builtin; refine wpList_append_rd _ rfl (.tmp 38) (.tmp 44) 48 rfl w2.heap.size 52 i0 _ 2 24 Try.underlying48 hi0 hz0 hz1 hz2 rfl (by decide) _ (p + 1) _ rfl HO4.out A2 r c2 (hdc (F.drop p)) rfl HL2.out (HD2.out _ HB4.out) (hdc_one _) (by simp only [maxLen]; omega) (by omega) HB4.out.size ?_; intro v5 w5 ho5 hg5 _
       have HB5 := Lib.hid (HB4.out.grown hg5 HB4.out.size (fun r e => (HO4.out.lt r e).1))
       obtain ⟨a5, k5, rfl, _, _⟩ := ownsRow_shape ho5
       have HO5 := Lib.hid ho5
       have HK5 := Lib.hid (HHH.out.bk.below HB5.out)
       have y1 := HK5.out.cell 1
       have f1 := HK5.out.frozen 1
       clear ho5 hg5))
  go_ret
  have hs0 := HO5.out
  rw [HRC.out] at hs0
  have hs := own_set hs0 HK5.out (by decide) 1 (Value.slice a5 (p + 1 + r) k5)
  have hl := own_set (own_below HHH.out.lr HB5.out) HK5.out (by decide) 1 (Value.slice a5 (p + 1 + r) k5)
  have h25 := HB5.out.size
  have h12 := HB2.out.size
  have h01 := HO1.out.size
  have hxc : X c ∨ w.heap.size ≤ c := HHH.out.xc.imp id (fun h => h.1)
  have hsz : (w5.setCell ⟨c, 1, none⟩ (Value.slice a5 (p + 1 + r) k5)).heap.size = w5.heap.size := by simp
  have hup : ∀ k, Xt X w w1 k → Xt X w (w5.setCell ⟨c, 1, none⟩ (Value.slice a5 (p + 1 + r) k5)) k := fun k hk => hk.imp id fun h => ⟨h.1, by rw [hsz]; omega⟩
  refine ⟨rfl, ⟨lv, _, HK5.out.set 1 _, hup _ HHH.out.xc, hl, fun r e => hup _ (HHH.out.xm r e), ?_, ?_, HHH.out.ln, HHH.out.lm, fun k hk => ?_⟩, ?_⟩
  · rw [HLR.out]; exact own_mono hs (Nat.zero_le _)
  · intro r e
    have := HO5.out.lt r e
    exact .inr ⟨by omega, by rw [hsz]; exact this.2⟩
  · rcases hk with hk | hk
    · have := HXL.out k hk; rw [hsz]; omega
    · exact hk.2
  · have h1 : Only X w w5 := (HO1.out.trans (Only.of_below HB2.out) (fun _ h => .inl h)).trans (Only.of_below HB5.out) (fun _ h => .inl h)
    exact h1.trans (Only.set (X := fun k => X k ∨ w.heap.size ≤ k) ⟨c, 1, none⟩ _ hxc w5) (fun _ h => h)
theorem rHold_c (h : Rc w X c L H) (s : ByteArray) (t : Int) (hH : H.length ≤ 4398046511103) : Calls Try.prog 18 #[.pointer (some ⟨c, 0, none⟩), .string s, .int .i64 t] w fun e w' => e = .returned (.int .i64 (if isTime t = true then 0 else 2)) ∧ Rc w' (Xt X w w') c L (holdH H s t) ∧ Only X w w' := by
  unfold holdH
  rcases hb : isTime t with _ | _
  · rw [if_neg (by simp), if_neg (by simp)]
    refine (rHold_no h s t hb).mono ?_
    rintro e w' ⟨he, rfl⟩
    exact ⟨he, h.wide (fun k hk => .inl hk) (fun k hk => by rcases hk with hk | hk; exact h.xl k hk; exact hk.2), Only.refl _ _⟩
  · rw [if_pos rfl, if_pos rfl]
    exact rHold_yes h s t hH hb
theorem Rc.copied {w w2 : World} {lv hv : Value} {L : List Int} {H : List Hd} (hb : Below w.heap.size w w2) (h1 : w2.ownsRow w.heap.size 2 1 lv L.length (ic L)) (h2 : w2.ownsRow w.heap.size 52 2 hv H.length (hdc H)) (h0 : 0 < L.length) (hm : L.length ≤ 64) :
    Rc (w2.alloc (.cells #[lv, hv] 50)) (Nw w (w2.alloc (.cells #[lv, hv] 50))) w2.heap.size L H ∧ Below w.heap.size w (w2.alloc (.cells #[lv, hv] 50)) := by
  have hs := hb.size
  have ha := below_alloc w2 (.cells #[lv, hv] 50)
  refine ⟨⟨lv, hv, Bk.new _ _ _, ⟨hs, by simp⟩, own_mono (own_below h1 ha) (Nat.zero_le _), fun r e => ?_, own_mono (own_below h2 ha) (Nat.zero_le _), fun r e => ?_, h0, hm, fun k hk => hk.2⟩, hb.trans (ha.mono hs)⟩
  · have := h1.lt r e; exact ⟨this.1, by simp; omega⟩
  · have := h2.lt r e; exact ⟨this.1, by simp; omega⟩
set_option maxRecDepth 100000 in
set_option maxHeartbeats 2000000 in
theorem rCopy_any (h : Rc w X c L H) (hH : H.length ≤ 4398046511104) : Calls Try.prog 19 #[.pointer (some ⟨c, 0, none⟩)] w fun e w' => ∃ d, e = .returned (.pointer (some ⟨d, 0, none⟩)) ∧ Rc w' (Nw w w') d L H ∧ Below w.heap.size w w' := by
  obtain ⟨lv, hv, hh⟩ := h
  obtain ⟨iI, hiI, hI0, hI1, hI2⟩ := info_parts i64Info
  obtain ⟨i0, hi0, hz0, hz1, hz2⟩ := info_parts hdInfo
  obtain ⟨A, cap, rfl, _, _⟩ := ownsRow_shape hh.lr
  obtain ⟨B, cap2, rfl, _, _⟩ := ownsRow_shape hh.hr
  have HRA : Hid (∀ W, Below w.heap.size w W → Rd W (.slice A L.length cap) L.length (ic L)) := fun W hW => (Rd.of_owns hh.lr).below hW
  have HRB : Hid (∀ W, Below w.heap.size w W → Rd W (.slice B H.length cap2) H.length (hdc H)) := fun W hW => (Rd.of_owns hh.hr).below hW
  have HLA : Hid ((ic L).length = L.length * 1) := by show _ = _; rw [ic_length, Nat.mul_one]
  have HLB : Hid ((hdc H).length = H.length * 2) := hdc_length H
  have HX : Hid (∀ W, Below w.heap.size w W → W.cell? ⟨c, 0, none⟩ = some (.slice A L.length cap) ∧ W.cell? ⟨c, 1, none⟩ = some (.slice B H.length cap2)) := fun W hW => ⟨(hh.bk.below hW).cell 0, (hh.bk.below hW).cell 1⟩
  obtain ⟨x0, x1⟩ := HX.out w (Below.refl _ _)
  have hl0 := hh.ln
  have hlm := hh.lm
  clear hh
  obtain ⟨m, hm⟩ : ∃ m, H.length = m := ⟨_, rfl⟩
  obtain ⟨n, hn⟩ : ∃ n, L.length = n := ⟨_, rfl⟩
  have HM := Lib.hid hm
  have HN := Lib.hid hn
  rw [hm] at hH x1 HLB HRB HX
  rw [hn] at x0 HLA HRA hl0 hlm HX
  clear hm hn
  go_enter Try.func19, Try.ntmps19
  go_wp2
  have HC := Lib.hid (below_drew w)
  go_region_law (first
    | (refine step_append_rd (by rfl) (.const (.slice none 0 0)) (.tmp 8) 32 (by rfl) w.heap.size 2 iI _ 1 8 Try.underlying32 hiI hI0 hI1 hI2 rfl (by decide) _ 0 [] (by rfl) (World.ownsRow_nil _ _ _ _) A n cap (ic L) (by rfl) HLA.out (HRA.out _ HC.out) (ic_one _) (by simp only [maxLen]; omega) (by omega) HC.out.size ?_; intro v2 w2 ho2 hg2
       simp only [Nat.zero_add, List.nil_append] at ho2
       have hb2 := hg2.below (Nat.le_refl _) (fun g e => by cases e)
       obtain ⟨a2, k2, rfl, _, _⟩ := ownsRow_shape ho2
       have HOA := Lib.hid ho2
       try (replace HOB := Lib.hid (own_below HOB.out hb2))
       replace HC := Lib.hid (HC.out.trans (hb2.mono HC.out.size))
       obtain ⟨z0, z1⟩ := HX.out _ HC.out
       clear ho2 hg2 hb2)
    | (refine step_append_rd (by rfl) (.const (.slice none 0 0)) (.tmp 13) 48 (by rfl) w.heap.size 52 i0 _ 2 24 Try.underlying48 hi0 hz0 hz1 hz2 rfl (by decide) _ 0 [] (by rfl) (World.ownsRow_nil _ _ _ _) B m cap2 (hdc H) (by rfl) HLB.out (HRB.out _ HC.out) (hdc_one _) (by simp only [maxLen]; omega) (by omega) HC.out.size ?_; intro v2 w2 ho2 hg2
       simp only [Nat.zero_add, List.nil_append] at ho2
       have hb2 := hg2.below (Nat.le_refl _) (fun g e => by cases e)
       obtain ⟨a3, k3, rfl, _, _⟩ := ownsRow_shape ho2
       have HOB := Lib.hid ho2
       try (replace HOA := Lib.hid (own_below HOA.out hb2))
       replace HC := Lib.hid (HC.out.trans (hb2.mono HC.out.size))
       obtain ⟨z0, z1⟩ := HX.out _ HC.out
       clear ho2 hg2 hb2))
  all_goals go_wp2
  all_goals go_ret
  all_goals
    have h1 := HOA.out
    have h2 := HOB.out
    obtain ⟨k1, k2⟩ := Rc.copied (L := L) (H := H) HC.out (by rw [HN.out]; exact h1) (by rw [HM.out]; exact h2) (by rw [HN.out]; exact hl0) (by rw [HN.out]; exact hlm)
    exact ⟨_, rfl, k1, k2⟩
set_option maxRecDepth 100000 in
theorem rOf_bad (A : Option Addr) (m cap : Nat) (L : List Int) (w : World) (hr : Rd w (.slice A m cap) m (ic L)) (hL : L.length = m) (hno : ¬ okL L) :
    Calls Try.prog 26 #[.slice A m cap] w fun e w' => e = .returned (.tuple #[.pointer none, .int .i64 2]) ∧ Below w.heap.size w w' := by
  obtain ⟨_, _, hv, hcap, hmx, hx⟩ := hr
  cases hv
  unfold maxLen at hmx
  by_cases h1 : m < 1
  · have d1 : decide ((m : Int) < 1) = true := by simp; omega
    have d1' : decide (m < 1) = true := by simpa using h1
    clear hx hL hno h1
    go_enter Try.func26, Try.ntmps26
    go_wp2
    go_ret2
    exact ⟨rfl, Below.refl _ _⟩
  · have d1 : decide ((m : Int) < 1) = false := by simp; omega
    have d1' : decide (m < 1) = false := by simpa using h1
    by_cases h2 : 64 < m
    · have d2 : decide ((64 : Int) < (m : Int)) = true := by simp; omega
      have d2' : decide (64 < m) = true := by simpa using h2
      clear hx hL hno h1 h2
      go_enter Try.func26, Try.ntmps26
      go_wp2
      go_ret2
      exact ⟨rfl, Below.refl _ _⟩
    · have d2 : decide ((64 : Int) < (m : Int)) = false := by simp; omega
      have d2' : decide (64 < m) = false := by simpa using h2
      have hall : allT L = false := by
        rcases hb : allT L with _ | _
        · rfl
        · exact absurd ⟨by omega, by omega, hb⟩ hno
      obtain ⟨g, off, rfl, hg, hc⟩ := hx (by omega)
      have HC : Hid (∀ k x, L[k]? = some x → w.cell? ⟨g, off + k, none⟩ = some (.int .i64 x)) := fun k x hk => hc k _ (ic_at hk)
      have HG : Hid (∀ k, k < m → ∃ x, L[k]? = some x) := fun k hk => ⟨_, List.getElem?_eq_getElem (by omega)⟩
      have HALL := Lib.hid hall
      have HLM := Lib.hid hL
      clear hx hL hno hall h1 h2 hc
      go_enter Try.func26, Try.ntmps26
      go_wp2
      go_loop [4] (fun iv => ∃ k : Nat, iv = .int .i64 k ∧ k ≤ m ∧ allT (L.take k) = true) (fun iv => m - (intOf iv).toNat)
      case atStart => exact ⟨0, rfl, Nat.zero_le _, rfl⟩
      case round =>
        obtain ⟨k, rfl, hk, ha⟩ := hrel
        have HA := Lib.hid ha
        clear ha
        by_cases hkm : k < m
        · obtain ⟨x, hx⟩ := HG.out k hkm
          have zk := HC.out k x hx
          have HX := Lib.hid hx
          have HT := Lib.hid (rtime_any x w)
          clear hx
          rcases hb : isTime x with _ | _
          · rw [hb] at HT
            clear hb
            go_wp2_with (first
              | (go_at_call 41; (with_reducible refine HT.out.mono ?_); rintro e wn ⟨rfl, rfl⟩))
            go_ret2
            exact ⟨rfl, Below.refl _ _⟩
          · rw [hb] at HT
            have HB := Lib.hid hb
            clear hb
            go_wp2_with (first
              | (go_at_call 41; (with_reducible refine HT.out.mono ?_); rintro e wn ⟨rfl, rfl⟩))
            go_round
            case rel => exact ⟨k + 1, by go_num, by omega, allT_step HX.out HA.out HB.out⟩
            case measure => simp [intOf]; omega
        · exfalso
          obtain rfl : k = m := by omega
          have h := HA.out
          rw [List.take_of_length_le (by rw [HLM.out]; exact Nat.le_refl _), HALL.out] at h
          cases h
set_option maxRecDepth 100000 in
theorem rOf_ok (A : Option Addr) (m cap : Nat) (L : List Int) (w : World) (hr : Rd w (.slice A m cap) m (ic L)) (hL : L.length = m) (hok : okL L) :
    Calls Try.prog 26 #[.slice A m cap] w fun e w' => ∃ c, e = .returned (.tuple #[.pointer (some ⟨c, 0, none⟩), .int .i64 0]) ∧ Rc w' (Nw w w') c L [] ∧ Below w.heap.size w w' := by
  obtain ⟨iI, hiI, hI0, hI1, hI2⟩ := info_parts i64Info
  obtain ⟨h0, h64, hall⟩ := hok
  have HRD := Lib.hid hr
  obtain ⟨_, _, hv, hcap, hmx, hx⟩ := hr
  cases hv
  unfold maxLen at hmx
  have d1 : decide ((m : Int) < 1) = false := by simp; omega
  have d1' : decide (m < 1) = false := by simp; omega
  have d2 : decide ((64 : Int) < (m : Int)) = false := by simp; omega
  have d2' : decide (64 < m) = false := by simp; omega
  obtain ⟨g, off, rfl, hg, hc⟩ := hx (by omega)
  have HC : Hid (∀ k x, L[k]? = some x → w.cell? ⟨g, off + k, none⟩ = some (.int .i64 x)) := fun k x hk => hc k _ (ic_at hk)
  have HG : Hid (∀ k, k < m → ∃ x, L[k]? = some x ∧ isTime x = true) := fun k hk => ⟨_, List.getElem?_eq_getElem (by omega), by
    unfold allT at hall
    rw [List.all_eq_true] at hall
    exact hall _ (List.getElem_mem _)⟩
  have HLM := Lib.hid hL
  have HLL : Hid ((ic L).length = m * 1) := by show _ = _; rw [ic_length, hL, Nat.mul_one]
  have hm64 : m ≤ 64 := by omega
  have H0 := Lib.hid h0
  have H64 := Lib.hid h64
  clear hx hL hall hc h0 h64
  go_enter Try.func26, Try.ntmps26
  go_wp2
  go_loop [4] (fun iv => ∃ k : Nat, iv = .int .i64 k ∧ k ≤ m) (fun iv => m - (intOf iv).toNat)
  case atStart => exact ⟨0, rfl, Nat.zero_le _⟩
  case round =>
    obtain ⟨k, rfl, hk⟩ := hrel
    by_cases hkm : k < m
    · obtain ⟨x, hx, hb⟩ := HG.out k hkm
      have zk := HC.out k x hx
      have ht := rtime_any x w
      rw [hb] at ht
      have HT := Lib.hid ht
      clear hx hb ht
      go_wp2_with (first
        | (go_at_call 41; (with_reducible refine HT.out.mono ?_); rintro e wn ⟨rfl, rfl⟩))
      go_round
      case rel => exact ⟨k + 1, by go_num, by omega⟩
      case measure => simp [intOf]; omega
    · obtain rfl : k = m := by omega
      go_wp2_with (first
        | (at_builtin; refine wpList_append_rd _ rfl (.const (.slice none 0 0)) (.tmp 25) 32 rfl w.heap.size 2 iI _ 1 8 Try.underlying32 hiI hI0 hI1 hI2 rfl (by decide) _ 0 [] rfl (World.ownsRow_nil _ _ _ _) _ k cap (ic L) rfl HLL.out HRD.out (ic_one _) (by simp only [maxLen]; omega) (by omega) (Nat.le_refl _) ?_; intro v3 w3 ho3 hg3 _
           simp only [Nat.zero_add, List.nil_append] at ho3
           have HB3 := Lib.hid ((Below.refl w.heap.size w).grown hg3 (Nat.le_refl _) (fun r e => by cases e))
           obtain ⟨a3, k3, rfl, _, _⟩ := ownsRow_shape ho3
           have HO3 := Lib.hid ho3
           clear ho3 hg3))
      go_ret2
      have h1 := HO3.out
      obtain ⟨k1, k2⟩ := Rc.copied (L := L) (H := []) HB3.out (by rw [HLM.out]; exact h1) (World.ownsRow_nil _ _ _ _) H0.out H64.out
      exact ⟨_, rfl, k1, k2⟩
end
end Go.Proofs.Ytdndljbagjfkkaa
