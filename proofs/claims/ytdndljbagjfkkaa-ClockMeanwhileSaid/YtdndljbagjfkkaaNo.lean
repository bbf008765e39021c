/- Clocks that are not there. -/
import Derived.Test.YtdndljbagjfkkaaGoWk
import Derived.Test.YtdndljbagjfkkaaRc3
namespace Go.Proofs.Ytdndljbagjfkkaa
open Go.RowKit Go.Shelf Go.Lib
attribute [local go_sem] Oper.semAt_some wide_fn wide_depth wide_fn_in wide_depth_in
/-- No clock: a nil pointer, or a clock without a map of names. -/
def NoC (w : World) (p : Option Addr) : Prop := p = none ∨ ∃ c, p = some ⟨c, 0, none⟩ ∧ w.cell? ⟨c, 2, none⟩ = some (.map none)
theorem NoC.below {w w' : World} {p : Option Addr} (h : NoC w p) (hb : Below w.heap.size w w') : NoC w' p := by
  rcases h with h | ⟨c, h, h2⟩
  · exact .inl h
  · exact .inr ⟨c, h, (hb.cell (p := ⟨c, 2, none⟩) (Clock.block_lt h2)).trans h2⟩
section
variable {w : World} {p : Option Addr}
set_option maxRecDepth 100000 in
theorem there_no (h : NoC w p) : Calls Try.prog 34 #[.pointer p] w fun e w' => e = .returned (.bool false) ∧ w = w' := by
  have q : ∀ (w : World) (r : Option Nat), (binOp .neq 68 (.map r) (.map none)).run Try.prog w = .ok (.bool (!r.isNone)) w := fun w r => run_neq_map_nil w _ _ _ r Try.underlying68
  rcases h with rfl | ⟨c, rfl, h2⟩
  · go_enter Try.func34, Try.ntmps34
    go_wp2
    go_ret
    exact ⟨rfl, rfl⟩
  · go_enter Try.func34, Try.ntmps34
    go_wp2
    go_ret
    exact ⟨rfl, rfl⟩
theorem Mark_no (h : NoC w p) : Calls Try.prog 10 #[.pointer p] w fun e w' => e = .returned (.int .i64 0) ∧ w = w' := by
  have HT := Lib.hid (there_no h)
  clear h
  go_enter Try.func10, Try.ntmps10
  go_wp2_with (first
    | (go_at_call 34; (with_reducible refine HT.out.mono ?_); rintro e wn ⟨rfl, rfl⟩))
  go_ret
  exact ⟨rfl, rfl⟩
theorem Marks_no (h : NoC w p) : Calls Try.prog 12 #[.pointer p] w fun e w' => e = .returned (.slice none 0 0) ∧ w = w' := by
  have HT := Lib.hid (there_no h)
  clear h
  go_enter Try.func12, Try.ntmps12
  go_wp2_with (first
    | (go_at_call 34; (with_reducible refine HT.out.mono ?_); rintro e wn ⟨rfl, rfl⟩))
  go_ret
  exact ⟨rfl, rfl⟩
theorem Set_noc (h : NoC w p) (s x : Int) : Calls Try.prog 13 #[.pointer p, .int .i64 s, .int .i64 x] w fun e w' => e = .returned (.tuple #[.int .i64 0, .int .i64 0, .int .i64 1]) ∧ w = w' := by
  have HT := Lib.hid (there_no h)
  clear h
  go_enter Try.func13, Try.ntmps13
  go_wp2_with (first
    | (go_at_call 34; (with_reducible refine HT.out.mono ?_); rintro e wn ⟨rfl, rfl⟩))
  go_ret3
  exact ⟨rfl, rfl⟩
theorem Hold_noc (h : NoC w p) (s : ByteArray) (x : Int) : Calls Try.prog 15 #[.pointer p, .string s, .int .i64 x] w fun e w' => e = .returned (.int .i64 1) ∧ w = w' := by
  have HT := Lib.hid (there_no h)
  clear h
  go_enter Try.func15, Try.ntmps15
  go_wp2_with (first
    | (go_at_call 34; (with_reducible refine HT.out.mono ?_); rintro e wn ⟨rfl, rfl⟩))
  go_ret
  exact ⟨rfl, rfl⟩
theorem Free_noc (h : NoC w p) (s : ByteArray) : Calls Try.prog 14 #[.pointer p, .string s] w fun e w' => e = .returned (.bool false) ∧ w = w' := by
  have HT := Lib.hid (there_no h)
  clear h
  go_enter Try.func14, Try.ntmps14
  go_wp2_with (first
    | (go_at_call 34; (with_reducible refine HT.out.mono ?_); rintro e wn ⟨rfl, rfl⟩))
  go_ret
  exact ⟨rfl, rfl⟩
theorem First_no (h : NoC w p) : Calls Try.prog 31 #[.pointer p] w fun e w' => e = .returned (.tuple #[.string ⟨#[]⟩, .int .i64 0, .bool false]) ∧ w = w' := by
  have HT := Lib.hid (there_no h)
  clear h
  go_enter Try.func31, Try.ntmps31
  go_wp2_with (first
    | (go_at_call 34; (with_reducible refine HT.out.mono ?_); rintro e wn ⟨rfl, rfl⟩))
  go_ret3
  exact ⟨rfl, rfl⟩
theorem Len_no (h : NoC w p) : Calls Try.prog 32 #[.pointer p] w fun e w' => e = .returned (.int .i64 0) ∧ w = w' := by
  have HT := Lib.hid (there_no h)
  clear h
  go_enter Try.func32, Try.ntmps32
  go_wp2_with (first
    | (go_at_call 34; (with_reducible refine HT.out.mono ?_); rintro e wn ⟨rfl, rfl⟩))
  go_ret
  exact ⟨rfl, rfl⟩
theorem Outward_no (h : NoC w p) : Calls Try.prog 11 #[.pointer p] w fun e w' => e = .returned (.int .i64 0) ∧ w = w' := by
  have HT := Lib.hid (there_no h)
  have HF := Lib.hid (First_no h)
  have HM := Lib.hid (Mark_no h)
  clear h
  go_enter Try.func11, Try.ntmps11
  go_wp2_with (first
    | (go_at_call 34; (with_reducible refine HT.out.mono ?_); rintro e wn ⟨rfl, rfl⟩)
    | (go_at_call 31; (with_reducible refine HF.out.mono ?_); rintro e wn ⟨rfl, rfl⟩)
    | (go_at_call 10; (with_reducible refine HM.out.mono ?_); rintro e wn ⟨rfl, rfl⟩))
  go_ret
  exact ⟨rfl, rfl⟩
theorem Copy_no (h : NoC w p) : Calls Try.prog 29 #[.pointer p] w fun e w' => e = .returned (.pointer none) ∧ w = w' := by
  have HT := Lib.hid (there_no h)
  clear h
  go_enter Try.func29, Try.ntmps29
  go_wp2_with (first
    | (go_at_call 34; (with_reducible refine HT.out.mono ?_); rintro e wn ⟨rfl, rfl⟩))
  go_ret
  exact ⟨rfl, rfl⟩
end
theorem rMark_no (w : World) : Calls Try.prog 49 #[.pointer none] w fun e w' => e = .returned (.int .i64 0) ∧ w = w' := by
  go_enter Try.func49, Try.ntmps49
  go_wp2
  go_ret
  exact ⟨rfl, rfl⟩
theorem rMarks_no (w : World) : Calls Try.prog 52 #[.pointer none] w fun e w' => e = .returned (.slice none 0 0) ∧ w = w' := by
  go_enter Try.func52, Try.ntmps52
  go_wp2
  go_ret
  exact ⟨rfl, rfl⟩
theorem rSet_noc (w : World) (s x : Int) : Calls Try.prog 47 #[.pointer none, .int .i64 s, .int .i64 x] w fun e w' => e = .returned (.tuple #[.int .i64 0, .int .i64 0, .int .i64 1]) ∧ w = w' := by
  go_enter Try.func47, Try.ntmps47
  go_wp2
  go_ret3
  exact ⟨rfl, rfl⟩
theorem rHold_noc (w : World) (s : ByteArray) (x : Int) : Calls Try.prog 18 #[.pointer none, .string s, .int .i64 x] w fun e w' => e = .returned (.int .i64 1) ∧ w = w' := by
  go_enter Try.func18, Try.ntmps18
  go_wp2
  go_ret
  exact ⟨rfl, rfl⟩
theorem rFree_noc (w : World) (s : ByteArray) : Calls Try.prog 42 #[.pointer none, .string s] w fun e w' => e = .returned (.bool false) ∧ w = w' := by
  go_enter Try.func42, Try.ntmps42
  go_wp2
  go_ret
  exact ⟨rfl, rfl⟩
theorem rFirst_no (w : World) : Calls Try.prog 48 #[.pointer none] w fun e w' => e = .returned (.tuple #[.string ⟨#[]⟩, .int .i64 0, .bool false]) ∧ w = w' := by
  go_enter Try.func48, Try.ntmps48
  go_wp2
  go_ret3
  exact ⟨rfl, rfl⟩
theorem rLen_no (w : World) : Calls Try.prog 50 #[.pointer none] w fun e w' => e = .returned (.int .i64 0) ∧ w = w' := by
  go_enter Try.func50, Try.ntmps50
  go_wp2
  go_ret
  exact ⟨rfl, rfl⟩
theorem rOut_no (w : World) : Calls Try.prog 51 #[.pointer none] w fun e w' => e = .returned (.int .i64 0) ∧ w = w' := by
  go_enter Try.func51, Try.ntmps51
  go_wp2_with (first
    | (go_at_call 48; (with_reducible refine (rFirst_no _).mono ?_); rintro e wn ⟨rfl, rfl⟩)
    | (go_at_call 49; (with_reducible refine (rMark_no _).mono ?_); rintro e wn ⟨rfl, rfl⟩))
  go_ret
  exact ⟨rfl, rfl⟩
theorem rCopy_no (w : World) : Calls Try.prog 19 #[.pointer none] w fun e w' => e = .returned (.pointer none) ∧ w = w' := by
  go_enter Try.func19, Try.ntmps19
  go_wp2
  go_ret
  exact ⟨rfl, rfl⟩
set_option maxRecDepth 100000 in
theorem holds_no (n n0 : Nat) {w : World} {p : Option Addr} (h : NoC w p) {H : List Hd} (hH : H.length = 0) (W0 : World) (hW0 : Below w.heap.size w W0) (B : Nat) (hB : W0.cell? ⟨B, 0, none⟩ = some (.pointer p)) :
    SeqStopsK Fence.wide n Try.prog 44 #[.pointer (some ⟨B, 0, none⟩)] (hEnc H) (KpH n0) (fun xs => xs.map Subtype.val = H) (fun pre => pre.map Subtype.val <+: H) H.length W0 := by
  intro l J Jx W hW _ _ _ h0
  have hBl : B < W0.heap.size := Clock.block_lt hB
  have c1 : W.cell? ⟨B, 0, none⟩ = some (.pointer p) := (hW.cell (p := ⟨B, 0, none⟩) hBl).trans hB
  have HT := Lib.hid (there_no ((h.below hW0).below hW))
  have HR : Hid ((∃ xs : List {h : Hd // h ∈ H}, xs.map Subtype.val = H ∧ J xs W) ∨ ∃ pre : List {h : Hd // h ∈ H}, pre.map Subtype.val <+: H ∧ Jx pre W) := .inl ⟨[], (List.length_eq_zero_iff.1 hH).symm, h0⟩
  clear h hW0 hB hBl hW h0
  refine callsIn_of_wp Try.func44 rfl trivial ?_ rfl
  simp only [Try.ntmps44, List.size_toArray, List.length_cons, List.length_nil, Nat.reduceAdd, Nat.reduceSub, Array.replicate_succ, Array.replicate_zero, List.push_toArray, List.append_toArray, List.nil_append, List.cons_append]
  gi_wp2_with (first
    | (gi_at_call 34; refine (callsIn_wide.2 HT.out).mono ?_; rintro e wn ⟨rfl, rfl⟩))
  refine bodyPost_ret (results_none rfl _ _ _) rfl ?_
  exact ⟨⟨_, rfl⟩, HR.out⟩
/-- The iterator over a clock's holds, for the loops over it. -/
theorem holds_stops (n n0 : Nat) {w : World} {X : Nat → Prop} {c : Nat} {L : List Int} {nn : Nat} {T : ByteArray → Option Int} {H : List Hd} (hC : Ck w X c L nn T) (ht : HT H T) (hn : nn ≤ 4398046511104) (hsz : ∀ x ∈ H, x.name.size ≤ maxLen)
    (W0 : World) (hW0 : Below w.heap.size w W0) (h0 : n0 ≤ W0.heap.size) (B : Nat) (hB : W0.cell? ⟨B, 0, none⟩ = some (.pointer (some ⟨c, 0, none⟩))) :
    SeqStopsK Fence.wide n Try.prog 44 #[.pointer (some ⟨B, 0, none⟩)] (hEnc H) (KpH n0) (fun xs => xs.map Subtype.val = H) (fun pre => pre.map Subtype.val <+: H) H.length W0 :=
  fun l J Jx W hW hJ _ hY hJ0 => holds_in n l B c X L nn T H n0 J Jx W ((hC.below hW0).below hW) ht hn hsz (Nat.le_trans h0 hW.size) hJ hY ((hW.cell (p := ⟨B, 0, none⟩) (Clock.block_lt hB)).trans hB) hJ0
/-- goes: nothing goes, of a clock that is not there. -/
theorem goes_no {w : World} {p : Option Addr} (h : NoC w p) (lv : Int) : Calls Try.prog 23 #[.pointer p, .pointer none, .int .i64 lv] w fun e w' => e = .returned (.bool true) ∧ Below w.heap.size w w' :=
  goes_nil p [] lv w (fun W hW B7 hB => holds_no 9 _ h rfl W hW B7 hB) rfl (fun k x hx => by simp at hx) (by decide)
/-- goes: all holds, of a clock and the document's. -/
theorem goes_yes {w : World} {X Y : Nat → Prop} {c d : Nat} {L M : List Int} {nn : Nat} {T : ByteArray → Option Int} {H : List Hd} (hC : Ck w X c L nn T) (hR : Rc w Y d M H) (ht : HT H T) (hn : nn ≤ 4398046511104) (hsz : ∀ x ∈ H, x.name.size ≤ maxLen) (lv : Int) :
    Calls Try.prog 23 #[.pointer (some ⟨c, 0, none⟩), .pointer (some ⟨d, 0, none⟩), .int .i64 lv] w fun e w' => e = .returned (.bool true) ∧ Below w.heap.size w w' := by
  obtain ⟨nb, D, _, _, _, _, hHn, _⟩ := hC.table ht
  obtain ⟨A, cap, c1, _, hx, _⟩ := hR.holds
  refine goes_some (some ⟨c, 0, none⟩) H lv H.length d cap A w c1 (fun W hW B7 hB => holds_stops 9 _ hC ht hn hsz W hW (Nat.le_refl _) B7 hB) rfl (fun k x hk => ?_) (by omega)
  obtain ⟨g, rfl, hc⟩ := hx (by have := (List.getElem?_eq_some_iff.1 hk).1; omega)
  exact ⟨g, rfl, Clock.block_lt (hc k x hk).1, (hc k x hk).1, (hc k x hk).2⟩
end Go.Proofs.Ytdndljbagjfkkaa
