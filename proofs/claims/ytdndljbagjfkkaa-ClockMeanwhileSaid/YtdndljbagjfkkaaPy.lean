/- plays: a step on a clock and the document's. -/
import Derived.Test.YtdndljbagjfkkaaTe
import Derived.Test.YtdndljbagjfkkaaTl1
namespace Go.Proofs.Ytdndljbagjfkkaa
open Go.RowKit Go.Lib
/-- Both clocks, some calls on. -/
def St (w0 : World) (X : Nat → Prop) (W : World) (c d nb : Nat) (Lc : List Int) (T : ByteArray → Option Int) (Lr : List Int) (H : List Hd) (B : Nat) : Prop :=
  PrG W (Xt X w0 W) c d nb Lc T Lr H B ∧ Only X w0 W ∧ ∀ k, X k → k < w0.heap.size
section
variable {w0 W : World} {X : Nat → Prop} {c d nb : Nat} {Lc Lr : List Int} {T : ByteArray → Option Int} {H : List Hd} {B : Nat}
theorem St.start (h : PrG w0 X c d nb Lc T Lr H B) : St w0 X w0 c d nb Lc T Lr H B := ⟨h.wide (fun _ h => .inl h) (xt_lt h.xl (Nat.le_refl _)), Only.refl _ _, h.xl⟩
theorem St.next {w' : World} (h : St w0 X W c d nb Lc T Lr H B) {Lc' Lr' : List Int} {T' : ByteArray → Option Int} {H' : List Hd} {B' : Nat} (hp : PrG w' (Xt (Xt X w0 W) W w') c d nb Lc' T' Lr' H' B') (ho : Only (Xt X w0 W) W w') : St w0 X w' c d nb Lc' T' Lr' H' B' := by
  obtain ⟨h1, h2⟩ := PrG.join h.2.1 hp ho
  exact ⟨h1, h2, h.2.2⟩
theorem St.drew (h : St w0 X W c d nb Lc T Lr H B) : St w0 X W.drew c d nb Lc T Lr H B := h.next ((h.1.below (below_drew W)).wide (fun _ h => .inl h) (xt_lt h.1.xl (by exact Nat.le_refl _))) (Only.of_below (below_drew W))
theorem St.bk (h : St w0 X W c d nb Lc T Lr H B) {g : Nat} {t : TypeId} {cs : Array Value} (hb : Bk w0 g t cs) (hg : ¬ X g) : Bk W g t cs := hb.only h.2.1 hg
theorem St.holdC (h : St w0 X W c d nb Lc T Lr H B) (s : ByteArray) (t : Int) (hs : s.size ≤ maxLen) (hB : B ≤ 4398046511103) : Calls Try.prog 15 #[.pointer (some ⟨c, 0, none⟩), .string s, .int .i64 t] W fun e w' => e = .returned (.int .i64 (if isTime t = true then 0 else 2)) ∧ St w0 X w' c d nb Lc (holdT T s t) Lr H (B + 1) :=
  (h.1.holdC s t hs hB).mono fun _ _ ⟨he, hp, ho⟩ => ⟨he, h.next hp ho⟩
theorem St.holdR (h : St w0 X W c d nb Lc T Lr H B) (s : ByteArray) (t : Int) (hB : B ≤ 4398046511103) : Calls Try.prog 18 #[.pointer (some ⟨d, 0, none⟩), .string s, .int .i64 t] W fun e w' => e = .returned (.int .i64 (if isTime t = true then 0 else 2)) ∧ St w0 X w' c d nb Lc T Lr (holdH H s t) (B + 1) :=
  (h.1.holdR s t hB).mono fun _ _ ⟨he, hp, ho⟩ => ⟨he, h.next hp ho⟩
theorem St.freeC (h : St w0 X W c d nb Lc T Lr H B) (s : ByteArray) (hs : s.size ≤ maxLen) (hB : B ≤ 4398046511104) : Calls Try.prog 14 #[.pointer (some ⟨c, 0, none⟩), .string s] W fun e w' => e = .returned (.bool (T s).isSome) ∧ St w0 X w' c d nb Lc (updT T s none) Lr H B :=
  (h.1.freeC s hs hB).mono fun _ _ ⟨he, hp, ho⟩ => ⟨he, h.next hp ho⟩
theorem St.freeR (h : St w0 X W c d nb Lc T Lr H B) (s : ByteArray) (hB : B ≤ 4398046511104) : Calls Try.prog 42 #[.pointer (some ⟨d, 0, none⟩), .string s] W fun e w' => e = .returned (.bool (hasN H s)) ∧ St w0 X w' c d nb Lc T Lr (frH H s) B :=
  (h.1.freeR s hB).mono fun _ _ ⟨he, hp, ho⟩ => ⟨he, h.next hp ho⟩
theorem St.setC (h : St w0 X W c d nb Lc T Lr H B) (s t : Int) : Calls Try.prog 13 #[.pointer (some ⟨c, 0, none⟩), .int .i64 s, .int .i64 t] W fun e w' => e = .returned (setR Lc s t) ∧ St w0 X w' c d nb (setL Lc s t) T Lr H B :=
  (h.1.setC s t).mono fun _ _ ⟨he, hp, ho⟩ => ⟨he, h.next hp ho⟩
theorem St.setR_ (h : St w0 X W c d nb Lc T Lr H B) (s t : Int) : Calls Try.prog 47 #[.pointer (some ⟨d, 0, none⟩), .int .i64 s, .int .i64 t] W fun e w' => e = .returned (setR Lr s t) ∧ St w0 X w' c d nb Lc T (setL Lr s t) H B :=
  (h.1.setR_ s t).mono fun _ _ ⟨he, hp, ho⟩ => ⟨he, h.next hp ho⟩
end
/-- What a step makes of the holds. -/
def stH (H : List Hd) (s : Sp) : List Hd := if s.kind = 2 then holdH H s.name s.tm else if s.kind = 3 then frH H s.name else H
theorem setR_tuple (L : List Int) (s t : Int) : ∃ a b e : Int, setR L s t = .tuple #[.int .i64 a, .int .i64 b, .int .i64 e] := by
  unfold setR
  split
  · exact ⟨_, _, _, rfl⟩
  · exact ⟨_, _, _, rfl⟩
/-- Where a step leaves a pair. -/
def PlQ (w : World) (X : Nat → Prop) (c d nb : Nat) (L : List Int) (H : List Hd) (B : Nat) (w' : World) : Prop := PrS w' (Xt X w w') c d nb L H B ∧ Only X w w'
theorem plq_of {w w0 W : World} {X : Nat → Prop} {c d nb : Nat} {L : List Int} {T : ByteArray → Option Int} {H : List Hd} {B B' : Nat} (hb : Below w.heap.size w w0) (h : St w0 X W c d nb L T L H B) (ht : HT H T) (hok : ∀ x ∈ H, x.name.size ≤ maxLen ∧ isTime x.tm = true) (hB : B ≤ B') : PlQ w X c d nb L H B' W := by
  have hs := hb.size
  have hs2 := h.2.1.size
  have up : ∀ k, Xt X w0 W k → Xt X w W k := fun k hk => hk.imp id fun h => ⟨by omega, h.2⟩
  refine ⟨⟨⟨T, ht, (h.1.wide up fun k hk => ?_).more hB⟩, hok⟩, (Only.of_below hb).trans h.2.1 fun k hk => .inl hk⟩
  rcases hk with hk | hk
  · exact h.1.xl k (.inl hk)
  · exact hk.2
set_option maxRecDepth 100000 in
set_option maxHeartbeats 1000000 in
theorem plays_one {w : World} {X : Nat → Prop} {c d nb : Nat} {L : List Int} {H : List Hd} {B : Nat} (h : PrS w X c d nb L H B) (wh to sr lv tm : Int) (nm : ByteArray) (hs : nm.size ≤ maxLen) (_hB : B ≤ 4398046511102) :
    Calls Try.prog 21 #[.pointer (some ⟨c, 0, none⟩), .pointer (some ⟨d, 0, none⟩), .agg #[.int .i64 1, .int .i64 wh, .int .i64 to, .int .i64 sr, .int .i64 lv, .string nm, .int .i64 tm]] w fun e w' => e = .returned (.bool true) ∧ PlQ w X c d nb (setL L sr tm) H (B + 2) w' := by
  obtain ⟨T, ht, hp⟩ := h.ex
  have hok := h.ok
  have hbb := below_alloc w (.cells #[.int .i64 1, .int .i64 wh, .int .i64 to, .int .i64 sr, .int .i64 lv, .string nm, .int .i64 tm] 30)
  have HBB := Lib.hid hbb
  have HST := Lib.hid (St.start (hp.below hbb))
  have HBK := Lib.hid (Bk.new w 30 #[.int .i64 1, .int .i64 wh, .int .i64 to, .int .i64 sr, .int .i64 lv, .string nm, .int .i64 tm])
  have HXN : Hid (¬ X w.heap.size) := fun h => by have := hp.xl _ h; omega
  have HT1 := Lib.hid ht
  have HOK := Lib.hid hok
  have HSN := Lib.hid hs
  have HW0 : Hid (∀ (W : World) (Lc : List Int) (T' : ByteArray → Option Int) (Lr : List Int) (H' : List Hd) (B' : Nat), St (w.alloc (.cells #[.int .i64 1, .int .i64 wh, .int .i64 to, .int .i64 sr, .int .i64 lv, .string nm, .int .i64 tm] 30)) X W c d nb Lc T' Lr H' B' → Bk W w.heap.size 30 #[.int .i64 1, .int .i64 wh, .int .i64 to, .int .i64 sr, .int .i64 lv, .string nm, .int .i64 tm]) := fun W Lc T' Lr H' B' h => h.bk HBK.out HXN.out
  have c0 := HBK.out.cell 0
  obtain ⟨ra, rb, re, hre⟩ := setR_tuple L sr tm
  have h1 := fun W (h : St (w.alloc (.cells #[.int .i64 1, .int .i64 wh, .int .i64 to, .int .i64 sr, .int .i64 lv, .string nm, .int .i64 tm] 30)) X W c d nb L T L H B) => h.setC sr tm
  have h2 := fun W (h : St (w.alloc (.cells #[.int .i64 1, .int .i64 wh, .int .i64 to, .int .i64 sr, .int .i64 lv, .string nm, .int .i64 tm] 30)) X W c d nb (setL L sr tm) T L H B) => h.setR_ sr tm
  rw [hre] at h1 h2
  have H1 := Lib.hid h1
  have H2 := Lib.hid h2
  have c3 := HBK.out.cell 3
  have c6 := HBK.out.cell 6
  clear h1 h2 hre h hp ht hok hbb hs
  go_enter Try.func21, Try.ntmps21
  go_wp2_with (first
    | (go_at_call 13; (with_reducible refine (H1.out _ HST.out).mono ?_); rintro e w1 ⟨rfl, hst⟩
       have HST1 := Lib.hid hst
       have e3 := (HW0.out _ _ _ _ _ _ hst).cell 3
       have e6 := (HW0.out _ _ _ _ _ _ hst).cell 6
       clear hst)
    | (go_at_call 47; (with_reducible refine (H2.out _ HST1.out).mono ?_); rintro e w2 ⟨rfl, hst⟩
       have HST2 := Lib.hid hst
       clear hst)
    | (go_at_call 9; (with_reducible refine (num_any _ _).mono ?_); rintro e wn ⟨rfl, rfl⟩))
  go_ret
  exact ⟨ret_bool (by simp), plq_of HBB.out HST2.out HT1.out HOK.out (by omega)⟩
set_option maxRecDepth 100000 in
set_option maxHeartbeats 1000000 in
theorem plays_two {w : World} {X : Nat → Prop} {c d nb : Nat} {L : List Int} {H : List Hd} {B : Nat} (h : PrS w X c d nb L H B) (wh to sr lv tm : Int) (nm : ByteArray) (hs : nm.size ≤ maxLen) (hB : B ≤ 4398046511102) :
    Calls Try.prog 21 #[.pointer (some ⟨c, 0, none⟩), .pointer (some ⟨d, 0, none⟩), .agg #[.int .i64 2, .int .i64 wh, .int .i64 to, .int .i64 sr, .int .i64 lv, .string nm, .int .i64 tm]] w fun e w' => e = .returned (.bool true) ∧ PlQ w X c d nb L (holdH H nm tm) (B + 2) w' := by
  obtain ⟨T, ht, hp⟩ := h.ex
  have hok := h.ok
  have hbb := below_alloc w (.cells #[.int .i64 2, .int .i64 wh, .int .i64 to, .int .i64 sr, .int .i64 lv, .string nm, .int .i64 tm] 30)
  have HBB := Lib.hid hbb
  have HST := Lib.hid (St.start (hp.below hbb))
  have HBK := Lib.hid (Bk.new w 30 #[.int .i64 2, .int .i64 wh, .int .i64 to, .int .i64 sr, .int .i64 lv, .string nm, .int .i64 tm])
  have HXN : Hid (¬ X w.heap.size) := fun h => by have := hp.xl _ h; omega
  have HT1 := Lib.hid ht
  have HOK := Lib.hid hok
  have HSN := Lib.hid hs
  have HW0 : Hid (∀ (W : World) (Lc : List Int) (T' : ByteArray → Option Int) (Lr : List Int) (H' : List Hd) (B' : Nat), St (w.alloc (.cells #[.int .i64 2, .int .i64 wh, .int .i64 to, .int .i64 sr, .int .i64 lv, .string nm, .int .i64 tm] 30)) X W c d nb Lc T' Lr H' B' → Bk W w.heap.size 30 #[.int .i64 2, .int .i64 wh, .int .i64 to, .int .i64 sr, .int .i64 lv, .string nm, .int .i64 tm]) := fun W Lc T' Lr H' B' h => h.bk HBK.out HXN.out
  have c0 := HBK.out.cell 0
  obtain ⟨rv, hrv⟩ : ∃ rv : Int, (if isTime tm = true then (0 : Int) else 2) = rv := ⟨_, rfl⟩
  have h1 := fun W T' Lr H' B' (hb : B' ≤ 4398046511103) (h : St (w.alloc (.cells #[.int .i64 2, .int .i64 wh, .int .i64 to, .int .i64 sr, .int .i64 lv, .string nm, .int .i64 tm] 30)) X W c d nb L T' Lr H' B') => h.holdC nm tm HSN.out hb
  have h2 := fun W T' Lr H' B' (hb : B' ≤ 4398046511103) (h : St (w.alloc (.cells #[.int .i64 2, .int .i64 wh, .int .i64 to, .int .i64 sr, .int .i64 lv, .string nm, .int .i64 tm] 30)) X W c d nb L T' Lr H' B') => h.holdR nm tm hb
  rw [hrv] at h1 h2
  have H1 := Lib.hid h1
  have H2 := Lib.hid h2
  have HS := Lib.hid HST.out.drew
  clear h1 h2 hrv h hp ht hok hbb hs
  go_enter Try.func21, Try.ntmps21
  go_wp2
  go_region_held3 (fun W1 => W1.cell? ⟨w.heap.size, 5, none⟩ = some (.string nm) ∧ W1.cell? ⟨w.heap.size, 6, none⟩ = some (.int .i64 tm))
    (first
      | exact ⟨(HW0.out _ _ _ _ _ _ HS.out).cell 5, (HW0.out _ _ _ _ _ _ HS.out).cell 6⟩
      | exact ⟨HBK.out.cell 5, HBK.out.cell 6⟩)
    (first
      | (go_at_call 15; (with_reducible refine (H1.out _ _ _ _ _ (by omega) HS.out).mono ?_); rintro e w1 ⟨rfl, hst⟩
         replace HS := Lib.hid hst
         clear hst)
      | (go_at_call 18; (with_reducible refine (H2.out _ _ _ _ _ (by omega) HS.out).mono ?_); rintro e w1 ⟨rfl, hst⟩
         replace HS := Lib.hid hst
         clear hst)
      | (go_at_call 9; (with_reducible refine (num_any _ _).mono ?_); rintro e wn ⟨rfl, rfl⟩))
  all_goals go_simp
  all_goals go_wp2
  all_goals go_ret
  all_goals exact ⟨ret_bool (by simp), plq_of HBB.out HS.out (HT1.out.hold nm tm) (ok_held HOK.out HSN.out) (by omega)⟩
set_option maxRecDepth 100000 in
set_option maxHeartbeats 1000000 in
theorem plays_three {w : World} {X : Nat → Prop} {c d nb : Nat} {L : List Int} {H : List Hd} {B : Nat} (h : PrS w X c d nb L H B) (wh to sr lv tm : Int) (nm : ByteArray) (hs : nm.size ≤ maxLen) (hB : B ≤ 4398046511102) :
    Calls Try.prog 21 #[.pointer (some ⟨c, 0, none⟩), .pointer (some ⟨d, 0, none⟩), .agg #[.int .i64 3, .int .i64 wh, .int .i64 to, .int .i64 sr, .int .i64 lv, .string nm, .int .i64 tm]] w fun e w' => e = .returned (.bool true) ∧ PlQ w X c d nb L (frH H nm) (B + 2) w' := by
  obtain ⟨T, ht, hp⟩ := h.ex
  have hok := h.ok
  have hbb := below_alloc w (.cells #[.int .i64 3, .int .i64 wh, .int .i64 to, .int .i64 sr, .int .i64 lv, .string nm, .int .i64 tm] 30)
  have HBB := Lib.hid hbb
  have HST := Lib.hid (St.start (hp.below hbb))
  have HBK := Lib.hid (Bk.new w 30 #[.int .i64 3, .int .i64 wh, .int .i64 to, .int .i64 sr, .int .i64 lv, .string nm, .int .i64 tm])
  have HXN : Hid (¬ X w.heap.size) := fun h => by have := hp.xl _ h; omega
  have HT1 := Lib.hid ht
  have HOK := Lib.hid hok
  have HSN := Lib.hid hs
  have HW0 : Hid (∀ (W : World) (Lc : List Int) (T' : ByteArray → Option Int) (Lr : List Int) (H' : List Hd) (B' : Nat), St (w.alloc (.cells #[.int .i64 3, .int .i64 wh, .int .i64 to, .int .i64 sr, .int .i64 lv, .string nm, .int .i64 tm] 30)) X W c d nb Lc T' Lr H' B' → Bk W w.heap.size 30 #[.int .i64 3, .int .i64 wh, .int .i64 to, .int .i64 sr, .int .i64 lv, .string nm, .int .i64 tm]) := fun W Lc T' Lr H' B' h => h.bk HBK.out HXN.out
  have c0 := HBK.out.cell 0
  have HHAS := Lib.hid (HT1.out.has nm)
  obtain ⟨bv, hbv⟩ : ∃ bv, hasN H nm = bv := ⟨_, rfl⟩
  have h1 := fun W Lr H' B' (hb : B' ≤ 4398046511104) (h : St (w.alloc (.cells #[.int .i64 3, .int .i64 wh, .int .i64 to, .int .i64 sr, .int .i64 lv, .string nm, .int .i64 tm] 30)) X W c d nb L T Lr H' B') => h.freeC nm HSN.out hb
  have h2 := fun W T' Lr B' (hb : B' ≤ 4398046511104) (h : St (w.alloc (.cells #[.int .i64 3, .int .i64 wh, .int .i64 to, .int .i64 sr, .int .i64 lv, .string nm, .int .i64 tm] 30)) X W c d nb L T' Lr H B') => h.freeR nm hb
  rw [HHAS.out, hbv] at h1
  rw [hbv] at h2
  have H1 := Lib.hid h1
  have H2 := Lib.hid h2
  have HS := Lib.hid HST.out.drew
  clear h1 h2 hbv HHAS h hp ht hok hbb hs
  go_enter Try.func21, Try.ntmps21
  go_wp2
  go_region_held3 (fun W1 => W1.cell? ⟨w.heap.size, 5, none⟩ = some (.string nm))
    (first
      | exact (HW0.out _ _ _ _ _ _ HS.out).cell 5
      | exact HBK.out.cell 5)
    (first
      | (go_at_call 14; (with_reducible refine (H1.out _ _ _ _ (by omega) HS.out).mono ?_); rintro e w1 ⟨rfl, hst⟩
         replace HS := Lib.hid hst
         clear hst)
      | (go_at_call 42; (with_reducible refine (H2.out _ _ _ _ (by omega) HS.out).mono ?_); rintro e w1 ⟨rfl, hst⟩
         replace HS := Lib.hid hst
         clear hst))
  all_goals go_simp
  all_goals go_wp2
  all_goals go_ret
  all_goals exact ⟨ret_bool (by simp), plq_of HBB.out HS.out (HT1.out.freed nm) (ok_freed HOK.out) (by omega)⟩
set_option maxRecDepth 100000 in
set_option maxHeartbeats 1000000 in
theorem plays_four {w : World} {X : Nat → Prop} {c d nb : Nat} {L : List Int} {H : List Hd} {B : Nat} (h : PrS w X c d nb L H B) (wh to sr lv tm : Int) (nm : ByteArray) (hs : nm.size ≤ maxLen) (_hB : B ≤ 4398046511102) :
    Calls Try.prog 21 #[.pointer (some ⟨c, 0, none⟩), .pointer (some ⟨d, 0, none⟩), .agg #[.int .i64 4, .int .i64 wh, .int .i64 to, .int .i64 sr, .int .i64 lv, .string nm, .int .i64 tm]] w fun e w' => e = .returned (.bool true) ∧ PlQ w X c d nb L H (B + 2) w' := by
  obtain ⟨T, ht, hp⟩ := h.ex
  have hok := h.ok
  have hbb := below_alloc w (.cells #[.int .i64 4, .int .i64 wh, .int .i64 to, .int .i64 sr, .int .i64 lv, .string nm, .int .i64 tm] 30)
  have HBB := Lib.hid hbb
  have HST := Lib.hid (St.start (hp.below hbb))
  have HBK := Lib.hid (Bk.new w 30 #[.int .i64 4, .int .i64 wh, .int .i64 to, .int .i64 sr, .int .i64 lv, .string nm, .int .i64 tm])
  have HXN : Hid (¬ X w.heap.size) := fun h => by have := hp.xl _ h; omega
  have HT1 := Lib.hid ht
  have HOK := Lib.hid hok
  have HSN := Lib.hid hs
  have HW0 : Hid (∀ (W : World) (Lc : List Int) (T' : ByteArray → Option Int) (Lr : List Int) (H' : List Hd) (B' : Nat), St (w.alloc (.cells #[.int .i64 4, .int .i64 wh, .int .i64 to, .int .i64 sr, .int .i64 lv, .string nm, .int .i64 tm] 30)) X W c d nb Lc T' Lr H' B' → Bk W w.heap.size 30 #[.int .i64 4, .int .i64 wh, .int .i64 to, .int .i64 sr, .int .i64 lv, .string nm, .int .i64 tm]) := fun W Lc T' Lr H' B' h => h.bk HBK.out HXN.out
  have c0 := HBK.out.cell 0
  have HTE := Lib.hid (tells_yes (h.below hbb))
  have HF : Hid (∀ W, Below (w.alloc (.cells #[.int .i64 4, .int .i64 wh, .int .i64 to, .int .i64 sr, .int .i64 lv, .string nm, .int .i64 tm] 30)).heap.size (w.alloc (.cells #[.int .i64 4, .int .i64 wh, .int .i64 to, .int .i64 sr, .int .i64 lv, .string nm, .int .i64 tm] 30)) W → PlQ w X c d nb L H (B + 2) W) := fun W hW => plq_of (hbb.trans (hW.mono hbb.size)) (St.start (hp.below (hbb.trans (hW.mono hbb.size)))) ht hok (by omega)
  clear h hp ht hok hbb hs
  go_enter Try.func21, Try.ntmps21
  go_wp2_with (first
    | (go_at_call 22; (with_reducible refine HTE.out.mono ?_); rintro e w1 ⟨rfl, hb⟩; have HB := Lib.hid hb; clear hb))
  go_ret
  exact ⟨rfl, HF.out _ HB.out⟩
set_option maxRecDepth 100000 in
set_option maxHeartbeats 1000000 in
theorem plays_five {w : World} {X : Nat → Prop} {c d nb : Nat} {L : List Int} {H : List Hd} {B : Nat} (h : PrS w X c d nb L H B) (wh to sr lv tm : Int) (nm : ByteArray) (hs : nm.size ≤ maxLen) (hB : B ≤ 4398046511102) :
    Calls Try.prog 21 #[.pointer (some ⟨c, 0, none⟩), .pointer (some ⟨d, 0, none⟩), .agg #[.int .i64 5, .int .i64 wh, .int .i64 to, .int .i64 sr, .int .i64 lv, .string nm, .int .i64 tm]] w fun e w' => e = .returned (.bool true) ∧ PlQ w X c d nb L H (B + 2) w' := by
  obtain ⟨T, ht, hp⟩ := h.ex
  have hok := h.ok
  have hbb := below_alloc w (.cells #[.int .i64 5, .int .i64 wh, .int .i64 to, .int .i64 sr, .int .i64 lv, .string nm, .int .i64 tm] 30)
  have HBB := Lib.hid hbb
  have HST := Lib.hid (St.start (hp.below hbb))
  have HBK := Lib.hid (Bk.new w 30 #[.int .i64 5, .int .i64 wh, .int .i64 to, .int .i64 sr, .int .i64 lv, .string nm, .int .i64 tm])
  have HXN : Hid (¬ X w.heap.size) := fun h => by have := hp.xl _ h; omega
  have HT1 := Lib.hid ht
  have HOK := Lib.hid hok
  have HSN := Lib.hid hs
  have HW0 : Hid (∀ (W : World) (Lc : List Int) (T' : ByteArray → Option Int) (Lr : List Int) (H' : List Hd) (B' : Nat), St (w.alloc (.cells #[.int .i64 5, .int .i64 wh, .int .i64 to, .int .i64 sr, .int .i64 lv, .string nm, .int .i64 tm] 30)) X W c d nb Lc T' Lr H' B' → Bk W w.heap.size 30 #[.int .i64 5, .int .i64 wh, .int .i64 to, .int .i64 sr, .int .i64 lv, .string nm, .int .i64 tm]) := fun W Lc T' Lr H' B' h => h.bk HBK.out HXN.out
  have c0 := HBK.out.cell 0
  obtain ⟨Xc, Xr, n, hc, hr, h1, h2, h3, h4, h5, h6, h7⟩ := id hp
  have HG := Lib.hid (goes_yes (hc.below hbb) (hr.below hbb) ht (by omega) (fun x hx => (hok x hx).1) lv)
  have HF : Hid (∀ W, Below (w.alloc (.cells #[.int .i64 5, .int .i64 wh, .int .i64 to, .int .i64 sr, .int .i64 lv, .string nm, .int .i64 tm] 30)).heap.size (w.alloc (.cells #[.int .i64 5, .int .i64 wh, .int .i64 to, .int .i64 sr, .int .i64 lv, .string nm, .int .i64 tm] 30)) W → PlQ w X c d nb L H (B + 2) W) := fun W hW => plq_of (hbb.trans (hW.mono hbb.size)) (St.start (hp.below (hbb.trans (hW.mono hbb.size)))) ht hok (by omega)
  have c4 := HBK.out.cell 4
  clear h hp ht hok hbb hs hc hr h1 h2 h3 h4 h5 h6 h7
  go_enter Try.func21, Try.ntmps21
  go_wp2_with (first
    | (go_at_call 23; (with_reducible refine HG.out.mono ?_); rintro e w1 ⟨rfl, hb⟩; have HB := Lib.hid hb; clear hb))
  go_ret
  exact ⟨rfl, HF.out _ HB.out⟩
set_option maxRecDepth 100000 in
set_option maxHeartbeats 1000000 in
theorem plays_other {w : World} {X : Nat → Prop} {c d nb : Nat} {L : List Int} {H : List Hd} {B : Nat} (h : PrS w X c d nb L H B) (ki wh to sr lv tm : Int) (nm : ByteArray) (hs : nm.size ≤ maxLen) (_hB : B ≤ 4398046511102) (hki : ki ≠ 1 ∧ ki ≠ 2 ∧ ki ≠ 3 ∧ ki ≠ 4 ∧ ki ≠ 5) :
    Calls Try.prog 21 #[.pointer (some ⟨c, 0, none⟩), .pointer (some ⟨d, 0, none⟩), .agg #[.int .i64 ki, .int .i64 wh, .int .i64 to, .int .i64 sr, .int .i64 lv, .string nm, .int .i64 tm]] w fun e w' => e = .returned (.bool true) ∧ PlQ w X c d nb L H (B + 2) w' := by
  obtain ⟨T, ht, hp⟩ := h.ex
  have hok := h.ok
  have hbb := below_alloc w (.cells #[.int .i64 ki, .int .i64 wh, .int .i64 to, .int .i64 sr, .int .i64 lv, .string nm, .int .i64 tm] 30)
  have HBB := Lib.hid hbb
  have HST := Lib.hid (St.start (hp.below hbb))
  have HBK := Lib.hid (Bk.new w 30 #[.int .i64 ki, .int .i64 wh, .int .i64 to, .int .i64 sr, .int .i64 lv, .string nm, .int .i64 tm])
  have HXN : Hid (¬ X w.heap.size) := fun h => by have := hp.xl _ h; omega
  have HT1 := Lib.hid ht
  have HOK := Lib.hid hok
  have HSN := Lib.hid hs
  have HW0 : Hid (∀ (W : World) (Lc : List Int) (T' : ByteArray → Option Int) (Lr : List Int) (H' : List Hd) (B' : Nat), St (w.alloc (.cells #[.int .i64 ki, .int .i64 wh, .int .i64 to, .int .i64 sr, .int .i64 lv, .string nm, .int .i64 tm] 30)) X W c d nb Lc T' Lr H' B' → Bk W w.heap.size 30 #[.int .i64 ki, .int .i64 wh, .int .i64 to, .int .i64 sr, .int .i64 lv, .string nm, .int .i64 tm]) := fun W Lc T' Lr H' B' h => h.bk HBK.out HXN.out
  have c0 := HBK.out.cell 0
  have HF : Hid (PlQ w X c d nb L H (B + 2) (w.alloc (.cells #[.int .i64 ki, .int .i64 wh, .int .i64 to, .int .i64 sr, .int .i64 lv, .string nm, .int .i64 tm] 30))) := plq_of hbb (St.start (hp.below hbb)) ht hok (by omega)
  have d1 : (ki == 1) = false := beq_eq_false_iff_ne.2 (by omega)
  have d2 : (ki == 2) = false := beq_eq_false_iff_ne.2 (by omega)
  have d3 : (ki == 3) = false := beq_eq_false_iff_ne.2 (by omega)
  have d4 : (ki == 4) = false := beq_eq_false_iff_ne.2 (by omega)
  have d5 : (ki == 5) = false := beq_eq_false_iff_ne.2 (by omega)
  clear h hp ht hok hbb hs hki
  go_enter Try.func21, Try.ntmps21
  go_wp2
  go_ret
  exact ⟨rfl, HF.out⟩
theorem plays_yes {w : World} {X : Nat → Prop} {c d nb : Nat} {L : List Int} {H : List Hd} {B : Nat} (h : PrS w X c d nb L H B) (s : Sp) (hs : s.name.size ≤ maxLen) (hB : B ≤ 4398046511102) :
    Calls Try.prog 21 #[.pointer (some ⟨c, 0, none⟩), .pointer (some ⟨d, 0, none⟩), .agg s.cells.toArray] w fun e w' => e = .returned (.bool true) ∧ PlQ w X c d nb (stM L s) (stH H s) (B + 2) w' := by
  obtain ⟨ki, wh, to, sr, lv, nm, tm⟩ := s
  unfold stM stH
  by_cases k1 : ki = 1
  · subst k1; exact plays_one h wh to sr lv tm nm hs hB
  · by_cases k2 : ki = 2
    · subst k2; exact plays_two h wh to sr lv tm nm hs hB
    · by_cases k3 : ki = 3
      · subst k3; exact plays_three h wh to sr lv tm nm hs hB
      · simp only [if_neg k1, if_neg k2, if_neg k3]
        by_cases k4 : ki = 4
        · subst k4; exact plays_four h wh to sr lv tm nm hs hB
        · by_cases k5 : ki = 5
          · subst k5; exact plays_five h wh to sr lv tm nm hs hB
          · exact plays_other h ki wh to sr lv tm nm hs hB ⟨k1, k2, k3, k4, k5⟩
end Go.Proofs.Ytdndljbagjfkkaa
