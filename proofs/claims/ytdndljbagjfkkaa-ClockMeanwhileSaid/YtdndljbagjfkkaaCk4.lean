/- A clock: Free, Hold. -/
import Derived.Test.YtdndljbagjfkkaaCk3
namespace Go.Proofs.Ytdndljbagjfkkaa
open Go.RowKit Go.Lib

def updF {α : Type} (f : Nat → α) (k : Nat) (x : α) (i : Nat) : α := if i = k then x else f i
theorem updF_same {α : Type} (f : Nat → α) (k : Nat) (x : α) : updF f k x k = x := by simp [updF]
theorem updF_ne {α : Type} (f : Nat → α) {k i : Nat} (x : α) (h : i ≠ k) : updF f k x i = f i := by simp [updF, h]
def updT (T : ByteArray → Option Int) (s : ByteArray) (o : Option Int) (t : ByteArray) : Option Int := if t = s then o else T t
theorem updT_same (T : ByteArray → Option Int) (s : ByteArray) (o : Option Int) : updT T s o s = o := by simp [updT]
theorem updT_ne (T : ByteArray → Option Int) {s t : ByteArray} (o : Option Int) (h : t ≠ s) : updT T s o t = T t := by simp [updT, h]
section
variable {w w' : World} {X XH Y : Nat → Prop} {c : Nat} {L : List Int} {n : Nat} {T : ByteArray → Option Int} {mv mp v : Value} {nb : Nat} {f : Nat → Nat} {nm : Nat → ByteArray} {tm : Nat → Int} {N : ByteArray → Option Nat}
theorem Hs.keep (h : Hs w XH c mv mp v n f nm tm) (ho : Only Y w w') (hd : ∀ k, XH k → ¬ Y k) : Hs w' XH c mv mp v n f nm tm :=
  ⟨h.blk.only ho (hd _ h.xc), own_only h.own ho (fun r e => hd _ (h.xv r e)), fun k hk => (h.ent k hk).only ho (hd _ (h.xf k hk)), h.inj, h.xc, h.xv, h.xf⟩
theorem CkS.none_iff (h : CkS w X XH c L n T mv v nb f nm tm N) (s : ByteArray) : T s = none ↔ N s = none := by
  constructor
  · intro ht
    rcases hN : N s with _ | b
    · rfl
    · obtain ⟨k, hk, e1, e2⟩ := (h.nam s b).1 hN
      have := (h.tms s (tm (f k))).2 ⟨k, hk, by rw [e1]; exact e2, rfl⟩
      rw [ht] at this; cases this
  · intro hN
    rcases ht : T s with _ | t
    · rfl
    · obtain ⟨k, hk, e1, e2⟩ := (h.tms s t).1 ht
      have := (h.nam s (f k)).2 ⟨k, hk, rfl, e1⟩
      rw [hN] at this; cases this
theorem CkS.some_at (h : CkS w X XH c L n T mv v nb f nm tm N) {s : ByteArray} {t : Int} (hT : T s = some t) : ∃ k, k < n ∧ nm (f k) = s ∧ tm (f k) = t ∧ N s = some (f k) := by
  obtain ⟨k, hk, e1, e2⟩ := (h.tms s t).1 hT
  exact ⟨k, hk, e1, e2, (h.nam s (f k)).2 ⟨k, hk, rfl, e1⟩⟩
/-- Names differ. -/
theorem CkS.name_inj (h : CkS w X XH c L n T mv v nb f nm tm N) {k l : Nat} (hk : k < n) (hl : l < n) (e : nm (f k) = nm (f l)) : k = l := by
  have h1 := (h.nam (nm (f k)) (f k)).2 ⟨k, hk, rfl, rfl⟩
  have h2 := (h.nam (nm (f k)) (f l)).2 ⟨l, hl, rfl, e.symm⟩
  rw [h1] at h2
  exact h.hs.inj k l hk hl (Option.some.inj h2)
theorem CkS.wide (h : CkS w X XH c L n T mv v nb f nm tm N) (hy : ∀ k, X k → Y k) (hlt : ∀ k, Y k → k < w.heap.size) : CkS w Y XH c L n T mv v nb f nm tm N :=
  ⟨h.hs, fun k hk => hy _ (h.sub k hk), h.mh, h.ph, h.hp, h.mks, fun r e => hy _ (h.mx r e), h.mp, hy _ h.px, h.nam, h.tms, h.ln, h.lm, hlt⟩
/-- What freeing a name leaves. -/
theorem CkS.freed {w1 w2 : World} {k0 : Nat} {v' : Value} {f' : Nat → Nat} {s : ByteArray} (h : CkS w X XH c L (n + 1) T mv v nb f nm tm N) (hk0 : k0 < n + 1) (hs : nm (f k0) = s)
    (hh : Hs w1 XH c mv (.map (some nb)) v' n f' nm tm) (hb : But n k0 f f') (hH : Hp.Heap (hlt nm tm) n f') (ho : Only XH w w1) (hm : Nm w2 nb n (updN N s none)) (hg : w1.grownBy w2 (some nb)) :
    CkS w2 X XH c L n (updT T s none) mv v' nb f' nm tm (updN N s none) ∧ Only X w w2 := by
  have hO2 : Only (fun k => k = nb) w1 w2 := Only.of_grown hg (fun b e => by cases e; exact .inl rfl)
  have hO : Only X w w2 := (ho.wide (fun k hk => .inl (h.sub k hk))).trans hO2 (fun b e => by subst e; exact .inl h.px)
  refine ⟨⟨hh.keep hO2 (fun k hk e => by subst e; exact h.ph hk), h.sub, h.mh, h.ph, hH, own_only (own_only h.mks ho h.mh) hO2 (fun r e e2 => by subst e2; exact h.mp.ne_own h.mks e), h.mx, hm, h.px, fun t b => ?_, fun t u => ?_, h.ln, h.lm, fun k hk => Nat.lt_of_lt_of_le (h.xl k hk) hO.size⟩, hO⟩
  · by_cases hts : t = s
    · subst hts
      rw [updN_same]
      refine ⟨fun e => (by cases e), fun ⟨k, hk, e1, e2⟩ => ?_⟩
      obtain ⟨l, hl, hlk, e3⟩ := hb.1 k hk
      exact absurd (h.name_inj hl hk0 (by rw [e3, e1, e2, hs])) hlk
    · rw [updN_ne N _ hts, h.nam t b]
      constructor
      · rintro ⟨l, hl, e1, e2⟩
        have hlk : l ≠ k0 := fun e => hts (by rw [← e2, ← e1, e, hs])
        obtain ⟨k, hk, e3⟩ := hb.2 l hl hlk
        exact ⟨k, hk, by rw [e3, e1], e2⟩
      · rintro ⟨k, hk, e1, e2⟩
        obtain ⟨l, hl, _, e3⟩ := hb.1 k hk
        exact ⟨l, hl, by rw [e3, e1], e2⟩
  · by_cases hts : t = s
    · subst hts
      rw [updT_same]
      refine ⟨fun e => (by cases e), fun ⟨k, hk, e1, e2⟩ => ?_⟩
      obtain ⟨l, hl, hlk, e3⟩ := hb.1 k hk
      exact absurd (h.name_inj hl hk0 (by rw [e3, e1, hs])) hlk
    · rw [updT_ne T _ hts, h.tms t u]
      constructor
      · rintro ⟨l, hl, e1, e2⟩
        have hlk : l ≠ k0 := fun e => hts (by rw [← e1, e, hs])
        obtain ⟨k, hk, e3⟩ := hb.2 l hl hlk
        exact ⟨k, hk, by rw [e3]; exact e1, by rw [e3]; exact e2⟩
      · rintro ⟨k, hk, e1, e2⟩
        obtain ⟨l, hl, _, e3⟩ := hb.1 k hk
        exact ⟨l, hl, by rw [e3]; exact e1, by rw [e3]; exact e2⟩
set_option maxRecDepth 100000 in
theorem Free_no (h : Ck w X c L n T) (s : ByteArray) (hs : s.size ≤ maxLen) (hT : T s = none) : Calls Try.prog 14 #[.pointer (some ⟨c, 0, none⟩), .string s] w fun e w' => e = .returned (.bool false) ∧ w = w' := by
  have HT := Lib.hid (there_any h)
  obtain ⟨XH, mv, v, nb, f, nm, tm, N, hh⟩ := h
  have x2 : w.cell? ⟨c, 2, none⟩ = some (.map (some nb)) := hh.hs.blk.cell 2
  have hl := hh.mp.none_ hs ((hh.none_iff s).1 hT)
  clear hh
  go_enter Try.func14, Try.ntmps14
  go_wp2_with (first
    | (go_at_call 34; (with_reducible refine HT.out.mono ?_); rintro e wn ⟨rfl, rfl⟩))
  go_ret
  exact ⟨rfl, rfl⟩
set_option maxRecDepth 100000 in
set_option maxHeartbeats 1000000 in
theorem Free_yes_m (h : Ck w X c L (n + 1) T) (s : ByteArray) (t : Int) (hs : s.size ≤ maxLen) (hT : T s = some t) (hn : n + 1 ≤ 4398046511104) : Calls Try.prog 14 #[.pointer (some ⟨c, 0, none⟩), .string s] w fun e w' => e = .returned (.bool true) ∧ Ck w' X c L n (updT T s none) ∧ Only X w w' ∧ w'.cell? ⟨c, 2, none⟩ = w.cell? ⟨c, 2, none⟩ := by
  have HT := Lib.hid (there_any h)
  obtain ⟨XH, mv, v, nb, f, nm, tm, N, hh⟩ := h
  have HCC : Hid (w.cell? ⟨c, 2, none⟩ = some (.map (some nb))) := hh.hs.blk.cell 2
  have x2 : w.cell? ⟨c, 2, none⟩ = some (.map (some nb)) := hh.hs.blk.cell 2
  obtain ⟨k0, hk0, e1, -, hN⟩ := hh.some_at hT
  have hl := hh.mp.some_ hs hN
  have x3 : w.cell? ⟨f k0, 2, none⟩ = some (.int .i64 (k0 : Int)) := (hh.hs.ent k0 hk0).cell 2
  have HH := Lib.hid hh
  have HN := Lib.hid hN
  have HS := Lib.hid hs
  have HE := Lib.hid e1
  have HR := Lib.hid (heapRemove_any k0 (hh.hs.below (below_drew w)) hk0 hn hh.hp)
  clear hh hT hN hs e1
  go_enter Try.func14, Try.ntmps14
  go_wp2_with (first
    | (go_at_call 34; (with_reducible refine HT.out.mono ?_); rintro e wn ⟨rfl, rfl⟩))
  go_region_with
    ((go_at_call 38; (with_reducible refine HR.out.mono ?_); rintro e w1 ⟨rfl, ⟨v', f', hh1, hb1, hp1⟩, ho1⟩
      have HH1 := Lib.hid hh1; have HB1 := Lib.hid hb1; have HP1 := Lib.hid hp1; have HO1 := Lib.hid ((Only.drewN 1 w).then ho1); clear hh1 hb1 hp1 ho1))
  have hnm1 := HH.out.mp.only HO1.out HH.out.ph
  obtain ⟨D, hD⟩ := hnm1
  have HD := Lib.hid hD
  have y2 : w1.cell? ⟨c, 2, none⟩ = some (.map (some nb)) := HH1.out.blk.cell 2
  clear hD
  go_wp2_with (first
    | (at_delete; refine wpList_delete_own _ rfl (.tmp 32) (.tmp 33) 68 9 rfl 77 kKeyed Try.underlying68 Rh nb (n + 1) D rfl HD.out.1 _ _ rfl (kn_key HS.out) ?_; intro w2 ho2 ht2
       have HN2 := Lib.hid (Nm.dropped HN.out HD.out ho2)
       have HG2 := Lib.hid ht2.grown
       clear ho2 ht2))
  go_ret
  obtain ⟨k1, k2⟩ := HH.out.freed hk0 HE.out HH1.out HB1.out HP1.out HO1.out HN2.out HG2.out
  exact ⟨rfl, ⟨_, _, _, _, _, _, _, _, k1⟩, k2, by rw [HCC.out]; exact k1.hs.blk.cell 2⟩
theorem Free_yes (h : Ck w X c L (n + 1) T) (s : ByteArray) (t : Int) (hs : s.size ≤ maxLen) (hT : T s = some t) (hn : n + 1 ≤ 4398046511104) : Calls Try.prog 14 #[.pointer (some ⟨c, 0, none⟩), .string s] w fun e w' => e = .returned (.bool true) ∧ Ck w' X c L n (updT T s none) ∧ Only X w w' :=
  (Free_yes_m h s t hs hT hn).mono fun _ _ ⟨a, b, c, _⟩ => ⟨a, b, c⟩
end
end Go.Proofs.Ytdndljbagjfkkaa
