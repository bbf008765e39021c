/- A clock beside the document's. -/
import Derived.Test.YtdndljbagjfkkaaCk10
import Derived.Test.YtdndljbagjfkkaaNo
namespace Go.Proofs.Ytdndljbagjfkkaa
open Go.RowKit Go.Lib
theorem Ck.xc {w : World} {X : Nat → Prop} {c : Nat} {L : List Int} {n : Nat} {T : ByteArray → Option Int} (h : Ck w X c L n T) : X c := by
  obtain ⟨XH, mv, v, nb, f, nm, tm, N, h⟩ := h
  exact h.sub _ h.hs.xc
theorem Ck.c2 {w w' : World} {X Y : Nat → Prop} {c : Nat} {L : List Int} {n : Nat} {T : ByteArray → Option Int} (h : Ck w X c L n T) (ho : Only Y w w') (hd : ∀ k, X k → ¬ Y k) : w'.cell? ⟨c, 2, none⟩ = w.cell? ⟨c, 2, none⟩ :=
  World.cell?_of_block (a := ⟨c, 2, none⟩) (ho.block c (h.xl c h.xc) (hd c h.xc))
/-- A clock c and the document's d, in blocks within X. -/
def PrG (w : World) (X : Nat → Prop) (c d nb : Nat) (Lc : List Int) (T : ByteArray → Option Int) (Lr : List Int) (H : List Hd) (B : Nat) : Prop :=
  ∃ Xc Xr n, Ck w Xc c Lc n T ∧ Rc w Xr d Lr H ∧ n ≤ B ∧ H.length ≤ B ∧ (∀ k, Xc k → ¬ Xr k) ∧ (∀ k, Xc k → X k) ∧ (∀ k, Xr k → X k) ∧ (∀ k, X k → k < w.heap.size) ∧ w.cell? ⟨c, 2, none⟩ = some (.map (some nb))
section
variable {w w' : World} {X Y : Nat → Prop} {c d nb : Nat} {Lc Lr : List Int} {T : ByteArray → Option Int} {H : List Hd} {B : Nat}
theorem PrG.xl (h : PrG w X c d nb Lc T Lr H B) : ∀ k, X k → k < w.heap.size := by
  obtain ⟨_, _, _, _, _, _, _, _, _, _, h, _⟩ := h
  exact h
theorem PrG.keep (h : PrG w X c d nb Lc T Lr H B) (ho : Only Y w w') (hd : ∀ k, X k → ¬ Y k) : PrG w' X c d nb Lc T Lr H B := by
  obtain ⟨Xc, Xr, n, hc, hr, h1, h2, h3, h4, h5, h6, h7⟩ := h
  exact ⟨Xc, Xr, n, hc.keep ho fun k hk => hd k (h4 k hk), hr.keep ho fun k hk => hd k (h5 k hk), h1, h2, h3, h4, h5, fun k hk => Nat.lt_of_lt_of_le (h6 k hk) ho.size, (hc.c2 ho fun k hk => hd k (h4 k hk)).trans h7⟩
theorem PrG.below (h : PrG w X c d nb Lc T Lr H B) (hb : Below w.heap.size w w') : PrG w' X c d nb Lc T Lr H B := h.keep (Only.of_below (X := fun _ => False) hb) fun _ _ h => h
theorem PrG.wide (h : PrG w X c d nb Lc T Lr H B) (hy : ∀ k, X k → Y k) (hlt : ∀ k, Y k → k < w.heap.size) : PrG w Y c d nb Lc T Lr H B := by
  obtain ⟨Xc, Xr, n, hc, hr, h1, h2, h3, h4, h5, h6, h7⟩ := h
  exact ⟨Xc, Xr, n, hc, hr, h1, h2, h3, fun k hk => hy k (h4 k hk), fun k hk => hy k (h5 k hk), hlt, h7⟩
theorem PrG.more {B' : Nat} (h : PrG w X c d nb Lc T Lr H B) (hb : B ≤ B') : PrG w X c d nb Lc T Lr H B' := by
  obtain ⟨Xc, Xr, n, hc, hr, h1, h2, h3, h4, h5, h6, h7⟩ := h
  exact ⟨Xc, Xr, n, hc, hr, by omega, by omega, h3, h4, h5, h6, h7⟩
theorem xt_lt (h : ∀ k, X k → k < w.heap.size) (hs : w.heap.size ≤ w'.heap.size) : ∀ k, Xt X w w' k → k < w'.heap.size := fun k hk => by
  rcases hk with hk | hk
  · exact Nat.lt_of_lt_of_le (h k hk) hs
  · exact hk.2
theorem PrG.out (h : PrG w X c d nb Lc T Lr H B) (hb : Only X w w') (k : PrG w' X c d nb Lc T Lr H B) : PrG w' (Xt X w w') c d nb Lc T Lr H B := k.wide (fun _ h => .inl h) (xt_lt h.xl hb.size)
theorem PrG.holdC (h : PrG w X c d nb Lc T Lr H B) (s : ByteArray) (t : Int) (hs : s.size ≤ maxLen) (hB : B ≤ 4398046511103) : Calls Try.prog 15 #[.pointer (some ⟨c, 0, none⟩), .string s, .int .i64 t] w fun e w' => e = .returned (.int .i64 (if isTime t = true then 0 else 2)) ∧ PrG w' (Xt X w w') c d nb Lc (holdT T s t) Lr H (B + 1) ∧ Only X w w' := by
  obtain ⟨Xc, Xr, n, hc, hr, h1, h2, h3, h4, h5, h6, h7⟩ := h
  refine (Hold_m hc s t hs (by omega)).mono ?_
  rintro e w' ⟨he, ⟨n', hk, hn'⟩, ho, hx⟩
  have hr' := hr.keep ho fun k hk hk2 => h3 k hk2 hk
  refine ⟨he, ⟨Xt Xc w w', Xr, n', hk, hr', by omega, by omega, fun k hk hk2 => ?_, fun k hk => hk.imp (h4 k) id, fun k hk => .inl (h5 k hk), xt_lt h6 ho.size, hx.trans h7⟩, ho.wide fun k hk => .inl (h4 k hk)⟩
  rcases hk with hk | hk
  · exact h3 k hk hk2
  · have := hr.xl k hk2; omega
theorem PrG.holdR (h : PrG w X c d nb Lc T Lr H B) (s : ByteArray) (t : Int) (hB : B ≤ 4398046511103) : Calls Try.prog 18 #[.pointer (some ⟨d, 0, none⟩), .string s, .int .i64 t] w fun e w' => e = .returned (.int .i64 (if isTime t = true then 0 else 2)) ∧ PrG w' (Xt X w w') c d nb Lc T Lr (holdH H s t) (B + 1) ∧ Only X w w' := by
  obtain ⟨Xc, Xr, n, hc, hr, h1, h2, h3, h4, h5, h6, h7⟩ := h
  refine (rHold_c hr s t (by omega)).mono ?_
  rintro e w' ⟨he, hk, ho⟩
  have hl : (holdH H s t).length ≤ H.length + 1 := by
    unfold holdH
    split
    · exact hoH_length s t
    · omega
  refine ⟨he, ⟨Xc, Xt Xr w w', n, hc.keep ho h3, hk, by omega, by omega, fun k hk hk2 => ?_, fun k hk => .inl (h4 k hk), fun k hk => hk.imp (h5 k) id, xt_lt h6 ho.size, (hc.c2 ho h3).trans h7⟩, ho.wide fun k hk => .inl (h5 k hk)⟩
  rcases hk2 with hk2 | hk2
  · exact h3 k hk hk2
  · have := hc.xl k hk; omega
theorem PrG.freeC (h : PrG w X c d nb Lc T Lr H B) (s : ByteArray) (hs : s.size ≤ maxLen) (hB : B ≤ 4398046511104) : Calls Try.prog 14 #[.pointer (some ⟨c, 0, none⟩), .string s] w fun e w' => e = .returned (.bool (T s).isSome) ∧ PrG w' (Xt X w w') c d nb Lc (updT T s none) Lr H B ∧ Only X w w' := by
  obtain ⟨Xc, Xr, n, hc, hr, h1, h2, h3, h4, h5, h6, h7⟩ := h
  refine (Free_m hc s hs (by omega)).mono ?_
  rintro e w' ⟨he, ⟨n', hk, hn'⟩, ho, hx⟩
  exact ⟨he, ⟨Xc, Xr, n', hk, hr.keep ho fun k hk hk2 => h3 k hk2 hk, by omega, by omega, h3, fun k hk => .inl (h4 k hk), fun k hk => .inl (h5 k hk), xt_lt h6 ho.size, hx.trans h7⟩, ho.wide fun k hk => .inl (h4 k hk)⟩
theorem PrG.freeR (h : PrG w X c d nb Lc T Lr H B) (s : ByteArray) (hB : B ≤ 4398046511104) : Calls Try.prog 42 #[.pointer (some ⟨d, 0, none⟩), .string s] w fun e w' => e = .returned (.bool (hasN H s)) ∧ PrG w' (Xt X w w') c d nb Lc T Lr (frH H s) B ∧ Only X w w' := by
  obtain ⟨Xc, Xr, n, hc, hr, h1, h2, h3, h4, h5, h6, h7⟩ := h
  refine (rFree_any hr s (by omega)).mono ?_
  rintro e w' ⟨he, hk, ho⟩
  have hl := frH_length (H := H) s
  refine ⟨he, ⟨Xc, Xt Xr w w', n, hc.keep ho h3, hk, by omega, by omega, fun k hk hk2 => ?_, fun k hk => .inl (h4 k hk), fun k hk => hk.imp (h5 k) id, xt_lt h6 ho.size, (hc.c2 ho h3).trans h7⟩, ho.wide fun k hk => .inl (h5 k hk)⟩
  rcases hk2 with hk2 | hk2
  · exact h3 k hk hk2
  · have := hc.xl k hk; omega
theorem PrG.setC (h : PrG w X c d nb Lc T Lr H B) (s t : Int) : Calls Try.prog 13 #[.pointer (some ⟨c, 0, none⟩), .int .i64 s, .int .i64 t] w fun e w' => e = .returned (setR Lc s t) ∧ PrG w' (Xt X w w') c d nb (setL Lc s t) T Lr H B ∧ Only X w w' := by
  obtain ⟨Xc, Xr, n, hc, hr, h1, h2, h3, h4, h5, h6, h7⟩ := h
  refine (Set_m hc s t).mono ?_
  rintro e w' ⟨he, hk, ho, hx⟩
  exact ⟨he, ⟨Xc, Xr, n, hk, hr.keep ho fun k hk hk2 => h3 k hk2 hk, h1, h2, h3, fun k hk => .inl (h4 k hk), fun k hk => .inl (h5 k hk), xt_lt h6 ho.size, hx.trans h7⟩, ho.wide fun k hk => .inl (h4 k hk)⟩
theorem PrG.setR_ (h : PrG w X c d nb Lc T Lr H B) (s t : Int) : Calls Try.prog 47 #[.pointer (some ⟨d, 0, none⟩), .int .i64 s, .int .i64 t] w fun e w' => e = .returned (setR Lr s t) ∧ PrG w' (Xt X w w') c d nb Lc T (setL Lr s t) H B ∧ Only X w w' := by
  obtain ⟨Xc, Xr, n, hc, hr, h1, h2, h3, h4, h5, h6, h7⟩ := h
  refine (rSet_c hr s t).mono ?_
  rintro e w' ⟨he, hk, ho⟩
  exact ⟨he, ⟨Xc, Xr, n, hc.keep ho h3, hk, h1, h2, h3, fun k hk => .inl (h4 k hk), fun k hk => .inl (h5 k hk), xt_lt h6 ho.size, (hc.c2 ho h3).trans h7⟩, ho.wide fun k hk => .inl (h5 k hk)⟩
/-- Two calls, one behind the other. -/
theorem PrG.join {w1 w2 : World} (ho1 : Only X w w1) (h : PrG w2 (Xt (Xt X w w1) w1 w2) c d nb Lc T Lr H B) (ho2 : Only (Xt X w w1) w1 w2) : PrG w2 (Xt X w w2) c d nb Lc T Lr H B ∧ Only X w w2 := by
  have ho : Only X w w2 := ho1.trans ho2 fun k hk => hk.imp id fun h => h.1
  refine ⟨?_, ho⟩
  obtain ⟨Xc, Xr, n, hc, hr, h1, h2, h3, h4, h5, h6, h7⟩ := h
  have hs1 := ho1.size
  have hs2 := ho2.size
  have up : ∀ k, Xt (Xt X w w1) w1 w2 k → Xt X w w2 k := fun k hk => by
    rcases hk with (hk | hk) | hk
    · exact .inl hk
    · exact .inr ⟨hk.1, by omega⟩
    · exact .inr ⟨by omega, hk.2⟩
  refine ⟨Xc, Xr, n, hc, hr, h1, h2, h3, fun k hk => up k (h4 k hk), fun k hk => up k (h5 k hk), fun k hk => ?_, h7⟩
  rcases hk with hk | hk
  · exact h6 k (.inl (.inl hk))
  · exact hk.2
/-- Its blocks, as few as they are. -/
theorem PrG.tame (h : PrG w X c d nb Lc T Lr H B) : ∃ Y, PrG w Y c d nb Lc T Lr H B ∧ (∀ k, Y k → X k) ∧ (∀ k, Y k → Tame w nb k) ∧ X nb := by
  obtain ⟨Xc, Xr, n, hc, hr, h1, h2, h3, h4, h5, h6, h7⟩ := h
  obtain ⟨nb', Yc, e2, hnb, hc', hsub, htm⟩ := hc.tame
  have e : some (Value.map (some nb')) = some (.map (some nb)) := e2.symm.trans h7
  cases e
  obtain ⟨lv, hv, hh⟩ := hr
  have tr : ∀ {base : Nat} {e : TypeId} {size m : Nat} {v : Value} {xs : List Value}, w.ownsRow base e size v m xs → e ≠ 82 → ∀ r, v.ownBlock = some r → Tame w nb r := fun ho he r hr => by
    obtain ⟨cs, hc⟩ := own_cells ho hr
    exact .inr ⟨cs, _, hc, fun e => absurd e he⟩
  have hrt : Rc w (fun k => Xr k ∧ Tame w nb k) d Lr H := ⟨lv, hv, hh.bk, ⟨hh.xc, .inr ⟨_, _, hh.bk, fun e => absurd e (by decide)⟩⟩, hh.lr, fun r e => ⟨hh.xm r e, tr hh.lr (by decide) r e⟩, hh.hr, fun r e => ⟨hh.xh r e, tr hh.hr (by decide) r e⟩, hh.ln, hh.lm, fun k hk => hh.xl k hk.1⟩
  exact ⟨fun k => X k ∧ Tame w nb k, ⟨Yc, _, n, hc', hrt, h1, h2, fun k hk hk2 => h3 k (hsub k hk) hk2.1, fun k hk => ⟨h4 k (hsub k hk), htm k hk⟩, fun k hk => ⟨h5 k hk.1, hk.2⟩, fun k hk => h6 k hk.1, h7⟩, fun k hk => hk.1, fun k hk => hk.2, h4 _ hnb⟩
end
/-- The same clock: marks and holds. -/
structure PrS (w : World) (X : Nat → Prop) (c d nb : Nat) (L : List Int) (H : List Hd) (B : Nat) : Prop where
  ex : ∃ T, HT H T ∧ PrG w X c d nb L T L H B
  ok : ∀ x ∈ H, x.name.size ≤ maxLen ∧ isTime x.tm = true
section
variable {w w' : World} {X Y : Nat → Prop} {c d nb : Nat} {L : List Int} {H : List Hd} {B : Nat}
theorem PrS.below (h : PrS w X c d nb L H B) (hb : Below w.heap.size w w') : PrS w' X c d nb L H B := by
  obtain ⟨T, ht, hp⟩ := h.ex
  exact ⟨⟨T, ht, hp.below hb⟩, h.ok⟩
theorem PrS.keep (h : PrS w X c d nb L H B) (ho : Only Y w w') (hd : ∀ k, X k → ¬ Y k) : PrS w' X c d nb L H B := by
  obtain ⟨T, ht, hp⟩ := h.ex
  exact ⟨⟨T, ht, hp.keep ho hd⟩, h.ok⟩
theorem PrS.more {B' : Nat} (h : PrS w X c d nb L H B) (hb : B ≤ B') : PrS w X c d nb L H B' := by
  obtain ⟨T, ht, hp⟩ := h.ex
  exact ⟨⟨T, ht, hp.more hb⟩, h.ok⟩
theorem PrS.wide (h : PrS w X c d nb L H B) (hy : ∀ k, X k → Y k) (hlt : ∀ k, Y k → k < w.heap.size) : PrS w Y c d nb L H B := by
  obtain ⟨T, ht, hp⟩ := h.ex
  exact ⟨⟨T, ht, hp.wide hy hlt⟩, h.ok⟩
theorem PrS.xl (h : PrS w X c d nb L H B) : ∀ k, X k → k < w.heap.size := by
  obtain ⟨T, ht, hp⟩ := h.ex
  exact hp.xl
theorem ok_held {H : List Hd} {s : ByteArray} {t : Int} (h : ∀ x ∈ H, x.name.size ≤ maxLen ∧ isTime x.tm = true) (hs : s.size ≤ maxLen) : ∀ x ∈ holdH H s t, x.name.size ≤ maxLen ∧ isTime x.tm = true := by
  unfold holdH
  split
  · rename_i ht
    have hf : ∀ x ∈ frH H s, x.name.size ≤ maxLen ∧ isTime x.tm = true := fun x hx => by
      unfold frH at hx
      split at hx
      · rcases List.mem_append.1 hx with hx | hx
        · exact h x (List.mem_of_mem_take hx)
        · exact h x (List.mem_of_mem_drop hx)
      · exact h x hx
    intro x hx
    unfold hoH at hx
    simp only [List.mem_append, List.mem_singleton] at hx
    rcases hx with (hx | rfl) | hx
    · exact hf x (List.mem_of_mem_take hx)
    · exact ⟨hs, ht⟩
    · exact hf x (List.mem_of_mem_drop hx)
  · exact h
theorem ok_freed {H : List Hd} {s : ByteArray} (h : ∀ x ∈ H, x.name.size ≤ maxLen ∧ isTime x.tm = true) : ∀ x ∈ frH H s, x.name.size ≤ maxLen ∧ isTime x.tm = true := fun x hx => by
  unfold frH at hx
  split at hx
  · rcases List.mem_append.1 hx with hx | hx
    · exact h x (List.mem_of_mem_take hx)
    · exact h x (List.mem_of_mem_drop hx)
  · exact h x hx
end
end Go.Proofs.Ytdndljbagjfkkaa
