/- The clock's calls leave its map of names where it is; its blocks, as few as they are. -/
import Derived.Test.YtdndljbagjfkkaaCk9
import Derived.Clock
namespace Go.Proofs.Ytdndljbagjfkkaa
open Go.RowKit Go.Lib
section
variable {w w' : World} {X Y : Nat → Prop} {c : Nat} {L : List Int} {n : Nat} {T : ByteArray → Option Int}
theorem Free_m (h : Ck w X c L n T) (s : ByteArray) (hs : s.size ≤ maxLen) (hn : n ≤ 4398046511104) : Calls Try.prog 14 #[.pointer (some ⟨c, 0, none⟩), .string s] w fun e w' => e = .returned (.bool (T s).isSome) ∧ (∃ n', Ck w' X c L n' (updT T s none) ∧ n' ≤ n) ∧ Only X w w' ∧ w'.cell? ⟨c, 2, none⟩ = w.cell? ⟨c, 2, none⟩ := by
  rcases hT : T s with _ | t
  · refine (Free_no h s hs hT).mono ?_
    rintro e w' ⟨rfl, rfl⟩
    exact ⟨rfl, ⟨n, by rw [updT_id hT]; exact h, Nat.le_refl _⟩, Only.refl X w, rfl⟩
  · cases n with
    | zero => rw [h.zero s] at hT; cases hT
    | succ n =>
      refine (Free_yes_m h s t hs hT hn).mono ?_
      rintro e w' ⟨rfl, hc, ho, hx⟩
      exact ⟨rfl, ⟨n, hc, Nat.le_succ n⟩, ho, hx⟩
theorem Hold_m (h : Ck w X c L n T) (s : ByteArray) (t : Int) (hs : s.size ≤ maxLen) (hn : n ≤ 4398046511103) : Calls Try.prog 15 #[.pointer (some ⟨c, 0, none⟩), .string s, .int .i64 t] w fun e w' => e = .returned (.int .i64 (if isTime t = true then 0 else 2)) ∧ (∃ n', Ck w' (Xt X w w') c L n' (holdT T s t) ∧ n' ≤ n + 1) ∧ Only X w w' ∧ w'.cell? ⟨c, 2, none⟩ = w.cell? ⟨c, 2, none⟩ := by
  have xw : ∀ {w'}, Only X w w' → ∀ {n' T'}, Ck w' X c L n' T' → Ck w' (Xt X w w') c L n' T' := fun ho _ _ hc => hc.wide (fun k hk => .inl hk) (fun k hk => by
    rcases hk with h1 | h1
    · exact Nat.lt_of_lt_of_le (h.xl k h1) ho.size
    · exact h1.2)
  unfold holdT
  rcases ht : isTime t with _ | _
  · refine (Hold_bad h s t ht).mono ?_
    rintro e w' ⟨rfl, rfl⟩
    exact ⟨rfl, ⟨n, xw (Only.refl X w) h, Nat.le_succ n⟩, Only.refl X w, rfl⟩
  · rcases hT : T s with _ | t0
    · refine (Hold_new_m h s t hs hT ht hn).mono ?_
      rintro e w' ⟨rfl, hc, ho, hx⟩
      exact ⟨rfl, ⟨n + 1, hc, Nat.le_refl _⟩, ho, hx⟩
    · refine (Hold_old_m h s t t0 hs hT ht (by omega)).mono ?_
      rintro e w' ⟨rfl, hc, ho, hx⟩
      exact ⟨rfl, ⟨n, xw ho hc, Nat.le_succ n⟩, ho, hx⟩
theorem Set_m (h : Ck w X c L n T) (s t : Int) : Calls Try.prog 13 #[.pointer (some ⟨c, 0, none⟩), .int .i64 s, .int .i64 t] w fun e w' => e = .returned (setR L s t) ∧ Ck w' X c (setL L s t) n T ∧ Only X w w' ∧ w'.cell? ⟨c, 2, none⟩ = w.cell? ⟨c, 2, none⟩ := by
  by_cases hh : 0 ≤ s ∧ s < (L.length : Int) ∧ isTime t = true
  · obtain ⟨k, rfl⟩ : ∃ k : Nat, s = (k : Int) := ⟨s.toNat, by omega⟩
    have e1 : setL L (k : Int) t = L.set k (max (L.getD k 0) t) := by unfold setL; rw [if_pos hh, Int.toNat_natCast]
    unfold setR
    rw [if_pos hh, e1]
    exact Set_yes_m h k t (by omega) hh.2.2
  · have e1 : setL L s t = L := by unfold setL; rw [if_neg hh]
    unfold setR
    rw [if_neg hh, e1]
    refine (Set_no h s t hh).mono ?_
    rintro e w' ⟨rfl, rfl⟩
    exact ⟨rfl, h, Only.refl X w, rfl⟩
/-- A block that is a clock's: its map of names, or cells, and where they are a hold's: three. -/
def Tame (w : World) (nb k : Nat) : Prop := k = nb ∨ ∃ cs t, w.heap[k]? = some (.cells cs t (0, 0)) ∧ (t = 82 → cs.size = 3)
theorem own_cells {base : Nat} {e : TypeId} {size m : Nat} {v : Value} {xs : List Value} (h : w.ownsRow base e size v m xs) {r : Nat} (hr : v.ownBlock = some r) : ∃ cs, w.heap[r]? = some (.cells cs e (0, 0)) := by
  rcases h.2 with ⟨rfl, _⟩ | ⟨g, cap, cur, rfl, _, hg, _⟩
  · cases hr
  · cases hr; exact ⟨cur, hg⟩
/-- A clock's blocks, as few as they are. -/
theorem Ck.tame (h : Ck w X c L n T) : ∃ nb Y, w.cell? ⟨c, 2, none⟩ = some (.map (some nb)) ∧ X nb ∧ Ck w Y c L n T ∧ (∀ k, Y k → X k) ∧ (∀ k, Y k → Tame w nb k) := by
  obtain ⟨XH, mv, v, nb, f, nm, tm, N, hh⟩ := h
  have tc : ∀ {g : Nat} {t : TypeId} {cs : Array Value}, Bk w g t cs → (t = 82 → cs.size = 3) → Tame w nb g := fun hb ht => .inr ⟨_, _, hb, ht⟩
  have tr : ∀ {base : Nat} {e : TypeId} {size m : Nat} {v : Value} {xs : List Value}, w.ownsRow base e size v m xs → e ≠ 82 → ∀ r, v.ownBlock = some r → Tame w nb r := fun ho he r hr => by
    obtain ⟨cs, hc⟩ := own_cells ho hr
    exact .inr ⟨cs, _, hc, fun e => absurd e he⟩
  refine ⟨nb, fun k => X k ∧ Tame w nb k, hh.hs.blk.cell 2, hh.px, ⟨fun k => XH k ∧ Tame w nb k, mv, v, nb, f, nm, tm, N, ⟨hh.hs.blk, hh.hs.own, hh.hs.ent, hh.hs.inj, ⟨hh.hs.xc, tc hh.hs.blk (fun e => absurd e (by decide))⟩, fun r e => ⟨hh.hs.xv r e, tr hh.hs.own (by decide) r e⟩, fun k hk => ⟨hh.hs.xf k hk, tc (hh.hs.ent k hk) (fun _ => rfl)⟩⟩,
    fun k hk => ⟨hh.sub k hk.1, hk.2⟩, fun r e hx => hh.mh r e hx.1, fun hx => hh.ph hx.1, hh.hp, hh.mks, fun r e => ⟨hh.mx r e, tr hh.mks (by decide) r e⟩, hh.mp, ⟨hh.px, .inl rfl⟩, hh.nam, hh.tms, hh.ln, hh.lm, fun k hk => hh.xl k hk.1⟩, fun k hk => hk.1, fun k hk => hk.2⟩
end
end Go.Proofs.Ytdndljbagjfkkaa
