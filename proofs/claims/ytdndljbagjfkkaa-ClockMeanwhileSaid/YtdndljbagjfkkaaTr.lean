/- Three clocks, and the document's, in two arrays. -/
import Derived.Test.YtdndljbagjfkkaaLe
import Derived.StillTailTactics
namespace Go.Proofs.Ytdndljbagjfkkaa
open Go.RowKit Go.Lib
set_option maxRecDepth 100000 in
theorem placeN_any (n : Int) (w : World) : Calls Try.prog 28 #[.int .i64 n] w fun e w' => e = .returned (.int .i64 (n % 3)) ∧ w' = w := by
  have h1 := Int.tmod_lt_of_pos n (b := 3) (by decide)
  have h2 : -3 < n.tmod 3 := by
    have h3 := Int.tmod_lt_of_pos (-n) (b := 3) (by decide)
    rw [Int.neg_tmod] at h3; omega
  have h4 : n.tmod 3 = n % 3 ∨ n.tmod 3 = n % 3 - 3 := by
    have e1 := Int.mul_tdiv_add_tmod n 3
    omega
  have h5 : 0 ≤ n % 3 ∧ n % 3 < 3 := by omega
  obtain ⟨t, ht⟩ : ∃ t, n.tmod 3 = t := ⟨_, rfl⟩
  obtain ⟨v, hv⟩ : ∃ v, n % 3 = v := ⟨_, rfl⟩
  rw [ht] at h1 h2 h4
  rw [hv] at h4 h5 ⊢
  have hw : IntKind.i64.wrap t = t := IntWalk.i64_in _ (by omega)
  have HT := Lib.hid ht
  have HV : Hid (t = v ∨ t = v - 3) := h4
  clear hv h4
  by_cases hneg : t < 0
  · have d1 : decide (t < 0) = true := by simpa using hneg
    have e3 : t + 3 = v := by have := HV.out; omega
    have HE := Lib.hid e3
    have hb : 0 ≤ t + 3 := by omega
    clear e3
    rw [← HE.out]
    clear HV
    go_enter Try.func28, Try.ntmps28
    go_wp2
    go_ret
    exact ⟨rfl, rfl⟩
  · have d1 : decide (t < 0) = false := by simpa using hneg
    have e3 : t = v := by have := HV.out; omega
    rw [← e3]
    clear e3 HV
    go_enter Try.func28, Try.ntmps28
    go_wp2
    go_ret
    exact ⟨rfl, rfl⟩
/-- An array of three pointers. -/
def Ar (W : World) (b : Nat) (t : TypeId) (p : Nat → Option Addr) : Prop := ∃ cs, Bk W b t cs ∧ cs.size = 3 ∧ ∀ k, k < 3 → cs[k]? = some (.pointer (p k))
section
variable {w W W' : World} {b : Nat} {t : TypeId} {p : Nat → Option Addr}
theorem Ar.cell (h : Ar W b t p) {k : Nat} (hk : k < 3) : W.cell? ⟨b, k, none⟩ = some (.pointer (p k)) ∧ W.frozen? ⟨b, k, none⟩ = false := by
  obtain ⟨cs, h1, _, h3⟩ := h
  exact ⟨(h1.cell k).trans (h3 k hk), h1.frozen k⟩
theorem Ar.only {X : Nat → Prop} (h : Ar W b t p) (ho : Only X W W') (hb : ¬ X b) : Ar W' b t p := by
  obtain ⟨cs, h1, h2, h3⟩ := h
  exact ⟨cs, h1.only ho hb, h2, h3⟩
theorem Ar.lt (h : Ar W b t p) : b < W.heap.size := by
  obtain ⟨cs, h1, _⟩ := h
  exact h1.lt
theorem Ar.below (h : Ar W b t p) (hb : Below W.heap.size W W') : Ar W' b t p := h.only (Only.of_below (X := fun _ => False) hb) fun h => h
theorem Ar.set (h : Ar W b t p) {k : Nat} (hk : k < 3) (q : Option Addr) : Ar (W.setCell ⟨b, k, none⟩ (.pointer q)) b t (updF p k q) := by
  obtain ⟨cs, h1, h2, h3⟩ := h
  refine ⟨_, h1.set k _, by rw [Array.size_setIfInBounds]; exact h2, fun j hj => ?_⟩
  by_cases e : j = k
  · subst e
    rw [updF_same, Array.getElem?_setIfInBounds_self_of_lt (by omega)]
  · rw [updF_ne _ _ e, Array.getElem?_setIfInBounds_ne (by omega)]
    exact h3 j hj
theorem Ar.far (h : Ar W b t p) {a : Addr} (ha : b ≠ a.block) (u : Value) : Ar (W.setCell a u) b t p := by
  obtain ⟨cs, h1, h2, h3⟩ := h
  exact ⟨cs, h1.far ha u, h2, h3⟩
end
structure Tr (N : Nat) (w W : World) (bt br : Nat) (p r : Nat → Option Addr) (X : Nat → Nat → Prop) (B : Nat) : Prop where
  bl : Below N w W
  at_ : Ar W bt 60 p
  ar : Ar W br 61 r
  po : ∀ k, k < 3 → PO W (X k) (p k) (r k) B
  dj : ∀ j k, j < 3 → k < 3 → j ≠ k → ∀ b, X j b → ¬ X k b
  lo : ∀ k, k < 3 → ∀ b, X k b → N ≤ b
  lt : ∀ k, k < 3 → ∀ b, X k b → b < W.heap.size
  nt : ∀ k, k < 3 → ¬ X k bt ∧ ¬ X k br
  nb : N ≤ bt ∧ N ≤ br ∧ bt ≠ br ∧ N ≤ W.heap.size
section
variable {N : Nat} {w W W' : World} {bt br : Nat} {p r : Nat → Option Addr} {X : Nat → Nat → Prop} {B : Nat}
theorem Tr.below (h : Tr N w W bt br p r X B) (hb : Below W.heap.size W W') : Tr N w W' bt br p r X B :=
  ⟨h.bl.trans (hb.mono h.nb.2.2.2), h.at_.below hb, h.ar.below hb, fun k hk => (h.po k hk).below hb, h.dj, h.lo, fun k hk b hx => Nat.lt_of_lt_of_le (h.lt k hk b hx) hb.size, h.nt, h.nb.1, h.nb.2.1, h.nb.2.2.1, Nat.le_trans h.nb.2.2.2 hb.size⟩
theorem Tr.more {B' : Nat} (h : Tr N w W bt br p r X B) (hb : B ≤ B') : Tr N w W bt br p r X B' :=
  ⟨h.bl, h.at_, h.ar, fun k hk => (h.po k hk).more hb, h.dj, h.lo, h.lt, h.nt, h.nb⟩
theorem Tr.played (h : Tr N w W bt br p r X B) {u : Nat} (hu : u < 3) {B' : Nat} (hB : B ≤ B') (hp : PO W' (Xt (X u) W W') (p u) (r u) B') (ho : Only (X u) W W') : Tr N w W' bt br p r (updF X u (Xt (X u) W W')) B' := by
  have hs := ho.size
  have far : ∀ k b, k < 3 → k ≠ u → X k b → ¬ Xt (X u) W W' b := fun k b hk hne hx => by
    rintro (h1 | h1)
    · exact h.dj k u hk hu hne b hx h1
    · have := h.lt k hk b hx; omega
  have hbt := h.at_.lt
  have hbr := h.ar.lt
  refine ⟨h.bl.trans (ho.below (h.lo u hu) h.nb.2.2.2), h.at_.only ho (h.nt u hu).1, h.ar.only ho (h.nt u hu).2, fun k hk => ?_, fun j k hj hk hne b hx => ?_, fun k hk b hx => ?_, fun k hk b hx => ?_, fun k hk => ?_, h.nb.1, h.nb.2.1, h.nb.2.2.1, Nat.le_trans h.nb.2.2.2 hs⟩
  · by_cases e : k = u
    · subst e; rw [updF_same]; exact hp
    · rw [updF_ne _ _ e]
      exact ((h.po k hk).keep ho fun b hx => h.dj k u hk hu e b hx).more hB
  · by_cases e : j = u
    · subst e
      rw [updF_same] at hx
      rw [updF_ne _ _ (Ne.symm hne)]
      exact fun hx2 => far k b hk (Ne.symm hne) hx2 hx
    · rw [updF_ne _ _ e] at hx
      by_cases e2 : k = u
      · subst e2; rw [updF_same]; exact far j b hj e hx
      · rw [updF_ne _ _ e2]; exact h.dj j k hj hk hne b hx
  · by_cases e : k = u
    · subst e
      rw [updF_same] at hx
      rcases hx with hx | hx
      · exact h.lo _ hk b hx
      · exact Nat.le_trans h.nb.2.2.2 hx.1
    · rw [updF_ne _ _ e] at hx; exact h.lo k hk b hx
  · by_cases e : k = u
    · subst e
      rw [updF_same] at hx
      rcases hx with hx | hx
      · exact Nat.lt_of_lt_of_le (h.lt _ hk b hx) hs
      · exact hx.2
    · rw [updF_ne _ _ e] at hx; exact Nat.lt_of_lt_of_le (h.lt k hk b hx) hs
  · by_cases e : k = u
    · subst e
      rw [updF_same]
      exact ⟨fun hx => by rcases hx with hx | hx; exact (h.nt _ hk).1 hx; omega, fun hx => by rcases hx with hx | hx; exact (h.nt _ hk).2 hx; omega⟩
    · rw [updF_ne _ _ e]; exact h.nt k hk
theorem Tr.copied (h : Tr N w W bt br p r X B) {u : Nat} (hu : u < 3) {W1 W3 : World} {p' r' : Option Addr} {Xn : Nat → Prop} (h1 : Below W.heap.size W W1) (h3 : Below W1.heap.size (W1.setCell ⟨bt, u, none⟩ (.pointer p')) W3) (hpo : PO W3 Xn p' r' B) (hX : ∀ b, Xn b → W.heap.size ≤ b ∧ b < W3.heap.size) :
    Tr N w (W3.setCell ⟨br, u, none⟩ (.pointer r')) bt br (updF p u p') (updF r u r') (updF X u Xn) B := by
  have hbt := h.at_.lt
  have hbr := h.ar.lt
  have hs1 := h1.size
  have hs3 := h3.size
  rw [World.size_setCell] at hs3
  have h3' : Below (W1.setCell ⟨bt, u, none⟩ (.pointer p')).heap.size (W1.setCell ⟨bt, u, none⟩ (.pointer p')) W3 := by rw [World.size_setCell]; exact h3
  have hT1 := h.below h1
  have hsz : (W3.setCell ⟨br, u, none⟩ (.pointer r')).heap.size = W3.heap.size := by simp
  -- what the two stores and the two calls leave alone
  have ho2 : Only (fun b => b = bt) W1 (W1.setCell ⟨bt, u, none⟩ (.pointer p')) := Only.set (X := fun b => b = bt) ⟨bt, u, none⟩ _ rfl W1
  have ho3 : Only (fun b => b = bt) W1 W3 := ho2.then (Only.of_below h3')
  have ho4 : Only (fun b => b = bt ∨ b = br) W1 (W3.setCell ⟨br, u, none⟩ (.pointer r')) := (ho3.wide fun b hb => .inl (.inl hb)).then (Only.set (X := fun b => b = bt ∨ b = br) ⟨br, u, none⟩ _ (.inr rfl) W3)
  have hlo : ∀ b, (b = bt ∨ b = br) → N ≤ b := fun b hb => by
    rcases hb with rfl | rfl
    · exact h.nb.1
    · exact h.nb.2.1
  refine ⟨hT1.bl.trans (ho4.below hlo hT1.nb.2.2.2), ?_, ?_, fun k hk => ?_, fun j k hj hk hne b hx => ?_, fun k hk b hx => ?_, fun k hk b hx => ?_, fun k hk => ?_, h.nb.1, h.nb.2.1, h.nb.2.2.1, by rw [hsz]; have := h.nb.2.2.2; omega⟩
  · exact ((hT1.at_.set hu p').below h3').far (a := ⟨br, u, none⟩) h.nb.2.2.1 _
  · exact ((hT1.ar.far (a := ⟨bt, u, none⟩) (Ne.symm h.nb.2.2.1) _).below h3').set hu r'
  · by_cases e : k = u
    · subst e
      rw [updF_same, updF_same, updF_same]
      exact hpo.keep (Only.set (X := fun b => b = br) ⟨br, k, none⟩ _ rfl W3) fun b hb e => by have := hX b hb; omega
    · rw [updF_ne _ _ e, updF_ne _ _ e, updF_ne _ _ e]
      refine (hT1.po k hk).keep ho4 fun b hb e2 => ?_
      rcases e2 with rfl | rfl
      · exact (h.nt k hk).1 hb
      · exact (h.nt k hk).2 hb
  · by_cases e : j = u
    · subst e
      rw [updF_same] at hx
      rw [updF_ne _ _ (Ne.symm hne)]
      intro hx2
      have a1 := hX b hx
      have a2 := h.lt k hk b hx2
      omega
    · rw [updF_ne _ _ e] at hx
      by_cases e2 : k = u
      · subst e2; rw [updF_same]; intro hx2; have a1 := hX b hx2; have a2 := h.lt j hj b hx; omega
      · rw [updF_ne _ _ e2]; exact h.dj j k hj hk hne b hx
  · by_cases e : k = u
    · subst e; rw [updF_same] at hx; have := hX b hx; have := h.nb.2.2.2; omega
    · rw [updF_ne _ _ e] at hx; exact h.lo k hk b hx
  · rw [hsz]
    by_cases e : k = u
    · subst e; rw [updF_same] at hx; exact (hX b hx).2
    · rw [updF_ne _ _ e] at hx; have := h.lt k hk b hx; omega
  · by_cases e : k = u
    · subst e; rw [updF_same]; exact ⟨fun hx => by have := hX _ hx; omega, fun hx => by have := hX _ hx; omega⟩
    · rw [updF_ne _ _ e]; exact h.nt k hk
end
/-- A clock and the document's, both just made. -/
theorem PrS.made {wc wr w1 w2 w3 w4 W : World} {c d : Nat} {L : List Int} {T : ByteArray → Option Int} {H : List Hd} {n B : Nat} (hc : Ck wc (Nw w1 w2) c L n T) (hr : Rc wr (Nw w3 w4) d L H) (ht : HT H T) (hok : ∀ x ∈ H, x.name.size ≤ maxLen ∧ isTime x.tm = true) (h23 : w2.heap.size ≤ w3.heap.size) (hb2 : Below wc.heap.size wc W) (hb4 : Below wr.heap.size wr W) (hn : n ≤ B) (hH : H.length ≤ B) :
    ∃ nb, PrS W (fun k => Nw w1 w2 k ∨ Nw w3 w4 k) c d nb L H B := by
  obtain ⟨mv, v, nb, _, _, h2, _⟩ := hc.cells
  refine ⟨nb, ⟨T, ht, _, _, n, hc.below hb2, hr.below hb4, hn, hH, fun k hk hk2 => ?_, fun k hk => .inl hk, fun k hk => .inr hk, fun k hk => ?_, (hb2.cell (p := ⟨c, 2, none⟩) (Clock.block_lt h2)).trans h2⟩, hok⟩
  · have a1 := hk.2; have a2 := hk2.1; omega
  · rcases hk with hk | hk
    · exact Nat.lt_of_lt_of_le (hc.xl k hk) hb2.size
    · exact Nat.lt_of_lt_of_le (hr.xl k hk) hb4.size
end Go.Proofs.Ytdndljbagjfkkaa
