/- A map from names to holds: its laws without any talk of data. -/
import Derived.Test.YtdndljbagjfkkaaHs6
import Derived.Maps.OwnSet
import Derived.StringKeys
namespace Go.Proofs.Ytdndljbagjfkkaa
open Go.RowKit Go.Lib

/-- How a pointer to a hold reads. -/
def Rh : Value → Option (DataW Unit × List MemPlace)
  | .pointer (some ⟨b, 0, none⟩) => some (.lit (.int .u64 (b : Int)), [])
  | .pointer none => some (.nil, [])
  | _ => none
theorem Rh_ptr {v : Value} {b : Nat} {ps : List MemPlace} (h : Rh v = some (.lit (.int .u64 (b : Int)), ps)) : v = .pointer (some ⟨b, 0, none⟩) := by
  unfold Rh at h
  split at h
  · simp only [Option.some.injEq, Prod.mk.injEq, DataW.lit.injEq, Lit.int.injEq, true_and] at h
    have : _ = b := Int.ofNat.inj h.1
    rw [this]
  · simp at h
  · cases h
theorem Rh_nil {v : Value} {ps : List MemPlace} (h : Rh v = some (.nil, ps)) : v = .pointer none := by
  unfold Rh at h
  split at h
  · simp at h
  · rfl
  · cases h
/-- A name as a key. -/
def kn (s : ByteArray) : Lit := .string s.data.toList
theorem kn_inj {s t : ByteArray} (h : kn s = kn t) : s = t := by
  unfold kn at h
  simp only [Lit.string.injEq] at h
  cases s; cases t
  simp only at h
  congr 1
  exact Array.toList_inj.1 h
theorem kn_key {s : ByteArray} (hs : s.size ≤ maxLen) : keyOf Try.prog 9 (.string s) = some (kn s) := Go.WideMaps.keyOf_string_mk Try.underlying9 hs
theorem kKeyed : Maps.Keyed Try.prog 9 := Maps.string_keyed Try.underlying9
theorem zHold (w : World) : (zeroValue 77).run Try.prog w = .ok (.pointer none) w := by kernel_rfl
theorem tight {w : World} {b n : Nat} {D : DataW Unit} (h : w.ownsMap Try.prog 9 Rh b n D) : w.ownsMap Try.prog 9 Rh b (Maps.size D) D := by
  obtain ⟨es, clock, h1, F, hs, rfl⟩ := h
  exact ⟨es, clock, h1, F, by simp [Maps.size, length_sorted], rfl⟩
/-- Block nb is a map of n names, each to a hold. -/
def Nm (w : World) (nb n : Nat) (N : ByteArray → Option Nat) : Prop :=
  ∃ D : DataW Unit, w.ownsMap Try.prog 9 Rh nb n D ∧ Maps.size D = n ∧ ∀ s, (N s = none → Maps.has D (kn s) = false) ∧ ∀ b, N s = some b → Maps.has D (kn s) = true ∧ ∀ z, D.atKey (kn s) z = .lit (.int .u64 (b : Int))
def updN (N : ByteArray → Option Nat) (s : ByteArray) (o : Option Nat) (t : ByteArray) : Option Nat := if t = s then o else N t
theorem updN_same (N : ByteArray → Option Nat) (s : ByteArray) (o : Option Nat) : updN N s o s = o := by simp [updN]
theorem updN_ne (N : ByteArray → Option Nat) {s t : ByteArray} (o : Option Nat) (h : t ≠ s) : updN N s o t = N t := by simp [updN, h]
section
variable {w w' : World} {nb n : Nat} {N : ByteArray → Option Nat} {X : Nat → Prop}
theorem Nm.lt (h : Nm w nb n N) : nb < w.heap.size := by obtain ⟨D, h, -⟩ := h; exact h.lt
theorem Nm.block (h : Nm w nb n N) (hb : w'.heap[nb]? = w.heap[nb]?) : Nm w' nb n N := by
  obtain ⟨D, ⟨es, clock, h1, F, hs, hD⟩, h2, h3⟩ := h
  exact ⟨D, ⟨es, clock, hb.trans h1, F, hs, hD⟩, h2, h3⟩
theorem Nm.below (h : Nm w nb n N) (hb : Below w.heap.size w w') : Nm w' nb n N := h.block (hb.block nb h.lt)
theorem Nm.only (h : Nm w nb n N) (ho : Only X w w') (hx : ¬ X nb) : Nm w' nb n N := h.block (ho.block nb h.lt hx)
/-- A map's block is no block of cells. -/
theorem Nm.ne {g : Nat} {t : TypeId} {cs : Array Value} (h : Nm w nb n N) (hb : Bk w g t cs) : nb ≠ g := by
  intro e
  subst e
  obtain ⟨D, ⟨es, clock, h1, -⟩, -⟩ := h
  have := h1.symm.trans hb
  cases this
theorem Nm.ne_own {base : Nat} {e : TypeId} {size m : Nat} {v : Value} {xs : List Value} (h : Nm w nb n N) (ho : w.ownsRow base e size v m xs) : v.ownBlock ≠ some nb := by
  rcases ho.2 with ⟨rfl, _⟩ | ⟨g', cap, cur, rfl, _, hh, _⟩
  · simp [Value.ownBlock]
  · intro e
    have : g' = nb := by simpa [Value.ownBlock] using e
    subst this
    exact h.ne (t := _) (cs := cur) hh rfl
theorem Nm.set (h : Nm w nb n N) {p : Addr} (u : Value) (hp : p.block ≠ nb) : Nm (w.setCell p u) nb n N := h.block (Below.heap_setCell _ _ _ nb (fun e => hp e.symm))
theorem Nm.made (w : World) : Nm (w.alloc (.map #[] 0)) w.heap.size 0 (fun _ => none) :=
  ⟨.map [], World.ownsMap_made w _ _ _, rfl, fun s => ⟨fun _ => rfl, fun b h => by cases h⟩⟩
theorem Nm.none_ (h : Nm w nb n N) {s : ByteArray} (hs : s.size ≤ maxLen) (hN : N s = none) : (Instr.lookup 68 (.map (some nb)) (.string s) true).run Try.prog w = .ok (.tuple #[.pointer none, .bool false]) w := by
  obtain ⟨D, h1, h2, h3⟩ := h
  have hh := (h3 s).1 hN
  obtain ⟨v, ps, hrun, hv⟩ := h1.look_ok kKeyed Try.underlying68 (zHold w) (zd := .nil) (zp := []) rfl (kn_key hs)
  rw [hh] at hrun
  rw [Maps.atKey_of_not_has hh] at hv
  rw [Rh_nil hv] at hrun
  exact hrun
theorem Nm.some_ (h : Nm w nb n N) {s : ByteArray} (hs : s.size ≤ maxLen) {b : Nat} (hN : N s = some b) : (Instr.lookup 68 (.map (some nb)) (.string s) true).run Try.prog w = .ok (.tuple #[.pointer (some ⟨b, 0, none⟩), .bool true]) w := by
  obtain ⟨D, h1, h2, h3⟩ := h
  obtain ⟨hh, hat⟩ := (h3 s).2 b hN
  obtain ⟨v, ps, hrun, hv⟩ := h1.look_ok kKeyed Try.underlying68 (zHold w) (zd := .nil) (zp := []) rfl (kn_key hs)
  rw [hh] at hrun
  rw [hat] at hv
  rw [Rh_ptr hv] at hrun
  exact hrun
theorem Nm.len (h : Nm w nb n N) (ty : TypeId) : (Builtin.len_ #[68] ty #[.map (some nb)]).run Try.prog w = .ok (.int .i64 (n : Int)) w := by
  obtain ⟨D, h1, h2, h3⟩ := h
  have := h1.len Try.underlying68 ty
  rw [h2] at this
  exact this
theorem kn_isKey (s : ByteArray) : WideAt.IsKeyLit (kn s) := by unfold kn; simp [WideAt.IsKeyLit]
theorem Nm.stored (_h : Nm w nb n N) {s : ByteArray} (hs : s.size ≤ maxLen) {b : Nat} (hN : N s = none) {D : DataW Unit} (hD : w.ownsMap Try.prog 9 Rh nb n D ∧ Maps.size D = n ∧ ∀ s, (N s = none → Maps.has D (kn s) = false) ∧ ∀ b, N s = some b → Maps.has D (kn s) = true ∧ ∀ z, D.atKey (kn s) z = .lit (.int .u64 (b : Int)))
    (h' : w'.ownsMap Try.prog 9 Rh nb (n + 1) (D.put (kn s) (.lit (.int .u64 (b : Int))))) : Nm w' nb (n + 1) (updN N s (some b)) := by
  obtain ⟨h1, h2, h3⟩ := hD
  have ht := h1.tidy kKeyed
  refine ⟨_, h', ?_, fun t => ?_⟩
  · rw [Maps.size_put ht, (h3 s).1 hN, h2]
    rfl
  · by_cases hts : t = s
    · subst hts
      rw [updN_same]
      exact ⟨fun e => (by cases e), fun b' e => by cases e; exact ⟨Maps.has_put_same ht.isMap (kn_isKey t) _, fun z => Maps.atKey_put_same ht.isMap (kn_isKey t) _ z⟩⟩
    · have hk : kn t ≠ kn s := fun e => hts (kn_inj e)
      rw [updN_ne N _ hts]
      refine ⟨fun e => ?_, fun b' e => ?_⟩
      · rw [Maps.has_put_other hk]; exact (h3 t).1 e
      · obtain ⟨k1, k2⟩ := (h3 t).2 b' e
        exact ⟨by rw [Maps.has_put_other hk]; exact k1, fun z => by rw [Maps.atKey_put_other hk]; exact k2 z⟩
theorem Nm.dropped {s : ByteArray} {b : Nat} (hN : N s = some b) {D : DataW Unit} (hD : w.ownsMap Try.prog 9 Rh nb (n + 1) D ∧ Maps.size D = n + 1 ∧ ∀ s, (N s = none → Maps.has D (kn s) = false) ∧ ∀ b, N s = some b → Maps.has D (kn s) = true ∧ ∀ z, D.atKey (kn s) z = .lit (.int .u64 (b : Int)))
    (h' : w'.ownsMap Try.prog 9 Rh nb (n + 1) (D.del (kn s))) : Nm w' nb n (updN N s none) := by
  obtain ⟨h1, h2, h3⟩ := hD
  have ht := h1.tidy kKeyed
  have hsz : Maps.size (D.del (kn s)) = n := by
    have := Maps.size_del ht (k := kn s)
    rw [((h3 s).2 b hN).1, h2] at this
    simpa using this
  have h'' := tight h'
  rw [hsz] at h''
  refine ⟨_, h'', hsz, fun t => ?_⟩
  · by_cases hts : t = s
    · subst hts
      rw [updN_same]
      exact ⟨fun _ => Maps.has_del_same, fun b' e => by cases e⟩
    · have hk : kn t ≠ kn s := fun e => hts (kn_inj e)
      rw [updN_ne N _ hts]
      refine ⟨fun e => ?_, fun b' e => ?_⟩
      · rw [Maps.has_del_other hk]; exact (h3 t).1 e
      · obtain ⟨k1, k2⟩ := (h3 t).2 b' e
        exact ⟨by rw [Maps.has_del_other hk]; exact k1, fun z => by rw [Maps.atKey_del_other hk]; exact k2 z⟩
end
end Go.Proofs.Ytdndljbagjfkkaa
