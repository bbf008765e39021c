/- Two writers and what is wanted of them. -/
import Derived.Test.YtmcgagjjgomkeaaEls
namespace Go.Proofs.Ytmcgagjjgomkeaa
open Go.RowKit Go.Lib

/-- Two slices that share no block. -/
def Ap (x y : Value) : Prop := ∀ r, x.ownBlock = some r → y.ownBlock ≠ some r
theorem Ap.symm {x y : Value} (h : Ap x y) : Ap y x := fun r hy hx => h r hx hy
theorem Ap.or {x y : Value} (h : Ap x y) : x.ownBlock = none ∨ x.ownBlock ≠ y.ownBlock := by
  rcases hx : x.ownBlock with _ | r
  · exact .inl rfl
  · exact .inr (fun e => h r hx e.symm)
theorem Ap.new {x y : Value} {n : Nat} (hx : ∀ r, x.ownBlock = some r → n ≤ r) (hy : ∀ r, y.ownBlock = some r → r < n) : Ap x y := fun r h1 h2 => by have := hx r h1; have := hy r h2; omega
def upd {α : Type} (f : Nat → α) (k : Nat) (x : α) (i : Nat) : α := if i = k then x else f i
theorem upd_same {α : Type} (f : Nat → α) (k : Nat) (x : α) : upd f k x k = x := by unfold upd; rw [if_pos rfl]
theorem upd_ne {α : Type} (f : Nat → α) {k i : Nat} (x : α) (h : i ≠ k) : upd f k x i = f i := by unfold upd; rw [if_neg h]
structure Ws (W w : World) (ca cb cw : Nat) (g : Nat → Nat) (v u al : Nat → Value) (bs us : Nat → List UInt8) : Prop where
  wr : ∀ i, i < 2 → Wr w W.heap.size (g i) (v i) (bs i)
  ow : ∀ i, i < 2 → w.ownsRow W.heap.size 5 1 (u i) (us i).length (bc (us i))
  ka : Bk w ca 32 #[.pointer (some ⟨g 0, 0, none⟩), .pointer (some ⟨g 1, 0, none⟩)]
  kb : Bk w cb 33 #[al 0, al 1]
  kw : Bk w cw 34 #[u 0, u 1]
  ne : ∀ i j, i < 2 → j < 2 → i ≠ j → g i ≠ g j
  vv : ∀ i j, i < 2 → j < 2 → i ≠ j → Ap (v i) (v j)
  vu : ∀ i j, i < 2 → j < 2 → Ap (v i) (u j)
  uu : ∀ i j, i < 2 → j < 2 → i ≠ j → Ap (u i) (u j)
  bel : Below W.heap.size W w
  hg : ∀ i, i < 2 → W.heap.size ≤ g i
  hcw : W.heap.size ≤ cw
section
variable {W w w' : World} {ca cb cw : Nat} {g : Nat → Nat} {v u al : Nat → Value} {bs us : Nat → List UInt8}
theorem Ws.below (h : Ws W w ca cb cw g v u al bs us) (hb : Below w.heap.size w w') : Ws W w' ca cb cw g v u al bs us :=
  ⟨fun i hi => (h.wr i hi).below hb, fun i hi => own_below (h.ow i hi) hb, h.ka.below hb, h.kb.below hb, h.kw.below hb, h.ne, h.vv, h.vu, h.uu, h.bel.trans (hb.mono h.bel.size), h.hg, h.hcw⟩
theorem Ws.put (h : Ws W w ca cb cw g v u al bs us) {k : Nat} (hk : k < 2) {v' : Value} {bs' : List UInt8} (hw : Wr w' W.heap.size (g k) v' bs') (hc : Wch w w' (g k) (v k) v') : Ws W w' ca cb cw g (upd v k v') u al (upd bs k bs') us := by
  have hb : Below W.heap.size w w' := hc.below h.bel.size (h.hg k hk) (fun r e => (own_lt (h.wr k hk).own e).1)
  have hvl : ∀ i, i < 2 → ∀ r, (v i).ownBlock = some r → r < w.heap.size := fun i hi r e => (own_lt (h.wr i hi).own e).2
  have hul : ∀ i, i < 2 → ∀ r, (u i).ownBlock = some r → r < w.heap.size := fun i hi r e => (own_lt (h.ow i hi) e).2
  have hap : ∀ x : Value, Ap (v k) x → (∀ r, x.ownBlock = some r → r < w.heap.size) → Ap v' x := fun x hx hl r e1 e2 => by
    rcases hc.at_ r e1 with h1 | h1
    · exact hx r h1 e2
    · have := hl r e2; omega
  have hbx : ∀ {t : TypeId} {c : Nat} {cs : Array Value}, Bk w c t cs → 31 ≠ t → 5 ≠ t → Bk w' c t cs := fun hx h1 h2 => hx.wch hc (fun e => (h.wr k hk).blk.ne hx h1 e.symm) (own_bk_ne (h.wr k hk).own hx h2)
  refine ⟨fun i hi => ?_, fun i hi => own_wch (h.ow i hi) hc (own_bk_ne (h.ow i hi) (h.wr k hk).blk (by decide)) (h.vu k i hk hi).symm.or, hbx h.ka (by decide) (by decide), hbx h.kb (by decide) (by decide), hbx h.kw (by decide) (by decide), h.ne, fun i j hi hj hij => ?_, fun i j hi hj => ?_, h.uu, h.bel.trans hb, h.hg, h.hcw⟩
  · by_cases hik : i = k
    · subst hik; rw [upd_same, upd_same]; exact hw
    · rw [upd_ne _ _ hik, upd_ne _ _ hik]
      exact ⟨(h.wr i hi).blk.wch hc (h.ne i k hi hk hik) (own_bk_ne (h.wr k hk).own (h.wr i hi).blk (by decide)), own_wch (h.wr i hi).own hc (own_bk_ne (h.wr i hi).own (h.wr k hk).blk (by decide)) (h.vv i k hi hk hik).or⟩
  · by_cases hik : i = k
    · subst hik
      rw [upd_same, upd_ne _ _ (fun e => hij e.symm)]
      exact hap _ (h.vv i j hi hj hij) (hvl j hj)
    · rw [upd_ne _ _ hik]
      by_cases hjk : j = k
      · subst hjk; rw [upd_same]; exact (hap _ (h.vv j i hj hi (fun e => hij e.symm)) (hvl i hi)).symm
      · rw [upd_ne _ _ hjk]; exact h.vv i j hi hj hij
  · by_cases hik : i = k
    · subst hik; rw [upd_same]; exact hap _ (h.vu i j hi hj) (hul j hj)
    · rw [upd_ne _ _ hik]; exact h.vu i j hi hj
theorem upd_two {α : Type} (f : Nat → α) {k : Nat} (hk : k < 2) (x : α) : (#[f 0, f 1] : Array α).setIfInBounds k x = #[upd f k x 0, upd f k x 1] := by
  rcases (by omega : k = 0 ∨ k = 1) with rfl | rfl <;> rfl
theorem Ws.want (h : Ws W w ca cb cw g v u al bs us) {k : Nat} (hk : k < 2) {u' : Value} {us' : List UInt8} (hg : Grew w w' (u k) u') (ho : w'.ownsRow W.heap.size 5 1 u' us'.length (bc us')) :
    Ws W (w'.setCell ⟨cw, k, none⟩ u') ca cb cw g v (upd u k u') al bs (upd us k us') := by
  have hb : Below W.heap.size w w' := hg.below h.bel.size (fun r e => (own_lt (h.ow k hk) e).1)
  have hvl : ∀ i, i < 2 → ∀ r, (v i).ownBlock = some r → r < w.heap.size := fun i hi r e => (own_lt (h.wr i hi).own e).2
  have hul : ∀ i, i < 2 → ∀ r, (u i).ownBlock = some r → r < w.heap.size := fun i hi r e => (own_lt (h.ow i hi) e).2
  have hap : ∀ x : Value, Ap (u k) x → (∀ r, x.ownBlock = some r → r < w.heap.size) → Ap u' x := fun x hx hl r e1 e2 => by
    rcases hg.at_ r e1 with h1 | h1
    · exact hx r h1 e2
    · have := hl r e2; omega
  have hbx : ∀ {t : TypeId} {c : Nat} {cs : Array Value}, Bk w c t cs → 5 ≠ t → Bk w' c t cs := fun hx h2 => hx.grew hg (own_bk_ne (h.ow k hk) hx h2)
  have hkw := hbx h.kw (by decide)
  have far : ∀ {t : TypeId} {c : Nat} {cs : Array Value}, Bk w' c t cs → t ≠ 34 → Bk (w'.setCell ⟨cw, k, none⟩ u') c t cs := fun hx h1 => hx.far (p := ⟨cw, k, none⟩) (hx.ne hkw h1) _
  have hkeep : ∀ {x : Value} {n : Nat} {xs : List Value}, w.ownsRow W.heap.size 5 1 x n xs → Ap x (u k) → w'.ownsRow W.heap.size 5 1 x n xs := fun hx hap => hx.kept hg.only hap.or
  have hset : ∀ {x : Value} {n : Nat} {xs : List Value}, w'.ownsRow W.heap.size 5 1 x n xs → (w'.setCell ⟨cw, k, none⟩ u').ownsRow W.heap.size 5 1 x n xs := fun hx => own_set hx hkw (by decide) k u'
  refine ⟨fun i hi => ⟨far (hbx (h.wr i hi).blk (by decide)) (by decide), hset (hkeep (h.wr i hi).own (h.vu i k hi hk))⟩, fun i hi => ?_, far (hbx h.ka (by decide)) (by decide), far (hbx h.kb (by decide)) (by decide), ?_, h.ne, h.vv, fun i j hi hj => ?_, fun i j hi hj hij => ?_, (h.bel.trans hb).setCell (p := ⟨cw, k, none⟩) h.hcw _, h.hg, h.hcw⟩
  · by_cases hik : i = k
    · subst hik; rw [upd_same, upd_same]; exact hset ho
    · rw [upd_ne _ _ hik, upd_ne _ _ hik]; exact hset (hkeep (h.ow i hi) (h.uu i k hi hk hik))
  · have := hkw.set k u'
    rw [upd_two u hk u'] at this
    exact this
  · by_cases hjk : j = k
    · subst hjk; rw [upd_same]; exact (hap _ (h.vu i j hi hj).symm (hvl i hi)).symm
    · rw [upd_ne _ _ hjk]; exact h.vu i j hi hj
  · by_cases hik : i = k
    · subst hik
      rw [upd_same, upd_ne _ _ (fun e => hij e.symm)]
      exact hap _ (h.uu i j hi hj hij) (hul j hj)
    · rw [upd_ne _ _ hik]
      by_cases hjk : j = k
      · subst hjk; rw [upd_same]; exact (hap _ (h.uu j i hj hi (fun e => hij e.symm)) (hul i hi)).symm
      · rw [upd_ne _ _ hjk]; exact h.uu i j hi hj hij
theorem two_at {α : Type} (f : Nat → α) {k : Nat} (hk : k < 2) : (#[f 0, f 1] : Array α)[k]? = some (f k) := by
  rcases (by omega : k = 0 ∨ k = 1) with rfl | rfl <;> rfl
theorem Ws.cells (h : Ws W w ca cb cw g v u al bs us) {k : Nat} (hk : k < 2) : w.cell? ⟨ca, k, none⟩ = some (.pointer (some ⟨g k, 0, none⟩)) ∧ w.cell? ⟨cb, k, none⟩ = some (al k) ∧ w.cell? ⟨cw, k, none⟩ = some (u k) ∧ w.frozen? ⟨cw, k, none⟩ = false :=
  ⟨(h.ka.cell k).trans (two_at (fun k => Value.pointer (some ⟨g k, 0, none⟩)) hk), (h.kb.cell k).trans (two_at al hk), (h.kw.cell k).trans (two_at u hk), h.kw.frozen k⟩
theorem Ws.congr {bs' us' : Nat → List UInt8} (h : Ws W w ca cb cw g v u al bs us) (h1 : ∀ i, i < 2 → bs i = bs' i) (h2 : ∀ i, i < 2 → us i = us' i) : Ws W w ca cb cw g v u al bs' us' :=
  ⟨fun i hi => h1 i hi ▸ h.wr i hi, fun i hi => h2 i hi ▸ h.ow i hi, h.ka, h.kb, h.kw, h.ne, h.vv, h.vu, h.uu, h.bel, h.hg, h.hcw⟩
end
end Go.Proofs.Ytmcgagjjgomkeaa
