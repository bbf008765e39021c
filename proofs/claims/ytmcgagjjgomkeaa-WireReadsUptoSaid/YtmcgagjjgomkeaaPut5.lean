/- puts, whatever is written. -/
import Derived.Test.YtmcgagjjgomkeaaPut2
import Derived.Test.YtmcgagjjgomkeaaPut4
namespace Go.Proofs.Ytmcgagjjgomkeaa
open Go.RowKit Go.Lib

/-- How much is written at most. -/
def Pt.size (p : Pt) : Nat := p.b.length + p.text.size + 10 * p.l.length + 60
theorem rk_length (l : List Int) (hI : ∀ a ∈ l, I64 a) (hR : Rises l) : ∀ k, k ≤ l.length → (rk l k).length ≤ 10 * k
  | 0, _ => by simp [rk]
  | k + 1, hk => by
    rw [rk_succ, List.length_append]
    have h1 := rk_length l hI hR k (by omega)
    have h2 : (relt l k).length ≤ 10 := by
      obtain ⟨x, hx⟩ : ∃ x, l[k]? = some x := ⟨_, List.getElem?_eq_getElem (by omega)⟩
      have hxr := hI x (List.mem_of_getElem? hx)
      unfold relt
      split
      · rename_i h0
        subst h0
        rw [List.getD, hx]
        exact num7_le _ (zig_lt hxr.1 hxr.2)
      · rename_i h0
        obtain ⟨j, rfl⟩ : ∃ j, k = j + 1 := ⟨k - 1, by omega⟩
        obtain ⟨y, hy⟩ : ∃ y, l[j]? = some y := ⟨_, List.getElem?_eq_getElem (by omega)⟩
        have hyr := hI y (List.mem_of_getElem? hy)
        rw [List.getD, hx, List.getD, Nat.add_sub_cancel, hy]
        refine num7_le _ ?_
        have := hxr.2; have := hyr.1
        show (x - y - 1).toNat < _
        omega
    omega
theorem ris_length (l : List Int) (hI : ∀ a ∈ l, I64 a) (hR : Rises l) (hl : l.length < 18446744073709551616) : (ris l).length ≤ 10 + 10 * l.length := by
  unfold ris
  rw [List.length_append]
  have := rk_length l hI hR l.length (Nat.le_refl _)
  have := num7_le l.length hl
  omega
/-- The value in memory, at the law's start. -/
def Pv (W0 : World) (p : Pt) (vp : Value) : Prop := ∃ A c A2 c2, vp = .agg (ptv p.kind p.x p.text A p.b.length c A2 p.l.length c2) ∧ Rd W0 (.slice A p.b.length c) p.b.length (bc p.b) ∧ Rd W0 (.slice A2 p.l.length c2) p.l.length (ic p.l) ∧ (∀ a ∈ p.l, I64 a) ∧ p.x < 18446744073709551616 ∧ p.size ≤ 1099511627776
theorem Pt.form_length {p : Pt} (hI : ∀ a ∈ p.l, I64 a) (hx : p.x < 18446744073709551616) (hs : p.size ≤ 1099511627776) : p.form.length ≤ p.size := by
  unfold Pt.size at *
  unfold Pt.form
  have h1 := num7_le p.x hx
  have h2 := num7_le (zig (i64of p.x)) (zig_lt (i64of_I64 hx).1 (i64of_I64 hx).2)
  have h3 := num7_le p.text.size (by omega)
  split
  · omega
  · split
    · omega
    · split
      · omega
      · split
        · rw [List.length_append]
          have : p.text.data.toList.length = p.text.size := by simp
          omega
        · split
          · simp [fix4]
          · split
            · split
              · rename_i hR
                have := ris_length p.l hI hR (by omega)
                omega
              · simp
            · simp
theorem rd_own {w : World} {B : Nat} {rv : Value} {xs : List UInt8} (h : w.ownsRow B 5 1 rv xs.length (bc xs)) : ∃ Ar cr, rv = .slice Ar xs.length cr ∧ Rd w (.slice Ar xs.length cr) xs.length (bc xs) := by
  obtain ⟨A, c, rfl, _, _⟩ := ownsRow_shape h
  exact ⟨A, c, rfl, Rd.of_owns h⟩
theorem puts_any (W0 : World) (B g : Nat) (v vp : Value) (bs : List UInt8) (p : Pt) (W : World) (hw : Wr W B g v bs) (hB : B ≤ W.heap.size) (hn : bs.length + p.size ≤ 140737488355328)
    (h0 : Below W0.heap.size W0 W) (hg0 : W0.heap.size ≤ g) (hB0 : W0.heap.size ≤ B) (hp : Pv W0 p vp) :
    Calls Try.prog 13 #[.pointer (some ⟨g, 0, none⟩), vp] W fun e w' => ∃ Ar cr v', e = .returned (.tuple #[.slice Ar p.form.length cr, .bool true]) ∧ Wr w' B g v' (bs ++ p.form) ∧ Wch W w' g v v' ∧ Rd w' (.slice Ar p.form.length cr) p.form.length (bc p.form) := by
  obtain ⟨A, c, A2, c2, rfl, hb, hl, hI, hx, hs⟩ := hp
  have own : ∀ (F : List UInt8), p.form = F → (Calls Try.prog 13 #[.pointer (some ⟨g, 0, none⟩), .agg (ptv p.kind p.x p.text A p.b.length c A2 p.l.length c2)] W fun e w' => ∃ rv v', e = .returned (.tuple #[rv, .bool true]) ∧ Wr w' B g v' (bs ++ F) ∧ Wch W w' g v v' ∧ w'.ownsRow W.heap.size 5 1 rv F.length (bc F)) →
      Calls Try.prog 13 #[.pointer (some ⟨g, 0, none⟩), .agg (ptv p.kind p.x p.text A p.b.length c A2 p.l.length c2)] W fun e w' => ∃ Ar cr v', e = .returned (.tuple #[.slice Ar p.form.length cr, .bool true]) ∧ Wr w' B g v' (bs ++ p.form) ∧ Wch W w' g v v' ∧ Rd w' (.slice Ar p.form.length cr) p.form.length (bc p.form) := by
    intro F hF h
    rw [hF]
    refine h.mono ?_
    rintro e w' ⟨rv, v', rfl, h1, h2, h3⟩
    obtain ⟨Ar, cr, rfl, h4⟩ := rd_own h3
    exact ⟨Ar, cr, v', rfl, h1, h2, h4⟩
  unfold Pt.size at hn hs
  by_cases k1 : p.kind = 1
  · have hF : p.form = p.b := by unfold Pt.form; rw [if_pos k1]
    rw [k1, hF]
    refine (puts_1 W0 B g p.x v bs p.b p.text A p.b.length c A2 p.l.length c2 W hw hB (by omega) h0 hg0 hB0 hb rfl).mono ?_
    rintro e w' ⟨v', rfl, h1, h2⟩
    exact ⟨A, c, v', rfl, h1, h2, hb.below (h0.trans (h2.below h0.size hg0 (fun r e => Nat.le_trans hB0 (own_lt hw.own e).1)))⟩
  by_cases k2 : p.kind = 2
  · refine own (num7 p.x) (by unfold Pt.form; rw [if_neg k1, if_pos k2]) ?_
    rw [k2]
    exact puts_2 B g p.x v bs p.text A p.b.length c A2 p.l.length c2 W hw hB hx (by omega)
  by_cases k3 : p.kind = 3
  · refine own (num7 (zig (i64of p.x))) (by unfold Pt.form; rw [if_neg k1, if_neg k2, if_pos k3]) ?_
    rw [k3]
    exact puts_3 B g p.x v bs p.text A p.b.length c A2 p.l.length c2 W hw hB hx (by omega)
  by_cases k4 : p.kind = 4
  · refine own (num7 p.text.size ++ p.text.data.toList) (by unfold Pt.form; rw [if_neg k1, if_neg k2, if_neg k3, if_pos k4]) ?_
    rw [k4]
    exact puts_4 B g p.x v bs p.text A p.b.length c A2 p.l.length c2 W hw hB (by omega)
  by_cases k5 : p.kind = 5
  · refine own (fix4 (p.x % 4294967296)) (by unfold Pt.form; rw [if_neg k1, if_neg k2, if_neg k3, if_neg k4, if_pos k5]) ?_
    rw [k5]
    exact puts_5 B g p.x v bs p.text A p.b.length c A2 p.l.length c2 W hw hB _ rfl (by omega)
  by_cases k6 : p.kind = 6
  · by_cases hR : Rises p.l
    · refine own (ris p.l) (by unfold Pt.form; rw [if_neg k1, if_neg k2, if_neg k3, if_neg k4, if_neg k5, if_pos k6, if_pos hR]) ?_
      rw [k6]
      exact puts_6yes W0 B g p.x v bs p.l p.text A p.b.length c A2 p.l.length c2 W hw hB (by omega) (by omega) h0 hg0 hB0 hl rfl hI hR
    · have hF : p.form = [] := by unfold Pt.form; rw [if_neg k1, if_neg k2, if_neg k3, if_neg k4, if_neg k5, if_pos k6, if_neg hR]
      rw [k6, hF]
      refine (puts_6no W0 B g p.x v bs p.l p.text A p.b.length c A2 p.l.length c2 W hw hB (by omega) (by omega) h0 hg0 hB0 hl rfl hI hR).mono ?_
      rintro e w' ⟨rfl, v', h1, h2⟩
      exact ⟨none, 0, v', rfl, by rw [List.append_nil]; exact h1, h2, none, 0, rfl, Nat.le_refl _, by decide, fun h => by simp at h⟩
  have hF : p.form = [] := by unfold Pt.form; rw [if_neg k1, if_neg k2, if_neg k3, if_neg k4, if_neg k5, if_neg k6]
  rw [hF]
  refine (puts_no B g p.x p.kind v bs p.text A p.b.length c A2 p.l.length c2 W hw k1 k2 k3 k4 k5 k6).mono ?_
  rintro e w' ⟨rfl, h1, h2⟩
  exact ⟨none, 0, v, rfl, by rw [List.append_nil]; exact h1, h2, none, 0, rfl, Nat.le_refl _, by decide, fun h => by simp at h⟩
end Go.Proofs.Ytmcgagjjgomkeaa
