/- The writer's other methods: Byte, Signed, Text, Fixed; NewWriter, Len. -/
import Derived.Test.YtaechgnjdjijkaaWr
import Derived.Test.YtaechgnjdjijkaaStrApp
namespace Go.Proofs.Ytaechgnjdjijkaa
open Go.RowKit Go.Lib

theorem strCells_bc (s : ByteArray) : strCells s = bc s.data.toList := rfl

set_option maxRecDepth 100000 in
theorem NewWriter_any (w : World) : Calls Try.prog 51 #[] w fun e w' => e = .returned (.pointer (some ⟨w.heap.size, 0, none⟩)) ∧ w.alloc (.cells #[.slice none 0 0] 133) = w' := by
  go_enter Try.func51, Try.ntmps51
  go_wp2
  go_ret
  exact ⟨rfl, rfl⟩
theorem wr_new (w : World) (B : Nat) : Wr (w.alloc (.cells #[.slice none 0 0] 133)) B w.heap.size (.slice none 0 0) [] := ⟨Bk.new _ _ _, World.ownsRow_nil _ _ _ _⟩

theorem Signed_any (B g : Nat) (x : Int) (v : Value) (bs : List UInt8) (W : World) (hw : Wr W B g v bs) (hB : B ≤ W.heap.size) (h1 : -9223372036854775808 ≤ x) (h2 : x ≤ 9223372036854775807) (hn : bs.length + 20 ≤ 140737488355328) :
    Calls Try.prog 99 #[.pointer (some ⟨g, 0, none⟩), .int .i64 x] W fun e w' => e = .returned (.int .i64 0) ∧ ∃ v', Wr w' B g v' (bs ++ num7 (zig x)) ∧ Wch W w' g v v' := by
  have HN := Lib.hid (Number_any B g (zig x) v bs W hw hB (zig_lt h1 h2) hn)
  have HF := Lib.hid (fold_any x W h1 h2)
  clear hw
  go_enter Try.func99, Try.ntmps99
  go_wp2_with (first
    | (go_at_call 104; (with_reducible refine HF.out.mono ?_); rintro e w1 ⟨rfl, rfl⟩)
    | (go_at_call 77; (with_reducible refine HN.out.mono ?_); rintro e w2 ⟨rfl, v2, hw2, hc2⟩; have HW2 := Lib.hid hw2; have HC2 := Lib.hid hc2; clear hw2 hc2))
  go_ret
  exact ⟨rfl, v2, HW2.out, HC2.out⟩

set_option maxRecDepth 100000 in
set_option maxHeartbeats 1000000 in
theorem Text_any (B g : Nat) (s : ByteArray) (v : Value) (bs : List UInt8) (W : World) (hw : Wr W B g v bs) (hB : B ≤ W.heap.size) (hn : bs.length + s.size + 20 ≤ 140737488355328) :
    Calls Try.prog 76 #[.pointer (some ⟨g, 0, none⟩), .string s] W fun e w' => e = .returned (.int .i64 0) ∧ ∃ v', Wr w' B g v' (bs ++ (num7 s.size ++ s.data.toList)) ∧ Wch W w' g v v' := by
  obtain ⟨i0, hi0, hz0, hz1, hz2⟩ := info_parts u8Info
  have hal := below_alloc W (.cells #[.string s] 9)
  have hwa := hw.below hal
  have hsl := num7_le s.size (by omega)
  have hf : Calls Try.prog 95 #[v, .pointer (some ⟨W.heap.size, 0, none⟩)] (W.alloc (.cells #[.string s] 9)) fun e w' => ∃ v', e = .returned v' ∧ Grew (W.alloc (.cells #[.string s] 9)) w' v v' ∧ w'.ownsRow B 5 1 v' (bs ++ (num7 s.size ++ s.data.toList)).length (bc (bs ++ (num7 s.size ++ s.data.toList))) := by
    have HBK : Hid (Bk (W.alloc (.cells #[.string s] 9)) W.heap.size 9 #[.string s]) := Bk.new _ _ _
    have HNE : Hid (v.ownBlock ≠ some W.heap.size) := own_bk_ne hwa.own HBK.out (by decide)
    have HC : Hid ((bs ++ (num7 s.size ++ s.data.toList)).length = bs.length + (num7 s.size).length + s.size ∧ bc (bs ++ (num7 s.size ++ s.data.toList)) = bc bs ++ bc (num7 s.size) ++ strCells s) := ⟨by simp [Nat.add_assoc], by rw [bc_append, bc_append, ← List.append_assoc]; rfl⟩
    have hbs : B ≤ (W.alloc (.cells #[.string s] 9)).heap.size := by simp; omega
    have x0 : (W.alloc (.cells #[.string s] 9)).cell? ⟨W.heap.size, 0, none⟩ = some (.string s) := HBK.out.cell 0
    have hss : (s.size : Int) ≤ 9223372036854775807 := by omega
    have hss0 : (0 : Int) ≤ (s.size : Int) := by omega
    obtain ⟨w0, hw0⟩ : ∃ w0, W.alloc (.cells #[.string s] 9) = w0 := ⟨_, rfl⟩
    rw [hw0] at HBK hbs x0 hwa ⊢
    have HN : Hid (∀ W1, Below w0.heap.size w0 W1 → Calls Try.prog 96 #[v, .int .u64 (IntKind.u64.wrap ((s.size : Nat) : Int))] W1 fun e w' => ∃ v', e = .returned v' ∧ Grew W1 w' v v' ∧ w'.ownsRow B 5 1 v' (bs.length + (num7 s.size).length) (bc bs ++ bc (num7 s.size))) := fun W1 hb => by
      rw [IntWalk.u64_in _ (by omega)]
      exact number_any B v bs.length s.size (bc bs) W1 (own_below hwa.own hb) (Nat.le_trans hbs hb.size) (by omega) (by omega)
    have HKS : Hid (∀ W1 v1, Hid (Grew w0 W1 v v1) → W1.cell? ⟨W.heap.size, 0, none⟩ = some (.string s)) := fun W1 v1 h => (HBK.out.grew h.out HNE.out).cell 0
    have hA1 : bs.length + (num7 s.size).length + s.size ≤ maxLen := by unfold maxLen; omega
    have hA2 : bs.length + (num7 s.size).length + s.size ≤ 140737488355328 := by omega
    have HA3 : Hid (∀ W1 v1, Grew w0 W1 v v1 → B ≤ W1.heap.size) := fun W1 v1 h => Nat.le_trans hbs h.only.size
    clear hwa hw hw0
    go_enter Try.func95, Try.ntmps95
    go_wp2
    go_region_held3 (fun W1 => W1.cell? ⟨W.heap.size, 0, none⟩ = some (.string s))
      (first
        | exact x0
        | exact HKS.out _ _ (Lib.hid (Grew.of_below (below_drew w0) v))
        | exact HKS.out _ _ HG1
        | exact HKS.out _ _ HG2)
      ((first
        | (go_at_call 96; (with_reducible refine (HN.out _ (below_drew w0)).mono ?_); rintro e w1 ⟨v1, rfl, hg1, ho1⟩; have HG1 := Lib.hid ((Grew.of_below (below_drew w0) v).trans hg1); have HO1 := Lib.hid ho1; have hs1 := hg1.only.size; clear hg1 ho1)
        | (refine step_append_str _ rfl (.tmp 8) (.tmp 9) 25 9 rfl B 5 i0 Try.underlying25 Try.underlying9 hi0 hz0 hz1 hz2 v1 (bs.length + (num7 s.size).length) _ rfl HO1.out s rfl hA1 hA2 (HA3.out _ _ HG1.out) ?_; intro v2 w2 ho2 hg2; have HG2 := Lib.hid (HG1.out.trans hg2); have HO2 := Lib.hid ho2; clear ho2 hg2)))
    go_wp2
    go_ret
    exact ⟨v2, rfl, HG2.out, by rw [HC.out.1, HC.out.2]; exact HO2.out⟩
  have HP := Lib.hid (put_Text B g W.heap.size v bs _ _ hwa hf)
  have HA := Lib.hid hal
  clear hf hwa hw hal
  go_enter Try.func76, Try.ntmps76
  go_wp2_with (first
    | (go_at_call 94; (with_reducible refine HP.out.mono ?_); rintro e w2 ⟨rfl, v2, hw2, hc2⟩; have HW2 := Lib.hid hw2; have HC2 := Lib.hid hc2; clear hw2 hc2))
  go_ret
  exact ⟨rfl, v2, HW2.out, (Wch.of_below HA.out g v).trans HC2.out⟩
end Go.Proofs.Ytaechgnjdjijkaa
