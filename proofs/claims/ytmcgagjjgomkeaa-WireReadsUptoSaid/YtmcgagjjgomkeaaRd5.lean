/- The reader's Fixed. -/
import Derived.Test.YtmcgagjjgomkeaaRd4
namespace Go.Proofs.Ytmcgagjjgomkeaa
open Go.RowKit Go.Lib

/-- Four bytes as a number. -/
def fx4 (a b c d : UInt8) : Nat := a.toNat + 256 * b.toNat + 65536 * c.toNat + 16777216 * d.toNat
theorem fx_step (x : Nat) (b : UInt8) (hx : x < 16777216) : bits .or .u32 ((x : Int) * 256 % 4294967296) ((b.toNat : Int) % 4294967296) = ((x * 256 + b.toNat : Nat) : Int) := by
  have hb : b.toNat < 256 := b.toNat_lt
  rw [show (x : Int) * 256 % 4294967296 = ((x * 256 : Nat) : Int) by omega, show (b.toNat : Int) % 4294967296 = ((b.toNat : Nat) : Int) by omega, u32_or_nat _ _ (by omega) (by omega)]
  congr 1
  have := Nat.two_pow_add_eq_or_of_lt (i := 8) (b := b.toNat) (by simpa using hb) x
  rw [show (2 : Nat) ^ 8 = 256 from rfl] at this
  rw [Nat.mul_comm, ← this]
theorem fx_four (a b c d : UInt8) : bits .or .u32 (bits .or .u32 (bits .or .u32 (bits .or .u32 0 ((d.toNat : Int) % 4294967296) * 256 % 4294967296) ((c.toNat : Int) % 4294967296) * 256 % 4294967296) ((b.toNat : Int) % 4294967296) * 256 % 4294967296) ((a.toNat : Int) % 4294967296) = (fx4 a b c d : Int) := by
  have ha := a.toNat_lt
  have hb := b.toNat_lt
  have hc := c.toNat_lt
  have hd := d.toNat_lt
  have h0 := fx_step 0 d (by decide)
  rw [show ((0 : Nat) : Int) * 256 % 4294967296 = 0 from rfl] at h0
  rw [h0, fx_step _ c (by omega), fx_step _ b (by omega), fx_step _ a (by omega)]
  unfold fx4
  omega
theorem ret_u32_ok {z z' : Int} (h : z = z') : Ending.returned (.tuple #[.int .u32 z, .int .i64 0]) = Ending.returned (.tuple #[.int .u32 z', .int .i64 0]) := by rw [h]
set_option maxRecDepth 100000 in
theorem RFixed_ok (B g at_ : Nat) (a b d0 d : UInt8) (v : Value) (bs : List UInt8) (w : World) (h : Rr w B g v bs at_) (hb : (bs.take (at_ + 4)).drop at_ = [a, b, d0, d]) (hn : at_ + 4 ≤ bs.length) (hmax : bs.length ≤ 140737488355328) : Calls Try.prog 57 #[.pointer (some ⟨g, 0, none⟩)] w fun e w' =>
    e = .returned (.tuple #[.int .u32 (fx4 a b d0 d : Int), .int .i64 0]) ∧ Rr w' B g v bs (at_ + 4) ∧ w.grownBy w' (some g) := by
  have HR := Lib.hid (Raw_okz B g at_ 4 v bs w h 4 rfl hn hmax)
  rw [hb] at HR
  clear h hb
  go_enter Try.func57, Try.ntmps57
  go_wp2_with (first
    | (go_at_call 50; (with_reducible refine HR.out.mono ?_); rintro e w1 ⟨v1, rfl, hr1, hg1, ho1⟩
       obtain ⟨A, c, rfl, hc, hm⟩ := ownsRow_shape ho1
       obtain ⟨q, rfl, _, _, _, _, hcells, _⟩ := ownsRow_at ho1 (by decide)
       have z0 := hcells 0 _ rfl
       have z1 := hcells 1 _ rfl
       have z2 := hcells 2 _ rfl
       have z3 := hcells 3 _ rfl
       have HR1 := Lib.hid hr1
       have HG1 := Lib.hid hg1
       clear hr1 hg1 ho1 hcells))
  refine wp_loop_rounds 5 ?_
  iterate 5 (rw [rounds_succ]; go_wp2)
  go_ret2
  exact ⟨ret_u32_ok (fx_four a b d0 d), HR1.out, HG1.out⟩
set_option maxRecDepth 100000 in
theorem RFixed_end (B g at_ : Nat) (v : Value) (bs : List UInt8) (w : World) (h : Rr w B g v bs at_) (hb : bs.length - at_ < 4) : Calls Try.prog 57 #[.pointer (some ⟨g, 0, none⟩)] w fun e w' =>
    e = .returned (.tuple #[.int .u32 0, .int .i64 110]) ∧ Below w.heap.size w w' := by
  have HR := Lib.hid (Raw_more B g at_ 4 v bs w h (by omega))
  clear h
  go_enter Try.func57, Try.ntmps57
  go_wp2_with (first
    | (go_at_call 50; (with_reducible refine HR.out.mono ?_); rintro e w1 ⟨rfl, hb1⟩; have HB1 := Lib.hid hb1; clear hb1))
  go_ret2
  exact ⟨rfl, HB1.out⟩
end Go.Proofs.Ytmcgagjjgomkeaa
