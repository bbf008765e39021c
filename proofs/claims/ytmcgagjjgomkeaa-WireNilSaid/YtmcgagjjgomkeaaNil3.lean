/- The walk of WireNil. -/
import Derived.Test.YtmcgagjjgomkeaaNil2
namespace Go.Proofs.Ytmcgagjjgomkeaa
open Go.RowKit Go.Lib

theorem hb_al {W w : World} (h : Below W.heap.size W w) (o : Obj) : Below W.heap.size W (w.alloc o) := h.trans ((below_alloc w o).mono h.size)
theorem hb_go {W w w' : World} (h : Below W.heap.size W w) (k : Below w.heap.size w w') : Below W.heap.size W w' := h.trans (k.mono h.size)
theorem hb_al_go {W w w' : World} {o : Obj} (h : Below W.heap.size W w) (k : Below (w.alloc o).heap.size (w.alloc o) w') : Below W.heap.size W w' := hb_go (hb_al h o) k
theorem Emp.nil0 {W w : World} (h : Below W.heap.size W w) : Emp W.heap.size none 1 w := ⟨h.size, .inl ⟨rfl, rfl⟩⟩
theorem Emp.new {W w : World} (h : Below W.heap.size W w) : Emp W.heap.size (some ⟨w.heap.size, 0, none⟩) 110 (w.alloc (.cells #[.slice none 0 0, .int .i64 0] 75)) :=
  ⟨(hb_al h _).size, .inr ⟨rfl, w.heap.size, rfl, h.size, ⟨Bk.new _ _ _, World.ownsRow_nil _ _ _ _, Nat.le_refl _⟩⟩⟩

set_option maxRecDepth 100000 in
set_option maxHeartbeats 2000000 in
theorem wireNil_any (W : World) : Calls Try.prog 8 #[] W fun e w' => e = .returned (.bool true) ∧ Below W.heap.size W w' := by
  have HC1 := Lib.hid W0_Byte
  have HC2 := Lib.hid W0_Number
  have HC3 := Lib.hid (W0_Signed 1 (by decide) (by decide))
  have HC4 := Lib.hid W0_Text
  have HC5 := Lib.hid W0_Fixed
  have HC6 := Lib.hid W0_Rising
  have HC7 := Lib.hid W0_Len
  have HC8 := Lib.hid W0_Bytes
  have HNUM := Lib.hid num_any
  have HK := Lib.hid known_any
  have HR := Lib.hid reads_any
  have HB0 : Hid (Below W.heap.size W W) := Below.refl _ _
  go_enter Try.func8, Try.ntmps8
  go_wp2_with (first
    | (go_at_call 20; (with_reducible refine (HNUM.out _ _).mono ?_); rintro e w ⟨rfl, rfl⟩)
    | (go_at_call 32; (with_reducible refine (HC1.out _ _ _ _).mono ?_); rintro e w1 ⟨rfl, hb⟩; have HB1 := Lib.hid (hb_al_go HB0.out hb); clear hb)
    | (go_at_call 21; (with_reducible refine (HC2.out _ _).mono ?_); rintro e w2 ⟨rfl, hb⟩; have HB2 := Lib.hid (hb_go HB1.out hb); clear hb)
    | (go_at_call 33; (with_reducible refine (HC3.out _).mono ?_); rintro e w3 ⟨rfl, hb⟩; have HB3 := Lib.hid (hb_go HB2.out hb); clear hb)
    | (go_at_call 23; (with_reducible refine (HC4.out _ _).mono ?_); rintro e w4 ⟨rfl, hb⟩; have HB4 := Lib.hid (hb_go HB3.out hb); clear hb)
    | (go_at_call 34; (with_reducible refine (HC5.out _).mono ?_); rintro e w5 ⟨rfl, hb⟩; have HB5 := Lib.hid (hb_go HB4.out hb); clear hb)
    | (go_at_call 25; (with_reducible refine (HC6.out _ _ _ w5).mono ?_); rintro e w6 ⟨rfl, hb⟩; have HB6 := Lib.hid (hb_go HB5.out hb); clear hb)
    | (go_at_call 25; (with_reducible refine (HC6.out _ _ _ _).mono ?_); rintro e w7 ⟨rfl, hb⟩; have HB7 := Lib.hid (hb_al_go HB6.out hb); clear hb)
    | (go_at_call 14; (with_reducible refine (HC7.out _).mono ?_); rintro e w ⟨rfl, rfl⟩)
    | (go_at_call 15; (with_reducible refine (HC8.out _).mono ?_); rintro e w ⟨rfl, rfl⟩)
    | (go_at_call 35; (with_reducible refine (HR.out W.heap.size none 1 w7 (Emp.nil0 HB7.out)).mono ?_); rintro e w8 ⟨rfl, hb⟩; have HB8 := Lib.hid (HB7.out.trans hb); clear hb)
    | (go_at_call 35; (with_reducible refine (HR.out W.heap.size _ 110 _ (Emp.new HB8.out)).mono ?_); rintro e w9 ⟨rfl, hb⟩; have HB9 := Lib.hid ((hb_al HB8.out _).trans hb); clear hb)
    | (go_at_call 11; (with_reducible refine (HK.out _).mono ?_); rintro e w10 ⟨rfl, hb⟩; have HB10 := Lib.hid (hb_go HB9.out hb); clear hb))
  go_ret
  exact ⟨rfl, HB10.out⟩
end Go.Proofs.Ytmcgagjjgomkeaa
