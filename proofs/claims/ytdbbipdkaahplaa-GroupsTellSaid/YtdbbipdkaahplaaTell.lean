/- The walk of the law GroupsTell. -/
import Derived.Test.YtdbbipdkaahplaaKnown
namespace Go.Proofs.Ytdbbipdkaahplaa
open Go.RowKit

set_option maxRecDepth 100000 in
set_option maxHeartbeats 1000000 in
theorem tell_any (s : ByteArray) (n p g : Int) (w : World) (hs : s.size ≤ maxLen) :
    Calls Try.prog 6 #[.string s, .agg #[.int .i64 n, .int .i64 p, .int .i64 g]] w fun e w' => e = .returned (.bool true) ∧ Below w.heap.size w w' := by
  have HS := Lib.hid hs
  clear hs
  go_enter Try.func6, Try.ntmps6
  go_wp2_with (first
    | (go_at_call 16; (with_reducible refine (Group_any _ _ _ HS.out).mono ?_); rintro e w' ⟨rfl, rfl⟩)
    | (go_at_call 19; (with_reducible refine (refGroup_any _ _ _ HS.out).mono ?_); rintro e w' ⟨rfl, rfl⟩)
    | (go_at_call 17; (with_reducible refine (Stretch_any _ _ _ _).mono ?_); rintro e w1 ⟨rfl, hb1⟩)
    | (go_at_call 10; (with_reducible refine (refStretch_any _ _ _ _).mono ?_); rintro e w2 ⟨rfl, hb2⟩)
    | (go_at_call 18; (with_reducible refine (Worker_any _ _ _ _).mono ?_); rintro e w3 ⟨rfl, hb3⟩)
    | (go_at_call 20; (with_reducible refine (refWorker_any _ _ _ _).mono ?_); rintro e w4 ⟨rfl, hb4⟩)
    | (go_at_call 21; (with_reducible refine (Of_any _ _ _ _ HS.out).mono ?_); rintro e w5 ⟨rfl, hb5⟩)
    | (go_at_call 22; (with_reducible refine (refOf_any _ _ _ _ HS.out).mono ?_); rintro e w6 ⟨rfl, hb6⟩)
    | (go_at_call 23; (with_reducible refine (hash_any _ _ HS.out).mono ?_); rintro e w' ⟨rfl, rfl⟩)
    | (go_at_call 24; (with_reducible refine (refHash_any _ _ HS.out).mono ?_); rintro e w' ⟨rfl, rfl⟩)
    | (go_at_call 14; (with_reducible refine (num_any _ _).mono ?_); rintro e w' ⟨rfl, rfl⟩)
    | (go_at_call 11; (with_reducible refine (known_any _).mono ?_); rintro e w7 ⟨rfl, hb7⟩)
    | go_region)
  go_ret
  exact ⟨rfl, below_trans (below_trans (below_trans (below_trans (below_trans (below_trans (below_trans ((below_trans (below_alloc w _) (below_drew _))) hb1) hb2) hb3) hb4) hb5) hb6) hb7⟩
end Go.Proofs.Ytdbbipdkaahplaa
