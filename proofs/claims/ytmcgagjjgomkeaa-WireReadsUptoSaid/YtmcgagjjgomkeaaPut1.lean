/- What is written by puts: the plain forms; what holds in its drawn regions. -/
import Derived.Test.YtmcgagjjgomkeaaRef3
namespace Go.Proofs.Ytmcgagjjgomkeaa
open Go.RowKit Go.Lib

/-- The int64 that a uint64's bits are. -/
def i64of (x : Nat) : Int := if x < 9223372036854775808 then (x : Int) else (x : Int) - 18446744073709551616
theorem i64of_wrap {x : Nat} (h : x < 18446744073709551616) : IntKind.i64.wrap (x : Int) = i64of x := by
  rw [IntKind.wrap_i64]; unfold i64of; split <;> omega
theorem i64of_I64 {x : Nat} (h : x < 18446744073709551616) : I64 (i64of x) := by unfold i64of I64; split <;> omega
/-- Something that is written. -/
structure Pt where
  kind : Int
  x : Nat
  text : ByteArray
  b : List UInt8
  l : List Int
open Classical in
/-- Its bytes. -/
noncomputable def Pt.form (p : Pt) : List UInt8 :=
  if p.kind = 1 then p.b else if p.kind = 2 then num7 p.x else if p.kind = 3 then num7 (zig (i64of p.x)) else if p.kind = 4 then num7 p.text.size ++ p.text.data.toList
  else if p.kind = 5 then fix4 (p.x % 4294967296) else if p.kind = 6 then (if Rises p.l then ris p.l else []) else []
/-- The value in memory. -/
def ptv (kind : Int) (x : Nat) (text : ByteArray) (A : Option Addr) (m c : Nat) (A2 : Option Addr) (m2 c2 : Nat) : Array Value := #[.int .i64 kind, .int .u64 (x : Int), .string text, .slice A m c, .slice A2 m2 c2]

structure Pp (w0 w : World) (B g cb : Nat) (v v' : Value) (bs' : List UInt8) (cs : Array Value) : Prop where
  wr : Wr w B g v' bs'
  ch : Wch w0 w g v v'
  bx : Bk w cb 39 cs
theorem Pp.below {w0 w w' : World} {B g cb : Nat} {v v' : Value} {bs' : List UInt8} {cs : Array Value} (h : Pp w0 w B g cb v v' bs' cs) (hb : Below w.heap.size w w') : Pp w0 w' B g cb v v' bs' cs :=
  ⟨h.wr.below hb, h.ch.trans (Wch.of_below hb g v'), h.bx.below hb⟩
theorem Pp.write {w0 w w' : World} {B g cb : Nat} {v v1 v2 : Value} {bs1 bs2 : List UInt8} {cs : Array Value} (h : Pp w0 w B g cb v v1 bs1 cs) (hw : Wr w' B g v2 bs2) (hc : Wch w w' g v1 v2) : Pp w0 w' B g cb v v2 bs2 cs :=
  ⟨hw, h.ch.trans hc, h.bx.wch hc (fun e => h.wr.blk.ne h.bx (by decide) e.symm) (own_bk_ne h.wr.own h.bx (by decide))⟩
/-- New bytes stay through a write. -/
theorem own_write {w0 w w' : World} {g n : Nat} {v v2 rv : Value} {xs : List Value} {e : TypeId} (ho : w.ownsRow w0.heap.size e 1 rv n xs) (hc : Wch w w' g v v2) (hg : g < w0.heap.size) (hv : ∀ r, v.ownBlock = some r → r < w0.heap.size) : w'.ownsRow w0.heap.size e 1 rv n xs := by
  refine own_wch ho hc (fun e => by have := (own_lt ho e).1; omega) ?_
  rcases h : rv.ownBlock with _ | r
  · exact .inl rfl
  · refine .inr (fun e => ?_)
    have h1 := (own_lt ho h).1
    have h2 := hv r e.symm
    omega
end Go.Proofs.Ytmcgagjjgomkeaa
