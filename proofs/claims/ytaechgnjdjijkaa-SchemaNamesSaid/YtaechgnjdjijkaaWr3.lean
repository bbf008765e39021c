/- The writer's Fixed and Rising. -/
import Derived.Test.YtaechgnjdjijkaaWr2
namespace Go.Proofs.Ytaechgnjdjijkaa
open Go.RowKit Go.Lib

/-- The fixed form. -/
def fix4 (x : Nat) : List UInt8 := [UInt8.ofNat x, UInt8.ofNat (x / 256), UInt8.ofNat (x / 65536), UInt8.ofNat (x / 16777216)]
theorem bc_fix4 (x : Nat) : bc (fix4 x) = [.int .u8 ((x : Int) % 256), .int .u8 ((x : Int) / 256 % 256), .int .u8 ((x : Int) / 65536 % 256), .int .u8 ((x : Int) / 16777216 % 256)] := by
  simp only [bc, fix4, List.map_cons, List.map_nil, UInt8.toNat_ofNat']
  rfl

/-- Numbers as cells. -/
def ic (l : List Int) : List Value := l.map (Value.int .i64)
theorem ic_at {l : List Int} {k : Nat} {x : Int} (h : l[k]? = some x) : (ic l)[k]? = some (.int .i64 x) := by simp [ic, h]
theorem ic_length (l : List Int) : (ic l).length = l.length := by simp [ic]
def Rises (l : List Int) : Prop := ∀ (i : Nat) (x y : Int), l[i]? = some x → l[i + 1]? = some y → x < y
/-- What a list's number at a place is written as. -/
def relt (l : List Int) (i : Nat) : List UInt8 := if i = 0 then num7 (zig (l.getD 0 0)) else num7 (l.getD i 0 - l.getD (i - 1) 0 - 1).toNat
def rk (l : List Int) (k : Nat) : List UInt8 := (List.range k).flatMap (relt l)
theorem rk_succ (l : List Int) (k : Nat) : rk l (k + 1) = rk l k ++ relt l k := by simp [rk, List.range_succ]
def ris (l : List Int) : List UInt8 := num7 l.length ++ rk l l.length

theorem Rd.grew {w w' : World} {A : Option Addr} {m cap n : Nat} {xs : List Value} {v v' : Value} (h : Rd w (.slice A m cap) n xs) (k : Grew w w' v v') (hne : ∀ g off, A = some ⟨g, off, none⟩ → v.ownBlock ≠ some g) : Rd w' (.slice A m cap) n xs := by
  obtain ⟨a, c, hv, h1, h2, hr⟩ := h
  cases hv
  refine ⟨_, _, rfl, h1, h2, fun hp => ?_⟩
  obtain ⟨g, off, ha, hg, hc⟩ := hr hp
  exact ⟨g, off, ha, Nat.lt_of_lt_of_le hg k.only.size, fun j u hj => (World.cell?_of_block (a := ⟨g, off + j, none⟩) (k.only.block g hg (fun e => hne g off ha e.symm))).trans (hc j u hj)⟩

def I64 (x : Int) : Prop := -9223372036854775808 ≤ x ∧ x ≤ 9223372036854775807

theorem rises_not {l : List Int} {k : Nat} {x y : Int} (hx : l[k]? = some x) (hy : l[k + 1]? = some y) (h : ¬ x < y) : ¬ Rises l := fun hr => h (hr k x y hx hy)

end Go.Proofs.Ytaechgnjdjijkaa
