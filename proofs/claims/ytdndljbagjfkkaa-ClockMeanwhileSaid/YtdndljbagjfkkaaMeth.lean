/- A method called through an interface: which function, with which receiver. -/
import Derived.Test.YtdndljbagjfkkaaMem
import Derived.Outline
namespace Go.Proofs.Ytdndljbagjfkkaa
open Go.RowKit
theorem method_row {P : Program} {t : TypeId} {name : String} {f : FuncId} {pr : Bool} (hm : (P.info? t).map (fun i => (i.methods.find? (·.name == name)).map fun m => (m.path, m.func)) = some (some (#[], some (f, pr)))) :
    ∃ i m, P.info? t = some i ∧ i.methods.find? (·.name == name) = some m ∧ m.path = #[] ∧ m.func = some (f, pr) := by
  rcases hi : P.info? t with _ | i
  · rw [hi] at hm; cases hm
  · rw [hi] at hm
    simp only [Option.map_some, Option.some.injEq] at hm
    rcases hf : i.methods.find? (·.name == name) with _ | m
    · rw [hf] at hm; cases hm
    · rw [hf] at hm
      simp only [Option.map_some, Option.some.injEq, Prod.mk.injEq] at hm
      exact ⟨i, m, rfl, hf, hm.1, hm.2⟩
theorem wrap_nil {P : Program} {w : World} (ts : Array TypeId) (t : TypeId) (a : Addr) (s1 s2 : String) : (Builtin.ssaWrapNilChk_ ts t #[.pointer (some a), strVal s1, strVal s2]).run P w = .ok (.pointer (some a)) w := rfl
/-- A value's method, through a pointer to it. -/
theorem method_through {P : Program} {w : World} {t e : TypeId} {name : String} {f : FuncId} {a : Addr} {v : Value} (n : Nat) (hm : (P.info? t).map (fun i => (i.methods.find? (·.name == name)).map fun m => (m.path, m.func)) = some (some (#[], some (f, false))))
    (hu : P.underlying t = some (.pointer e)) (hl : (loadVar e a).run P w = .ok v w) : (method (n + 1) t (.pointer (some a)) name).run P w = .ok (f, v) w := by
  obtain ⟨i, m, hi, hf, hp, hfn⟩ := method_row hm
  unfold method
  simp [typeInfo, hi, hf, hp, hfn, follow, receiverAt, run_underlying hu, Place.get, wrap_nil, asAddr, hl]
/-- A pointer's method. -/
theorem method_of {P : Program} {w : World} {t e : TypeId} {name : String} {f : FuncId} {a : Addr} (n : Nat) (hm : (P.info? t).map (fun i => (i.methods.find? (·.name == name)).map fun m => (m.path, m.func)) = some (some (#[], some (f, true))))
    (hu : P.underlying t = some (.pointer e)) : (method (n + 1) t (.pointer (some a)) name).run P w = .ok (f, .pointer (some a)) w := by
  obtain ⟨i, m, hi, hf, hp, hfn⟩ := method_row hm
  unfold method
  simp [typeInfo, hi, hf, hp, hfn, follow, receiverAt, run_underlying hu, Place.get]
end Go.Proofs.Ytdndljbagjfkkaa
