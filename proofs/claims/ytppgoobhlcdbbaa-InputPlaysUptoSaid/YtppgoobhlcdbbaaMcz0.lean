/- Texts of one kind, one behind the other. -/
import Derived.Test.YtppgoobhlcdbbaaMh0
/- How long a slice that comes in is. -/
set_option linter.unusedSimpArgs false
set_option linter.unusedVariables false
namespace Go.Dx
open Go Go.RowKit Go.ChangeShapes Go.WideShapes
variable {H : Type} {enc : TypeId × Value → H} {P : Program} {W : World}
theorem trod_len {t e : TypeId} {a : Option Addr} {n c : Nat} {d : DataW H} {ps : List MemPlace} (ht : P.underlying t = some (.slice e))
    (h : DataW.Trod enc P W 0 (fun _ => true) true t (.slice a n c) d ps) : n = 0 ∨ ∃ elems rest, d = .slice elems rest ∧ elems.length = n := by
  obtain ⟨fuel, h⟩ := h
  rcases DataW.trod_slice ht h with ⟨hc, _⟩ | ⟨a', len, cap, elems, rest, m, _, hc, hx, _, _, _, hlen, _, _, _⟩
  · have : a = none ∧ n = 0 ∧ c = 0 := by simpa [Value.cells] using hc
    exact .inl this.2.1
  · have : a = some a' ∧ n = len ∧ c = cap := by simpa [Value.cells] using hc
    obtain ⟨rfl, rfl, rfl⟩ := this
    cases hx
    exact .inr ⟨_, _, rfl, by simp [hlen]⟩
end Go.Dx
