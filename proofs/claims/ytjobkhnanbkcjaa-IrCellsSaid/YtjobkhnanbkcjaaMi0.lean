/- Texts of one kind, one behind the other. -/
import Derived.Test.YtjobkhnanbkcjaaMh0
/- An argument that is a struct. -/
set_option linter.unusedSimpArgs false
set_option linter.unusedVariables false
namespace Go.Dx
open Go Go.RowKit Go.ChangeShapes Go.WideShapes Go.ChangeAt
section
variable {H : Type} {enc : TypeId × Value → H} {P : Program} {W : World}
theorem arg_struct {α : Type} {E : Enc α} {t : TypeId} {fs : Array Field} (ht : P.underlying t = some (.struct fs)) (hD : Dec enc P W E t) {v : Value} {d : DataW H} {ps : List MemPlace} {b0 : Nat} (hval : Value.okWide P W .any b0 t v)
    (h : DataW.Trod enc P W 0 (fun _ => true) true t v d ps) : ∃ y : α, absA W.heap.size v = .agg (E.enc y).toArray := by
  obtain ⟨n, h⟩ := h
  obtain ⟨y, hy⟩ := hD.2 _ _ _ h
  unfold Value.okWide at hval
  simp only [ht] at hval
  obtain ⟨cs, rfl, _⟩ := hval
  refine ⟨y, ?_⟩
  simp only [absA]
  rw [← hy]
  congr 1
  apply Array.ext'
  simp [Value.cells]
end
end Go.Dx
