/- Texts of one kind, one behind the other. -/
import Derived.Test.YtoiiphcbkejliaaGreatMxShellBack0
/- The same, lifted. -/
set_option linter.unusedVariables false
set_option linter.unusedSimpArgs false
set_option maxRecDepth 100000
namespace Go.Proofs.YtoiiphcbkejliaaGreat
open Go.ChangeShapes Go.WideShapes Go.ChangeAt Go.RowKit
open Go.Dx (Dec dec_struct dec_one sees_arg arg_one absA absH WC law_calls Kd wf_u8 wf_u32 wf_u64)

theorem lifted (os : Os) (started : os.Started) (H : Type) (enc : TypeId × Value → H) :
    ReturnsInHanded {} Tryz.checked os 6 .any (Rows.shellBackSpec.pre6 enc Tryz.prog Tryz.f6 Rows.shellBackRow.domain false) (Rows.shellBackSpec.post enc Tryz.prog Tryz.f6 false true false false) := by
  refine returnsInHanded_of_change (C := Tryz.checked) own started (by kernel_rfl) Tryz.func6
    (ChangeSpec.witness6 (enc := enc) (C := Tryz.checked) false ⟨#[], #[.agg #[.int .i64 0, .int .i64 0, .slice none 0 0, .slice none 0 0, .slice none 0 0, .bool false], .int .i64 0], []⟩ 8 (by kernel_rfl) (by kernel_rfl) (by kernel_rfl) (by kernel_rfl)) ?_
  intro W base args ds gs before hval hW hcnd _
  exact contract enc W base args ds gs before hval hW

end Go.Proofs.YtoiiphcbkejliaaGreat
