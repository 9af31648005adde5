/- A text of this claim. -/
import Derived.Test.YtoiiphcbkejliaaGreatRows
import Derived.JoinedOf
import Derived.KernelRfl
set_option maxRecDepth 100000
namespace Go.Proofs.YtoiiphcbkejliaaGreat
open Go Go.ChangeShapes Go.WideShapes
theorem k0:(Rows.shellNumbersRow.wf (OpenSpec.ofChange Rows.shellNumbersSpec))=true:=by kernel_rfl
theorem k1:(laidOutB Tryz.prog)=true:=by kernel_rfl
theorem k2:(mapsRowed Tryz.prog)=true:=by kernel_rfl
theorem k3:(Tryz.f3.params.all (Tryz.prog.readableRec ·))=true:=by kernel_rfl
theorem k4:(namedTie Tryz.prog Rows.shellNumbersRow.named Rows.shellNumbersSpec.vars)=true:=by kernel_rfl
theorem k5:((Rows.shellNumbersRow.stops == []))=true:=by kernel_rfl
theorem k6:((Tryz.prog.stops == []))=true:=by kernel_rfl
theorem k7:((Rows.shellNumbersRow.knobs == []))=true:=by kernel_rfl
theorem k8:((Tryz.prog.stopKnobs == []))=true:=by kernel_rfl
theorem k9:((Rows.shellNumbersRow.inPlace == Tryz.prog.inPlace 3))=true:=by kernel_rfl
theorem k10:((Rows.shellNumbersRow.unfollowed == Tryz.prog.unfollowed 3))=true:=by kernel_rfl
theorem k11:((Rows.shellNumbersRow.recurses == Tryz.prog.recurses 3))=true:=by kernel_rfl
end Go.Proofs.YtoiiphcbkejliaaGreat
