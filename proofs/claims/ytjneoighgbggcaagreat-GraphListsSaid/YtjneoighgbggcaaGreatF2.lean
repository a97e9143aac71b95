/- Proved here: closed facts of the statement's row (second part). -/
import Derived.Test.YtjneoighgbggcaaGreatRows
import Derived.JoinedOf
namespace Go.Sl
open Go Go.Proofs Go.Proofs.YtjneoighgbggcaaGreat
theorem j1 : Rows.graphListsRow.wf (OpenSpec.ofChange Rows.graphListsSpec) = true := by kernel_rfl
theorem j2 : laidOutB Tryz.prog = true := by kernel_rfl
theorem j3 : mapsRowed Tryz.prog = true := by kernel_rfl
theorem j4 : Tryz.f3.params.all (Tryz.prog.readableRec ·) = true := by kernel_rfl
theorem j5 : namedTie Tryz.prog Rows.graphListsRow.named Rows.graphListsSpec.vars = true := by kernel_rfl
theorem j8 : (Rows.graphListsRow.inPlace == Tryz.prog.inPlace 3) = true := by kernel_rfl
end Go.Sl
