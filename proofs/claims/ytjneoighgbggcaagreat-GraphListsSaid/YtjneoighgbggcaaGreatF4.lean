/- Proved here: closed facts of the statement's row (fourth part). -/
import Derived.Test.YtjneoighgbggcaaGreatRows
import Derived.JoinedOf
namespace Go.Sl
open Go Go.Proofs Go.Proofs.YtjneoighgbggcaaGreat
theorem j10 : (Rows.graphListsRow.recurses == Tryz.prog.recurses 3) = true := by kernel_rfl
theorem j11 : (Rows.graphListsRow.named == Tryz.prog.varsNamed 3) = true := by kernel_rfl
end Go.Sl
