/- Proved here: closed facts of the statement's row (first part). -/
import Derived.Test.YtjneoighgbggcaaGreatRows
import Derived.JoinedOf
namespace Go.Sl
open Go Go.Proofs Go.Proofs.YtjneoighgbggcaaGreat
theorem q_fn : Tryz.pinned.checked.prog.funcNamed Rows.graphListsRow.func = some 3 := by kernel_rfl
end Go.Sl
