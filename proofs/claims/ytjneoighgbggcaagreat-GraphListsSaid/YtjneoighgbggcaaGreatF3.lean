/- Proved here: closed facts of the statement's row (third part). -/
import Derived.Test.YtjneoighgbggcaaGreatRows
import Derived.JoinedOf
namespace Go.Sl
open Go Go.Proofs Go.Proofs.YtjneoighgbggcaaGreat
theorem j9 : (Rows.graphListsRow.unfollowed == Tryz.prog.unfollowed 3) = true := by kernel_rfl
end Go.Sl
