/- Proved here: closed facts of the statement's row (fifth part). -/
import Derived.Test.YtjneoighgbggcaaGreatF2
import Derived.Test.YtjneoighgbggcaaGreatF3
import Derived.Test.YtjneoighgbggcaaGreatF4
namespace Go.Sl
open Go Go.Proofs Go.Proofs.YtjneoighgbggcaaGreat
theorem j_closed : joinedFacts Tryz.prog 3 Tryz.f3 Rows.graphListsSpec Rows.graphListsRow = true := by
  unfold joinedFacts
  rw [j1, j2, j3, j4, j5, j8, j9, j10, j11]
  kernel_rfl
end Go.Sl
