/- Proved here: GraphLists, as it is stated: any edges in order, their numbers, and those of one; for every input. -/
import Derived.Test.YtjneoighgbggcaaGreatF0
import Derived.Test.YtjneoighgbggcaaGreatF1
import Derived.Test.YtjneoighgbggcaaGreatF5
import Derived.Test.YtjneoighgbggcaaGreatE6
namespace Go.Sl
open Go Go.Proofs Go.Proofs.YtjneoighgbggcaaGreat
theorem j_wrap : Tryz.f3.isWrapper Tryz.pinned.checked.prog Rows.graphListsRow.wrapper Rows.graphListsRow.mainSum := by
  unfold Func.isWrapper; first | (rw [if_pos (by decide +kernel)]; kernel_rfl) | (rw [if_neg (by decide +kernel)]; exact ⟨rfl, rfl⟩)
theorem graphLists_over (haw : ∀ (H : Heap) (Q : Value → Heap → Prop), (∀ H', Sub H H' → Q (.bool true) H') → T PP 12 [] H Q) : Rows.GraphListsSaid :=
  OpenClaim.holds_of_wide 3 Tryz.f3 rfl rfl rfl rfl rfl rfl rfl ⟨rfl, rfl, rfl, rfl, rfl⟩ rfl rfl rfl rfl rfl q_fn Tryz.func3 j_closed
    (of_decide_eq_true (by kernel_rfl)) j_wrap
    (fun os started H enc _ => graphLists_lifted haw os started H enc)
end Go.Sl
namespace Go.Proofs.YtjneoighgbggcaaGreat
theorem graph_lists : Rows.GraphListsSaid := Go.Sl.graphLists_over Go.Sl.c_awake
end Go.Proofs.YtjneoighgbggcaaGreat
#print axioms Go.Proofs.YtjneoighgbggcaaGreat.graph_lists
