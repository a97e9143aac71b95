/-
  No cell of these rows narrows 'for every input' (looked for: loops, veiled, ifaces, maps, wideKeys, modest, calm, conditions, laid).
  DERIVED. THE GIVEN ROWS OF THIS SEAT. 9 by the template 'for every input the law returns true; each argument reads behind the call as it read before'; 0 by the template 'total and deterministic' (their statements: YtjneoighgbggcaaGreatTotals.lean).
  GIVEN WITH THE SEED: the statements are not yours to turn. If you find one false, say at which input.
  Laid BY PROGRAM, IN A SANDBOX (cutbox-rows.mjs): the forced cells as the released guide's own fill.sh prints them over the translation f1cd581c51ca1f44… (all of the seat's roots in one cut). By AI agents, Wed Nov 11 2026. No macro, syntax, notation, axiom, sorry.
-/
import Derived.Test.YtjneoighgbggcaaGreatChecked
import GoSem.Claim
import GoSem.ClaimJoined
import GoSem.ClaimMapViews
import Derived.JoinedTies
import Derived.KernelRfl
namespace Go.Proofs.YtjneoighgbggcaaGreat
/- THE CELL 'sum', in the pinned program and in every row, IS THE sha256 OF THE DUMP (.gsa) THAT YtjneoighgbggcaaGreatProg.lean LOADS. Nothing in Lean hashes anything: it is a label: what it is worth is what the hold of that sum in a sandbox is worth. -/
noncomputable def Tryz.pinned : Pinned := { name := "ytjneoighgbggcaagreat", sum := "f1cd581c51ca1f44c0cf833e8984fb548ed12e26db1005e49efbcc6699346eb6", checked := Tryz.checked }
namespace Rows
def none {H : Type} : Left H := { results := [], args := [] }

/-- 'escutcheonlaw14.GraphLists': WHATEVER THE INPUT: true; the input reads as it did. -/
def graphListsSpec : ChangeSpec := { name := "graphLists", fn := fun _ => fun
  | [d1, d2] => { results := [.lit (.bool true)], args := [d1, d2] }
  | _ => none }
def graphListsRow : OpenClaim := { program := "ytjneoighgbggcaagreat", sum := "f1cd581c51ca1f44c0cf833e8984fb548ed12e26db1005e49efbcc6699346eb6", func := "escutcheon/escutcheonlaw14.GraphLists", spec := "graphLists", inPlace := ["slices.overlaps[escutcheon/api.Wait]"], unfollowed := true, recurses := true, plainKeys := false, apart := false }
def GraphListsSaid : Prop := graphListsRow.holds Tryz.pinned (OpenSpec.ofChange graphListsSpec)

/-- ITS FALSE NEIGHBOUR: 'it returns false'. Refute it at one input. -/
def graphListsWrong : ChangeSpec := { name := "graphLists", fn := fun _ => fun
  | [d1, d2] => { results := [.lit (.bool false)], args := [d1, d2] }
  | _ => none }
def GraphListsWrongFalsely : Prop := graphListsRow.holds Tryz.pinned (OpenSpec.ofChange graphListsWrong)

/-- 'escutcheonlaw19.HierFree': WHATEVER THE INPUT: true; the input reads as it did. -/
def hierFreeSpec : ChangeSpec := { name := "hierFree", fn := fun _ => fun
  | [d1, d2] => { results := [.lit (.bool true)], args := [d1, d2] }
  | _ => none }
def hierFreeRow : OpenClaim := { program := "ytjneoighgbggcaagreat", sum := "f1cd581c51ca1f44c0cf833e8984fb548ed12e26db1005e49efbcc6699346eb6", func := "escutcheon/escutcheonlaw19.HierFree", spec := "hierFree", inPlace := ["slices.overlaps[escutcheon/api.Wait]"], unfollowed := true, recurses := true, plainKeys := false, apart := false }
def HierFreeSaid : Prop := hierFreeRow.holds Tryz.pinned (OpenSpec.ofChange hierFreeSpec)

/-- ITS FALSE NEIGHBOUR: 'it returns false'. Refute it at one input. -/
def hierFreeWrong : ChangeSpec := { name := "hierFree", fn := fun _ => fun
  | [d1, d2] => { results := [.lit (.bool false)], args := [d1, d2] }
  | _ => none }
def HierFreeWrongFalsely : Prop := hierFreeRow.holds Tryz.pinned (OpenSpec.ofChange hierFreeWrong)

/-- 'escutcheonlaw19.HierApart': WHATEVER THE INPUT: true; the input reads as it did. -/
def hierApartSpec : ChangeSpec := { name := "hierApart", fn := fun _ => fun
  | [d1, d2] => { results := [.lit (.bool true)], args := [d1, d2] }
  | _ => none }
def hierApartRow : OpenClaim := { program := "ytjneoighgbggcaagreat", sum := "f1cd581c51ca1f44c0cf833e8984fb548ed12e26db1005e49efbcc6699346eb6", func := "escutcheon/escutcheonlaw19.HierApart", spec := "hierApart", inPlace := ["slices.overlaps[escutcheon/api.Wait]"], unfollowed := true, recurses := true, plainKeys := false, apart := false }
def HierApartSaid : Prop := hierApartRow.holds Tryz.pinned (OpenSpec.ofChange hierApartSpec)

/-- ITS FALSE NEIGHBOUR: 'it returns false'. Refute it at one input. -/
def hierApartWrong : ChangeSpec := { name := "hierApart", fn := fun _ => fun
  | [d1, d2] => { results := [.lit (.bool false)], args := [d1, d2] }
  | _ => none }
def HierApartWrongFalsely : Prop := hierApartRow.holds Tryz.pinned (OpenSpec.ofChange hierApartWrong)

/-- 'escutcheonlaw44.PeekDoes': WHATEVER THE INPUT: true; the input reads as it did. -/
def peekDoesSpec : ChangeSpec := { name := "peekDoes", fn := fun _ => fun
  | [d1, d2, d3, d4] => { results := [.lit (.bool true)], args := [d1, d2, d3, d4] }
  | _ => none }
def peekDoesRow : OpenClaim := { program := "ytjneoighgbggcaagreat", sum := "f1cd581c51ca1f44c0cf833e8984fb548ed12e26db1005e49efbcc6699346eb6", func := "escutcheon/escutcheonlaw44.PeekDoes", spec := "peekDoes", inPlace := ["slices.overlaps[escutcheon/api.Wait]"], unfollowed := true, recurses := true, plainKeys := false, apart := false }
def PeekDoesSaid : Prop := peekDoesRow.holds Tryz.pinned (OpenSpec.ofChange peekDoesSpec)

/-- ITS FALSE NEIGHBOUR: 'it returns false'. Refute it at one input. -/
def peekDoesWrong : ChangeSpec := { name := "peekDoes", fn := fun _ => fun
  | [d1, d2, d3, d4] => { results := [.lit (.bool false)], args := [d1, d2, d3, d4] }
  | _ => none }
def PeekDoesWrongFalsely : Prop := peekDoesRow.holds Tryz.pinned (OpenSpec.ofChange peekDoesWrong)

/-- 'escutcheonlaw29.AbstDoes': WHATEVER THE INPUT: true; the input reads as it did. -/
def abstDoesSpec : ChangeSpec := { name := "abstDoes", fn := fun _ => fun
  | [d1, d2] => { results := [.lit (.bool true)], args := [d1, d2] }
  | _ => none }
def abstDoesRow : OpenClaim := { program := "ytjneoighgbggcaagreat", sum := "f1cd581c51ca1f44c0cf833e8984fb548ed12e26db1005e49efbcc6699346eb6", func := "escutcheon/escutcheonlaw29.AbstDoes", spec := "abstDoes", inPlace := ["slices.overlaps[escutcheon/api.Wait]"], unfollowed := true, recurses := true, plainKeys := false, apart := false }
def AbstDoesSaid : Prop := abstDoesRow.holds Tryz.pinned (OpenSpec.ofChange abstDoesSpec)

/-- ITS FALSE NEIGHBOUR: 'it returns false'. Refute it at one input. -/
def abstDoesWrong : ChangeSpec := { name := "abstDoes", fn := fun _ => fun
  | [d1, d2] => { results := [.lit (.bool false)], args := [d1, d2] }
  | _ => none }
def AbstDoesWrongFalsely : Prop := abstDoesRow.holds Tryz.pinned (OpenSpec.ofChange abstDoesWrong)

/-- 'escutcheonlaw29.AbstStops': WHATEVER THE INPUT: true; the input reads as it did. -/
def abstStopsSpec : ChangeSpec := { name := "abstStops", fn := fun _ => fun
  | [d1, d2] => { results := [.lit (.bool true)], args := [d1, d2] }
  | _ => none }
def abstStopsRow : OpenClaim := { program := "ytjneoighgbggcaagreat", sum := "f1cd581c51ca1f44c0cf833e8984fb548ed12e26db1005e49efbcc6699346eb6", func := "escutcheon/escutcheonlaw29.AbstStops", spec := "abstStops", inPlace := ["slices.overlaps[escutcheon/api.Wait]"], unfollowed := true, recurses := true, plainKeys := false, apart := false }
def AbstStopsSaid : Prop := abstStopsRow.holds Tryz.pinned (OpenSpec.ofChange abstStopsSpec)

/-- ITS FALSE NEIGHBOUR: 'it returns false'. Refute it at one input. -/
def abstStopsWrong : ChangeSpec := { name := "abstStops", fn := fun _ => fun
  | [d1, d2] => { results := [.lit (.bool false)], args := [d1, d2] }
  | _ => none }
def AbstStopsWrongFalsely : Prop := abstStopsRow.holds Tryz.pinned (OpenSpec.ofChange abstStopsWrong)

/-- 'escutcheonlaw44.PeekRings': WHATEVER THE INPUT: true; the input reads as it did. -/
def peekRingsSpec : ChangeSpec := { name := "peekRings", fn := fun _ => fun
  | [d1, d2, d3, d4] => { results := [.lit (.bool true)], args := [d1, d2, d3, d4] }
  | _ => none }
def peekRingsRow : OpenClaim := { program := "ytjneoighgbggcaagreat", sum := "f1cd581c51ca1f44c0cf833e8984fb548ed12e26db1005e49efbcc6699346eb6", func := "escutcheon/escutcheonlaw44.PeekRings", spec := "peekRings", inPlace := ["slices.overlaps[escutcheon/api.Wait]"], unfollowed := true, recurses := true, plainKeys := false, apart := false }
def PeekRingsSaid : Prop := peekRingsRow.holds Tryz.pinned (OpenSpec.ofChange peekRingsSpec)

/-- ITS FALSE NEIGHBOUR: 'it returns false'. Refute it at one input. -/
def peekRingsWrong : ChangeSpec := { name := "peekRings", fn := fun _ => fun
  | [d1, d2, d3, d4] => { results := [.lit (.bool false)], args := [d1, d2, d3, d4] }
  | _ => none }
def PeekRingsWrongFalsely : Prop := peekRingsRow.holds Tryz.pinned (OpenSpec.ofChange peekRingsWrong)

/-- 'escutcheonlaw29.AbstRight': WHATEVER THE INPUT: true; the input reads as it did. -/
def abstRightSpec : ChangeSpec := { name := "abstRight", fn := fun _ => fun
  | [d1, d2] => { results := [.lit (.bool true)], args := [d1, d2] }
  | _ => none }
def abstRightRow : OpenClaim := { program := "ytjneoighgbggcaagreat", sum := "f1cd581c51ca1f44c0cf833e8984fb548ed12e26db1005e49efbcc6699346eb6", func := "escutcheon/escutcheonlaw29.AbstRight", spec := "abstRight", inPlace := ["slices.overlaps[escutcheon/api.Wait]", "maps.clone"], unfollowed := true, recurses := true, plainKeys := false, apart := false }
def AbstRightSaid : Prop := abstRightRow.holds Tryz.pinned (OpenSpec.ofChange abstRightSpec)

/-- ITS FALSE NEIGHBOUR: 'it returns false'. Refute it at one input. -/
def abstRightWrong : ChangeSpec := { name := "abstRight", fn := fun _ => fun
  | [d1, d2] => { results := [.lit (.bool false)], args := [d1, d2] }
  | _ => none }
def AbstRightWrongFalsely : Prop := abstRightRow.holds Tryz.pinned (OpenSpec.ofChange abstRightWrong)

/-- 'escutcheonlaw32.AuditLocks': WHATEVER THE INPUT: true; the input reads as it did. -/
def auditLocksSpec : ChangeSpec := { name := "auditLocks", fn := fun _ => fun
  | [d1, d2, d3, d4] => { results := [.lit (.bool true)], args := [d1, d2, d3, d4] }
  | _ => none }
def auditLocksRow : OpenClaim := { program := "ytjneoighgbggcaagreat", sum := "f1cd581c51ca1f44c0cf833e8984fb548ed12e26db1005e49efbcc6699346eb6", func := "escutcheon/escutcheonlaw32.AuditLocks", spec := "auditLocks", inPlace := ["slices.overlaps[escutcheon/api.Wait]"], unfollowed := true, recurses := true, plainKeys := false, apart := false }
def AuditLocksSaid : Prop := auditLocksRow.holds Tryz.pinned (OpenSpec.ofChange auditLocksSpec)

/-- ITS FALSE NEIGHBOUR: 'it returns false'. Refute it at one input. -/
def auditLocksWrong : ChangeSpec := { name := "auditLocks", fn := fun _ => fun
  | [d1, d2, d3, d4] => { results := [.lit (.bool false)], args := [d1, d2, d3, d4] }
  | _ => none }
def AuditLocksWrongFalsely : Prop := auditLocksRow.holds Tryz.pinned (OpenSpec.ofChange auditLocksWrong)

/- THE SECOND FORM. 'bulk': how many values and letters a reading holds, each counted each time it is reached (what is shared counts as often as it is met; a slice's spare places count too). A statement '..UptoSaid' is the law's where the arguments, and the package variables that the reading takes, are together of bulk at most 1048576: NARROWER than '..Said'. Prove '..Said' where nothing that the law and all that it calls make is longer than what came in: it says more and counts as full. Else prove '..UptoSaid'. A law counts once. -/
mutual
def uptoBulk {H : Type} : DataW H → Nat
  | .lit (.string bytes) => bytes.length + 1
  | .lit _ => 1
  | .nil => 1
  | .ptr d => uptoBulk d + 1
  | .slice elems spare => uptoBulkAll elems + uptoBulkAll spare + 1
  | .agg parts => uptoBulkAll parts + 1
  | .iface _ d => uptoBulk d + 1
  | .map entries => uptoBulkEntries entries + 1
  | .held _ => 1
def uptoBulkAll {H : Type} : List (DataW H) → Nat
  | [] => 0
  | d :: r => uptoBulk d + uptoBulkAll r
def uptoBulkEntries {H : Type} : List (Lit × DataW H) → Nat
  | [] => 0
  | x :: r => uptoBulkEntry x + uptoBulkEntries r
def uptoBulkEntry {H : Type} : Lit × DataW H → Nat
  | (.string bytes, d) => bytes.length + uptoBulk d + 1
  | (_, d) => uptoBulk d + 1
 end
def uptoSmall : (H : Type) → List (DataW H) → Bool := fun _ ds => decide (uptoBulkAll ds ≤ 1048576)
def OpenSpec.upto (s : _root_.Go.ChangeSpec) : _root_.Go.OpenSpec := { _root_.Go.OpenSpec.ofChange s with cond := some uptoSmall }

/-- 'escutcheonlaw14.GraphLists', WHERE WHAT IT READS IS OF BULK AT MOST 1048576: true; the input reads as it did. -/
def graphListsUptoRow : OpenClaim := { program := "ytjneoighgbggcaagreat", sum := "f1cd581c51ca1f44c0cf833e8984fb548ed12e26db1005e49efbcc6699346eb6", func := "escutcheon/escutcheonlaw14.GraphLists", spec := "graphLists", inPlace := ["slices.overlaps[escutcheon/api.Wait]"], unfollowed := true, recurses := true, plainKeys := false, apart := false, narrowed := true }
def GraphListsUptoSaid : Prop := graphListsUptoRow.holds Tryz.pinned (OpenSpec.upto graphListsSpec)

/-- 'escutcheonlaw19.HierFree', WHERE WHAT IT READS IS OF BULK AT MOST 1048576: true; the input reads as it did. -/
def hierFreeUptoRow : OpenClaim := { program := "ytjneoighgbggcaagreat", sum := "f1cd581c51ca1f44c0cf833e8984fb548ed12e26db1005e49efbcc6699346eb6", func := "escutcheon/escutcheonlaw19.HierFree", spec := "hierFree", inPlace := ["slices.overlaps[escutcheon/api.Wait]"], unfollowed := true, recurses := true, plainKeys := false, apart := false, narrowed := true }
def HierFreeUptoSaid : Prop := hierFreeUptoRow.holds Tryz.pinned (OpenSpec.upto hierFreeSpec)

/-- 'escutcheonlaw19.HierApart', WHERE WHAT IT READS IS OF BULK AT MOST 1048576: true; the input reads as it did. -/
def hierApartUptoRow : OpenClaim := { program := "ytjneoighgbggcaagreat", sum := "f1cd581c51ca1f44c0cf833e8984fb548ed12e26db1005e49efbcc6699346eb6", func := "escutcheon/escutcheonlaw19.HierApart", spec := "hierApart", inPlace := ["slices.overlaps[escutcheon/api.Wait]"], unfollowed := true, recurses := true, plainKeys := false, apart := false, narrowed := true }
def HierApartUptoSaid : Prop := hierApartUptoRow.holds Tryz.pinned (OpenSpec.upto hierApartSpec)

/-- 'escutcheonlaw44.PeekDoes', WHERE WHAT IT READS IS OF BULK AT MOST 1048576: true; the input reads as it did. -/
def peekDoesUptoRow : OpenClaim := { program := "ytjneoighgbggcaagreat", sum := "f1cd581c51ca1f44c0cf833e8984fb548ed12e26db1005e49efbcc6699346eb6", func := "escutcheon/escutcheonlaw44.PeekDoes", spec := "peekDoes", inPlace := ["slices.overlaps[escutcheon/api.Wait]"], unfollowed := true, recurses := true, plainKeys := false, apart := false, narrowed := true }
def PeekDoesUptoSaid : Prop := peekDoesUptoRow.holds Tryz.pinned (OpenSpec.upto peekDoesSpec)

/-- 'escutcheonlaw29.AbstDoes', WHERE WHAT IT READS IS OF BULK AT MOST 1048576: true; the input reads as it did. -/
def abstDoesUptoRow : OpenClaim := { program := "ytjneoighgbggcaagreat", sum := "f1cd581c51ca1f44c0cf833e8984fb548ed12e26db1005e49efbcc6699346eb6", func := "escutcheon/escutcheonlaw29.AbstDoes", spec := "abstDoes", inPlace := ["slices.overlaps[escutcheon/api.Wait]"], unfollowed := true, recurses := true, plainKeys := false, apart := false, narrowed := true }
def AbstDoesUptoSaid : Prop := abstDoesUptoRow.holds Tryz.pinned (OpenSpec.upto abstDoesSpec)

/-- 'escutcheonlaw29.AbstStops', WHERE WHAT IT READS IS OF BULK AT MOST 1048576: true; the input reads as it did. -/
def abstStopsUptoRow : OpenClaim := { program := "ytjneoighgbggcaagreat", sum := "f1cd581c51ca1f44c0cf833e8984fb548ed12e26db1005e49efbcc6699346eb6", func := "escutcheon/escutcheonlaw29.AbstStops", spec := "abstStops", inPlace := ["slices.overlaps[escutcheon/api.Wait]"], unfollowed := true, recurses := true, plainKeys := false, apart := false, narrowed := true }
def AbstStopsUptoSaid : Prop := abstStopsUptoRow.holds Tryz.pinned (OpenSpec.upto abstStopsSpec)

/-- 'escutcheonlaw44.PeekRings', WHERE WHAT IT READS IS OF BULK AT MOST 1048576: true; the input reads as it did. -/
def peekRingsUptoRow : OpenClaim := { program := "ytjneoighgbggcaagreat", sum := "f1cd581c51ca1f44c0cf833e8984fb548ed12e26db1005e49efbcc6699346eb6", func := "escutcheon/escutcheonlaw44.PeekRings", spec := "peekRings", inPlace := ["slices.overlaps[escutcheon/api.Wait]"], unfollowed := true, recurses := true, plainKeys := false, apart := false, narrowed := true }
def PeekRingsUptoSaid : Prop := peekRingsUptoRow.holds Tryz.pinned (OpenSpec.upto peekRingsSpec)

/-- 'escutcheonlaw29.AbstRight', WHERE WHAT IT READS IS OF BULK AT MOST 1048576: true; the input reads as it did. -/
def abstRightUptoRow : OpenClaim := { program := "ytjneoighgbggcaagreat", sum := "f1cd581c51ca1f44c0cf833e8984fb548ed12e26db1005e49efbcc6699346eb6", func := "escutcheon/escutcheonlaw29.AbstRight", spec := "abstRight", inPlace := ["slices.overlaps[escutcheon/api.Wait]", "maps.clone"], unfollowed := true, recurses := true, plainKeys := false, apart := false, narrowed := true }
def AbstRightUptoSaid : Prop := abstRightUptoRow.holds Tryz.pinned (OpenSpec.upto abstRightSpec)

/-- 'escutcheonlaw32.AuditLocks', WHERE WHAT IT READS IS OF BULK AT MOST 1048576: true; the input reads as it did. -/
def auditLocksUptoRow : OpenClaim := { program := "ytjneoighgbggcaagreat", sum := "f1cd581c51ca1f44c0cf833e8984fb548ed12e26db1005e49efbcc6699346eb6", func := "escutcheon/escutcheonlaw32.AuditLocks", spec := "auditLocks", inPlace := ["slices.overlaps[escutcheon/api.Wait]"], unfollowed := true, recurses := true, plainKeys := false, apart := false, narrowed := true }
def AuditLocksUptoSaid : Prop := auditLocksUptoRow.holds Tryz.pinned (OpenSpec.upto auditLocksSpec)

end Rows
end Go.Proofs.YtjneoighgbggcaaGreat
