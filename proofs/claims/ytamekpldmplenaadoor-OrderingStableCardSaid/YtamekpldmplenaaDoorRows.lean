/-
  NARROWER THAN 'FOR EVERY INPUT', by the rows' own cells (each row's printed sentence says how): OrderingChecks: laid · OrderingRuns: laid · OrderingExchanges: laid · OrderingKeeps: laid · OrderingStable: laid · OrderingClasses: laid · OrderingJoins: laid · OrderingSorts: laid · OrderingAgain: laid.
  DERIVED. THE GIVEN ROWS OF THIS SEAT. 9 by the template 'for every input the law returns true; each argument reads behind the call as it read before'; 0 by the template 'total and deterministic' (their statements: YtamekpldmplenaaDoorTotals.lean).
  GIVEN WITH THE SEED: the statements are not yours to turn. If you find one false, say at which input.
  Laid BY PROGRAM, IN A SANDBOX (cutbox-rows.mjs): the forced cells as the released guide's own fill.sh prints them over the translation b2eb7e43b79fd1ee… (all of the seat's roots in one cut). By AI agents, Wed Nov 11 2026. No macro, syntax, notation, axiom, sorry.
-/
import Derived.Test.YtamekpldmplenaaDoorChecked
import GoSem.Claim
import GoSem.ClaimJoined
import GoSem.ClaimMapViews
import Derived.JoinedTies
import Derived.KernelRfl
namespace Go.Proofs.YtamekpldmplenaaDoor
/- THE CELL 'sum', in the pinned program and in every row, IS THE sha256 OF THE DUMP (.gsa) THAT YtamekpldmplenaaDoorProg.lean LOADS. Nothing in Lean hashes anything: it is a label: what it is worth is what the hold of that sum in a sandbox is worth. -/
noncomputable def Tryd.pinned : Pinned := { name := "ytamekpldmplenaadoor", sum := "b2eb7e43b79fd1ee914d788a07399a54ad9886164f9e70445e9733fa85167bda", checked := Tryd.checked }
namespace Rows
def none {H : Type} : Left H := { results := [], args := [] }

/- WHAT THE LISTED PACKAGE-LEVEL VARIABLES READ AS WHEN THE CALL BEGINS. Each datum BY PROGRAM (the guide's laid-datum.mjs) off the statement by which the dump's own 'gosem.cut.vars' lays the variable. In a bare row this is a premise. The card (YtamekpldmplenaaDoorCards.lean) ties it to the program's text. -/
def laid_unicodetext_ordering_ranges {H : Type} : DataW H := .agg [.agg [.lit (.int .i64 4352), .lit (.int .i64 4370)], .agg [.lit (.int .i64 4449), .lit (.int .i64 4469)], .agg [.lit (.int .i64 4520), .lit (.int .i64 4546)], .agg [.lit (.int .i64 44032), .lit (.int .i64 55203)]]

/-- 'unicodetextlaw20.OrderingChecks': WHATEVER THE INPUT: true; the input reads as it did. -/
def orderingChecksSpec : ChangeSpec := { name := "orderingChecks", fn := fun _ => fun
  | [d] => { results := [.lit (.bool true)], args := [d] }
  | _ => none }
def orderingChecksRow : OpenClaim := { program := "ytamekpldmplenaadoor", sum := "b2eb7e43b79fd1ee914d788a07399a54ad9886164f9e70445e9733fa85167bda", func := "unicodetext/unicodetextlaw20.OrderingChecks", spec := "orderingChecks", unfollowed := true, recurses := true, named := ["unicodetext/ordering.ranges"], apart := false, laid := [("unicodetext/ordering.ranges", laid_unicodetext_ordering_ranges)] }
def OrderingChecksSaid : Prop := orderingChecksRow.holds Tryd.pinned (OpenSpec.ofChange orderingChecksSpec)

/-- ITS FALSE NEIGHBOUR: 'it returns false'. Refute it at one input. -/
def orderingChecksWrong : ChangeSpec := { name := "orderingChecks", fn := fun _ => fun
  | [d] => { results := [.lit (.bool false)], args := [d] }
  | _ => none }
def OrderingChecksWrongFalsely : Prop := orderingChecksRow.holds Tryd.pinned (OpenSpec.ofChange orderingChecksWrong)

/-- 'unicodetextlaw20.OrderingRuns': WHATEVER THE INPUT: true; the input reads as it did. -/
def orderingRunsSpec : ChangeSpec := { name := "orderingRuns", fn := fun _ => fun
  | [d1, d2] => { results := [.lit (.bool true)], args := [d1, d2] }
  | _ => none }
def orderingRunsRow : OpenClaim := { program := "ytamekpldmplenaadoor", sum := "b2eb7e43b79fd1ee914d788a07399a54ad9886164f9e70445e9733fa85167bda", func := "unicodetext/unicodetextlaw20.OrderingRuns", spec := "orderingRuns", unfollowed := true, recurses := true, named := ["unicodetext/ordering.ranges"], apart := false, laid := [("unicodetext/ordering.ranges", laid_unicodetext_ordering_ranges)] }
def OrderingRunsSaid : Prop := orderingRunsRow.holds Tryd.pinned (OpenSpec.ofChange orderingRunsSpec)

/-- ITS FALSE NEIGHBOUR: 'it returns false'. Refute it at one input. -/
def orderingRunsWrong : ChangeSpec := { name := "orderingRuns", fn := fun _ => fun
  | [d1, d2] => { results := [.lit (.bool false)], args := [d1, d2] }
  | _ => none }
def OrderingRunsWrongFalsely : Prop := orderingRunsRow.holds Tryd.pinned (OpenSpec.ofChange orderingRunsWrong)

/-- 'unicodetextlaw20.OrderingExchanges': WHATEVER THE INPUT: true; the input reads as it did. -/
def orderingExchangesSpec : ChangeSpec := { name := "orderingExchanges", fn := fun _ => fun
  | [d1, d2, d3] => { results := [.lit (.bool true)], args := [d1, d2, d3] }
  | _ => none }
def orderingExchangesRow : OpenClaim := { program := "ytamekpldmplenaadoor", sum := "b2eb7e43b79fd1ee914d788a07399a54ad9886164f9e70445e9733fa85167bda", func := "unicodetext/unicodetextlaw20.OrderingExchanges", spec := "orderingExchanges", unfollowed := true, recurses := true, named := ["unicodetext/ordering.ranges"], apart := false, laid := [("unicodetext/ordering.ranges", laid_unicodetext_ordering_ranges)] }
def OrderingExchangesSaid : Prop := orderingExchangesRow.holds Tryd.pinned (OpenSpec.ofChange orderingExchangesSpec)

/-- ITS FALSE NEIGHBOUR: 'it returns false'. Refute it at one input. -/
def orderingExchangesWrong : ChangeSpec := { name := "orderingExchanges", fn := fun _ => fun
  | [d1, d2, d3] => { results := [.lit (.bool false)], args := [d1, d2, d3] }
  | _ => none }
def OrderingExchangesWrongFalsely : Prop := orderingExchangesRow.holds Tryd.pinned (OpenSpec.ofChange orderingExchangesWrong)

/-- 'unicodetextlaw20.OrderingKeeps': WHATEVER THE INPUT: true; the input reads as it did. -/
def orderingKeepsSpec : ChangeSpec := { name := "orderingKeeps", fn := fun _ => fun
  | [d1, d2] => { results := [.lit (.bool true)], args := [d1, d2] }
  | _ => none }
def orderingKeepsRow : OpenClaim := { program := "ytamekpldmplenaadoor", sum := "b2eb7e43b79fd1ee914d788a07399a54ad9886164f9e70445e9733fa85167bda", func := "unicodetext/unicodetextlaw20.OrderingKeeps", spec := "orderingKeeps", unfollowed := true, recurses := true, named := ["unicodetext/ordering.ranges"], apart := false, laid := [("unicodetext/ordering.ranges", laid_unicodetext_ordering_ranges)] }
def OrderingKeepsSaid : Prop := orderingKeepsRow.holds Tryd.pinned (OpenSpec.ofChange orderingKeepsSpec)

/-- ITS FALSE NEIGHBOUR: 'it returns false'. Refute it at one input. -/
def orderingKeepsWrong : ChangeSpec := { name := "orderingKeeps", fn := fun _ => fun
  | [d1, d2] => { results := [.lit (.bool false)], args := [d1, d2] }
  | _ => none }
def OrderingKeepsWrongFalsely : Prop := orderingKeepsRow.holds Tryd.pinned (OpenSpec.ofChange orderingKeepsWrong)

/-- 'unicodetextlaw20.OrderingStable': WHATEVER THE INPUT: true; the input reads as it did. -/
def orderingStableSpec : ChangeSpec := { name := "orderingStable", fn := fun _ => fun
  | [d1, d2, d3] => { results := [.lit (.bool true)], args := [d1, d2, d3] }
  | _ => none }
def orderingStableRow : OpenClaim := { program := "ytamekpldmplenaadoor", sum := "b2eb7e43b79fd1ee914d788a07399a54ad9886164f9e70445e9733fa85167bda", func := "unicodetext/unicodetextlaw20.OrderingStable", spec := "orderingStable", unfollowed := true, recurses := true, named := ["unicodetext/ordering.ranges"], apart := false, laid := [("unicodetext/ordering.ranges", laid_unicodetext_ordering_ranges)] }
def OrderingStableSaid : Prop := orderingStableRow.holds Tryd.pinned (OpenSpec.ofChange orderingStableSpec)

/-- ITS FALSE NEIGHBOUR: 'it returns false'. Refute it at one input. -/
def orderingStableWrong : ChangeSpec := { name := "orderingStable", fn := fun _ => fun
  | [d1, d2, d3] => { results := [.lit (.bool false)], args := [d1, d2, d3] }
  | _ => none }
def OrderingStableWrongFalsely : Prop := orderingStableRow.holds Tryd.pinned (OpenSpec.ofChange orderingStableWrong)

/-- 'unicodetextlaw20.OrderingClasses': WHATEVER THE INPUT: true; the input reads as it did. -/
def orderingClassesSpec : ChangeSpec := { name := "orderingClasses", fn := fun _ => fun
  | [d1, d2] => { results := [.lit (.bool true)], args := [d1, d2] }
  | _ => none }
def orderingClassesRow : OpenClaim := { program := "ytamekpldmplenaadoor", sum := "b2eb7e43b79fd1ee914d788a07399a54ad9886164f9e70445e9733fa85167bda", func := "unicodetext/unicodetextlaw20.OrderingClasses", spec := "orderingClasses", unfollowed := true, recurses := true, named := ["unicodetext/ordering.ranges"], apart := false, laid := [("unicodetext/ordering.ranges", laid_unicodetext_ordering_ranges)] }
def OrderingClassesSaid : Prop := orderingClassesRow.holds Tryd.pinned (OpenSpec.ofChange orderingClassesSpec)

/-- ITS FALSE NEIGHBOUR: 'it returns false'. Refute it at one input. -/
def orderingClassesWrong : ChangeSpec := { name := "orderingClasses", fn := fun _ => fun
  | [d1, d2] => { results := [.lit (.bool false)], args := [d1, d2] }
  | _ => none }
def OrderingClassesWrongFalsely : Prop := orderingClassesRow.holds Tryd.pinned (OpenSpec.ofChange orderingClassesWrong)

/-- 'unicodetextlaw20.OrderingJoins': WHATEVER THE INPUT: true; the input reads as it did. -/
def orderingJoinsSpec : ChangeSpec := { name := "orderingJoins", fn := fun _ => fun
  | [d1, d2, d3] => { results := [.lit (.bool true)], args := [d1, d2, d3] }
  | _ => none }
def orderingJoinsRow : OpenClaim := { program := "ytamekpldmplenaadoor", sum := "b2eb7e43b79fd1ee914d788a07399a54ad9886164f9e70445e9733fa85167bda", func := "unicodetext/unicodetextlaw20.OrderingJoins", spec := "orderingJoins", unfollowed := true, recurses := true, named := ["unicodetext/ordering.ranges"], apart := false, laid := [("unicodetext/ordering.ranges", laid_unicodetext_ordering_ranges)] }
def OrderingJoinsSaid : Prop := orderingJoinsRow.holds Tryd.pinned (OpenSpec.ofChange orderingJoinsSpec)

/-- ITS FALSE NEIGHBOUR: 'it returns false'. Refute it at one input. -/
def orderingJoinsWrong : ChangeSpec := { name := "orderingJoins", fn := fun _ => fun
  | [d1, d2, d3] => { results := [.lit (.bool false)], args := [d1, d2, d3] }
  | _ => none }
def OrderingJoinsWrongFalsely : Prop := orderingJoinsRow.holds Tryd.pinned (OpenSpec.ofChange orderingJoinsWrong)

/-- 'unicodetextlaw20.OrderingSorts': WHATEVER THE INPUT: true; the input reads as it did. -/
def orderingSortsSpec : ChangeSpec := { name := "orderingSorts", fn := fun _ => fun
  | [d1, d2] => { results := [.lit (.bool true)], args := [d1, d2] }
  | _ => none }
def orderingSortsRow : OpenClaim := { program := "ytamekpldmplenaadoor", sum := "b2eb7e43b79fd1ee914d788a07399a54ad9886164f9e70445e9733fa85167bda", func := "unicodetext/unicodetextlaw20.OrderingSorts", spec := "orderingSorts", unfollowed := true, recurses := true, named := ["unicodetext/ordering.ranges"], apart := false, laid := [("unicodetext/ordering.ranges", laid_unicodetext_ordering_ranges)] }
def OrderingSortsSaid : Prop := orderingSortsRow.holds Tryd.pinned (OpenSpec.ofChange orderingSortsSpec)

/-- ITS FALSE NEIGHBOUR: 'it returns false'. Refute it at one input. -/
def orderingSortsWrong : ChangeSpec := { name := "orderingSorts", fn := fun _ => fun
  | [d1, d2] => { results := [.lit (.bool false)], args := [d1, d2] }
  | _ => none }
def OrderingSortsWrongFalsely : Prop := orderingSortsRow.holds Tryd.pinned (OpenSpec.ofChange orderingSortsWrong)

/-- 'unicodetextlaw20.OrderingAgain': WHATEVER THE INPUT: true; the input reads as it did. -/
def orderingAgainSpec : ChangeSpec := { name := "orderingAgain", fn := fun _ => fun
  | [d1, d2] => { results := [.lit (.bool true)], args := [d1, d2] }
  | _ => none }
def orderingAgainRow : OpenClaim := { program := "ytamekpldmplenaadoor", sum := "b2eb7e43b79fd1ee914d788a07399a54ad9886164f9e70445e9733fa85167bda", func := "unicodetext/unicodetextlaw20.OrderingAgain", spec := "orderingAgain", unfollowed := true, recurses := true, named := ["unicodetext/ordering.ranges"], apart := false, laid := [("unicodetext/ordering.ranges", laid_unicodetext_ordering_ranges)] }
def OrderingAgainSaid : Prop := orderingAgainRow.holds Tryd.pinned (OpenSpec.ofChange orderingAgainSpec)

/-- ITS FALSE NEIGHBOUR: 'it returns false'. Refute it at one input. -/
def orderingAgainWrong : ChangeSpec := { name := "orderingAgain", fn := fun _ => fun
  | [d1, d2] => { results := [.lit (.bool false)], args := [d1, d2] }
  | _ => none }
def OrderingAgainWrongFalsely : Prop := orderingAgainRow.holds Tryd.pinned (OpenSpec.ofChange orderingAgainWrong)

/- THE SECOND FORM. 'bulk': how many values and letters a reading holds, each counted each time it is reached (what is shared counts as often as it is met; a slice's spare places count too). A statement '..UptoSaid' is the law's where the arguments, and the package variables that the reading takes, are together of bulk at most 1048576: NARROWER than '..Said'. Prove '..Said' where nothing that the law and all that it calls make is longer than what came in: it says more and counts as full. Else prove '..UptoSaid'. A law counts once. -/
mutual
def uptoBulk {H : Type} : DataW H → Nat
  | .lit (.string bytes) => bytes.length + 1
  | .lit _ => 1
  | .nil => 1
  | .ptr d => uptoBulk d + 1
  | .slice elems spare => uptoBulkAll elems + uptoBulkAll spare + 1
  | .agg parts => uptoBulkAll parts + 1
  | .iface _ d => uptoBulk d + 1
  | .map entries => uptoBulkEntries entries + 1
  | .held _ => 1
def uptoBulkAll {H : Type} : List (DataW H) → Nat
  | [] => 0
  | d :: r => uptoBulk d + uptoBulkAll r
def uptoBulkEntries {H : Type} : List (Lit × DataW H) → Nat
  | [] => 0
  | x :: r => uptoBulkEntry x + uptoBulkEntries r
def uptoBulkEntry {H : Type} : Lit × DataW H → Nat
  | (.string bytes, d) => bytes.length + uptoBulk d + 1
  | (_, d) => uptoBulk d + 1
 end
def uptoSmall : (H : Type) → List (DataW H) → Bool := fun _ ds => decide (uptoBulkAll ds ≤ 1048576)
def OpenSpec.upto (s : _root_.Go.ChangeSpec) : _root_.Go.OpenSpec := { _root_.Go.OpenSpec.ofChange s with cond := some uptoSmall }

/-- 'unicodetextlaw20.OrderingChecks', WHERE WHAT IT READS IS OF BULK AT MOST 1048576: true; the input reads as it did. -/
def orderingChecksUptoRow : OpenClaim := { program := "ytamekpldmplenaadoor", sum := "b2eb7e43b79fd1ee914d788a07399a54ad9886164f9e70445e9733fa85167bda", func := "unicodetext/unicodetextlaw20.OrderingChecks", spec := "orderingChecks", unfollowed := true, recurses := true, named := ["unicodetext/ordering.ranges"], apart := false, laid := [("unicodetext/ordering.ranges", laid_unicodetext_ordering_ranges)], narrowed := true }
def OrderingChecksUptoSaid : Prop := orderingChecksUptoRow.holds Tryd.pinned (OpenSpec.upto orderingChecksSpec)

/-- 'unicodetextlaw20.OrderingRuns', WHERE WHAT IT READS IS OF BULK AT MOST 1048576: true; the input reads as it did. -/
def orderingRunsUptoRow : OpenClaim := { program := "ytamekpldmplenaadoor", sum := "b2eb7e43b79fd1ee914d788a07399a54ad9886164f9e70445e9733fa85167bda", func := "unicodetext/unicodetextlaw20.OrderingRuns", spec := "orderingRuns", unfollowed := true, recurses := true, named := ["unicodetext/ordering.ranges"], apart := false, laid := [("unicodetext/ordering.ranges", laid_unicodetext_ordering_ranges)], narrowed := true }
def OrderingRunsUptoSaid : Prop := orderingRunsUptoRow.holds Tryd.pinned (OpenSpec.upto orderingRunsSpec)

/-- 'unicodetextlaw20.OrderingExchanges', WHERE WHAT IT READS IS OF BULK AT MOST 1048576: true; the input reads as it did. -/
def orderingExchangesUptoRow : OpenClaim := { program := "ytamekpldmplenaadoor", sum := "b2eb7e43b79fd1ee914d788a07399a54ad9886164f9e70445e9733fa85167bda", func := "unicodetext/unicodetextlaw20.OrderingExchanges", spec := "orderingExchanges", unfollowed := true, recurses := true, named := ["unicodetext/ordering.ranges"], apart := false, laid := [("unicodetext/ordering.ranges", laid_unicodetext_ordering_ranges)], narrowed := true }
def OrderingExchangesUptoSaid : Prop := orderingExchangesUptoRow.holds Tryd.pinned (OpenSpec.upto orderingExchangesSpec)

/-- 'unicodetextlaw20.OrderingKeeps', WHERE WHAT IT READS IS OF BULK AT MOST 1048576: true; the input reads as it did. -/
def orderingKeepsUptoRow : OpenClaim := { program := "ytamekpldmplenaadoor", sum := "b2eb7e43b79fd1ee914d788a07399a54ad9886164f9e70445e9733fa85167bda", func := "unicodetext/unicodetextlaw20.OrderingKeeps", spec := "orderingKeeps", unfollowed := true, recurses := true, named := ["unicodetext/ordering.ranges"], apart := false, laid := [("unicodetext/ordering.ranges", laid_unicodetext_ordering_ranges)], narrowed := true }
def OrderingKeepsUptoSaid : Prop := orderingKeepsUptoRow.holds Tryd.pinned (OpenSpec.upto orderingKeepsSpec)

/-- 'unicodetextlaw20.OrderingStable', WHERE WHAT IT READS IS OF BULK AT MOST 1048576: true; the input reads as it did. -/
def orderingStableUptoRow : OpenClaim := { program := "ytamekpldmplenaadoor", sum := "b2eb7e43b79fd1ee914d788a07399a54ad9886164f9e70445e9733fa85167bda", func := "unicodetext/unicodetextlaw20.OrderingStable", spec := "orderingStable", unfollowed := true, recurses := true, named := ["unicodetext/ordering.ranges"], apart := false, laid := [("unicodetext/ordering.ranges", laid_unicodetext_ordering_ranges)], narrowed := true }
def OrderingStableUptoSaid : Prop := orderingStableUptoRow.holds Tryd.pinned (OpenSpec.upto orderingStableSpec)

/-- 'unicodetextlaw20.OrderingClasses', WHERE WHAT IT READS IS OF BULK AT MOST 1048576: true; the input reads as it did. -/
def orderingClassesUptoRow : OpenClaim := { program := "ytamekpldmplenaadoor", sum := "b2eb7e43b79fd1ee914d788a07399a54ad9886164f9e70445e9733fa85167bda", func := "unicodetext/unicodetextlaw20.OrderingClasses", spec := "orderingClasses", unfollowed := true, recurses := true, named := ["unicodetext/ordering.ranges"], apart := false, laid := [("unicodetext/ordering.ranges", laid_unicodetext_ordering_ranges)], narrowed := true }
def OrderingClassesUptoSaid : Prop := orderingClassesUptoRow.holds Tryd.pinned (OpenSpec.upto orderingClassesSpec)

/-- 'unicodetextlaw20.OrderingJoins', WHERE WHAT IT READS IS OF BULK AT MOST 1048576: true; the input reads as it did. -/
def orderingJoinsUptoRow : OpenClaim := { program := "ytamekpldmplenaadoor", sum := "b2eb7e43b79fd1ee914d788a07399a54ad9886164f9e70445e9733fa85167bda", func := "unicodetext/unicodetextlaw20.OrderingJoins", spec := "orderingJoins", unfollowed := true, recurses := true, named := ["unicodetext/ordering.ranges"], apart := false, laid := [("unicodetext/ordering.ranges", laid_unicodetext_ordering_ranges)], narrowed := true }
def OrderingJoinsUptoSaid : Prop := orderingJoinsUptoRow.holds Tryd.pinned (OpenSpec.upto orderingJoinsSpec)

/-- 'unicodetextlaw20.OrderingSorts', WHERE WHAT IT READS IS OF BULK AT MOST 1048576: true; the input reads as it did. -/
def orderingSortsUptoRow : OpenClaim := { program := "ytamekpldmplenaadoor", sum := "b2eb7e43b79fd1ee914d788a07399a54ad9886164f9e70445e9733fa85167bda", func := "unicodetext/unicodetextlaw20.OrderingSorts", spec := "orderingSorts", unfollowed := true, recurses := true, named := ["unicodetext/ordering.ranges"], apart := false, laid := [("unicodetext/ordering.ranges", laid_unicodetext_ordering_ranges)], narrowed := true }
def OrderingSortsUptoSaid : Prop := orderingSortsUptoRow.holds Tryd.pinned (OpenSpec.upto orderingSortsSpec)

/-- 'unicodetextlaw20.OrderingAgain', WHERE WHAT IT READS IS OF BULK AT MOST 1048576: true; the input reads as it did. -/
def orderingAgainUptoRow : OpenClaim := { program := "ytamekpldmplenaadoor", sum := "b2eb7e43b79fd1ee914d788a07399a54ad9886164f9e70445e9733fa85167bda", func := "unicodetext/unicodetextlaw20.OrderingAgain", spec := "orderingAgain", unfollowed := true, recurses := true, named := ["unicodetext/ordering.ranges"], apart := false, laid := [("unicodetext/ordering.ranges", laid_unicodetext_ordering_ranges)], narrowed := true }
def OrderingAgainUptoSaid : Prop := orderingAgainUptoRow.holds Tryd.pinned (OpenSpec.upto orderingAgainSpec)

end Rows
end Go.Proofs.YtamekpldmplenaaDoor
