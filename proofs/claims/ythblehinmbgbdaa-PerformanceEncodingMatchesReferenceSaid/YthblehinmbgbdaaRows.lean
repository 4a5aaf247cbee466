/-
  No cell of these rows narrows 'for every input' (looked for: loops, veiled, ifaces, maps, wideKeys, modest, calm, conditions, laid).
  DERIVED. THE GIVEN ROWS OF THIS SEAT. 8 by the template 'for every input the law returns true; each argument reads behind the call as it read before'; 0 by the template 'total and deterministic' (their statements: YthblehinmbgbdaaTotals.lean).
  GIVEN WITH THE SEED: the statements are not yours to turn. If you find one false, say at which input.
  Laid BY PROGRAM, IN A SANDBOX (cutbox-rows.mjs): the forced cells as the released guide's own fill.sh prints them over the translation 1f9756c77386b856… (all of the seat's roots in one cut). By AI agents, Wed Nov 11 2026. No macro, syntax, notation, axiom, sorry.
-/
import Derived.Test.YthblehinmbgbdaaChecked
import GoSem.Claim
import GoSem.ClaimJoined
import GoSem.ClaimMapViews
import Derived.JoinedTies
import Derived.KernelRfl
namespace Go.Proofs.Ythblehinmbgbdaa
/- THE CELL 'sum', in the pinned program and in every row, IS THE sha256 OF THE DUMP (.gsa) THAT YthblehinmbgbdaaProg.lean LOADS. Nothing in Lean hashes anything: it is a label: what it is worth is what the hold of that sum in a sandbox is worth. -/
noncomputable def Try.pinned : Pinned := { name := "ythblehinmbgbdaa", sum := "1f9756c77386b85691caffb6d52d3ac3fc38ea706e4744eb7e269314bd5378ca", checked := Try.checked }
namespace Rows
def none {H : Type} : Left H := { results := [], args := [] }

/-- 'evergreenlaw13.PerformanceMatchesReference': WHATEVER THE INPUT: true; the input reads as it did. -/
def performanceMatchesReferenceSpec : ChangeSpec := { name := "performanceMatchesReference", fn := fun _ => fun
  | [d1, d2, d3, d4, d5, d6, d7, d8] => { results := [.lit (.bool true)], args := [d1, d2, d3, d4, d5, d6, d7, d8] }
  | _ => none }
def performanceMatchesReferenceRow : OpenClaim := { program := "ythblehinmbgbdaa", sum := "1f9756c77386b85691caffb6d52d3ac3fc38ea706e4744eb7e269314bd5378ca", func := "evergreen/evergreenlaw13.PerformanceMatchesReference", spec := "performanceMatchesReference", unfollowed := true, recurses := true, plainKeys := false, apart := false }
def PerformanceMatchesReferenceSaid : Prop := performanceMatchesReferenceRow.holds Try.pinned (OpenSpec.ofChange performanceMatchesReferenceSpec)

/-- ITS FALSE NEIGHBOUR: 'it returns false'. Refute it at one input. -/
def performanceMatchesReferenceWrong : ChangeSpec := { name := "performanceMatchesReference", fn := fun _ => fun
  | [d1, d2, d3, d4, d5, d6, d7, d8] => { results := [.lit (.bool false)], args := [d1, d2, d3, d4, d5, d6, d7, d8] }
  | _ => none }
def PerformanceMatchesReferenceWrongFalsely : Prop := performanceMatchesReferenceRow.holds Try.pinned (OpenSpec.ofChange performanceMatchesReferenceWrong)

/-- 'evergreenlaw13.PerformanceEncodingMatchesReference': WHATEVER THE INPUT: true; the input reads as it did. -/
def performanceEncodingMatchesReferenceSpec : ChangeSpec := { name := "performanceEncodingMatchesReference", fn := fun _ => fun
  | [d1, d2, d3, d4, d5] => { results := [.lit (.bool true)], args := [d1, d2, d3, d4, d5] }
  | _ => none }
def performanceEncodingMatchesReferenceRow : OpenClaim := { program := "ythblehinmbgbdaa", sum := "1f9756c77386b85691caffb6d52d3ac3fc38ea706e4744eb7e269314bd5378ca", func := "evergreen/evergreenlaw13.PerformanceEncodingMatchesReference", spec := "performanceEncodingMatchesReference", unfollowed := true, recurses := true, plainKeys := false, apart := false }
def PerformanceEncodingMatchesReferenceSaid : Prop := performanceEncodingMatchesReferenceRow.holds Try.pinned (OpenSpec.ofChange performanceEncodingMatchesReferenceSpec)

/-- ITS FALSE NEIGHBOUR: 'it returns false'. Refute it at one input. -/
def performanceEncodingMatchesReferenceWrong : ChangeSpec := { name := "performanceEncodingMatchesReference", fn := fun _ => fun
  | [d1, d2, d3, d4, d5] => { results := [.lit (.bool false)], args := [d1, d2, d3, d4, d5] }
  | _ => none }
def PerformanceEncodingMatchesReferenceWrongFalsely : Prop := performanceEncodingMatchesReferenceRow.holds Try.pinned (OpenSpec.ofChange performanceEncodingMatchesReferenceWrong)

/-- 'evergreenlaw13.PerformancePaired': WHATEVER THE INPUT: true; the input reads as it did. -/
def performancePairedSpec : ChangeSpec := { name := "performancePaired", fn := fun _ => fun
  | [d1, d2, d3, d4, d5] => { results := [.lit (.bool true)], args := [d1, d2, d3, d4, d5] }
  | _ => none }
def performancePairedRow : OpenClaim := { program := "ythblehinmbgbdaa", sum := "1f9756c77386b85691caffb6d52d3ac3fc38ea706e4744eb7e269314bd5378ca", func := "evergreen/evergreenlaw13.PerformancePaired", spec := "performancePaired", unfollowed := true, recurses := true, plainKeys := false, apart := false }
def PerformancePairedSaid : Prop := performancePairedRow.holds Try.pinned (OpenSpec.ofChange performancePairedSpec)

/-- ITS FALSE NEIGHBOUR: 'it returns false'. Refute it at one input. -/
def performancePairedWrong : ChangeSpec := { name := "performancePaired", fn := fun _ => fun
  | [d1, d2, d3, d4, d5] => { results := [.lit (.bool false)], args := [d1, d2, d3, d4, d5] }
  | _ => none }
def PerformancePairedWrongFalsely : Prop := performancePairedRow.holds Try.pinned (OpenSpec.ofChange performancePairedWrong)

/-- 'evergreenlaw13.PerformanceOrdered': WHATEVER THE INPUT: true; the input reads as it did. -/
def performanceOrderedSpec : ChangeSpec := { name := "performanceOrdered", fn := fun _ => fun
  | [d1, d2, d3, d4, d5] => { results := [.lit (.bool true)], args := [d1, d2, d3, d4, d5] }
  | _ => none }
def performanceOrderedRow : OpenClaim := { program := "ythblehinmbgbdaa", sum := "1f9756c77386b85691caffb6d52d3ac3fc38ea706e4744eb7e269314bd5378ca", func := "evergreen/evergreenlaw13.PerformanceOrdered", spec := "performanceOrdered", unfollowed := true, recurses := true, plainKeys := false, apart := false }
def PerformanceOrderedSaid : Prop := performanceOrderedRow.holds Try.pinned (OpenSpec.ofChange performanceOrderedSpec)

/-- ITS FALSE NEIGHBOUR: 'it returns false'. Refute it at one input. -/
def performanceOrderedWrong : ChangeSpec := { name := "performanceOrdered", fn := fun _ => fun
  | [d1, d2, d3, d4, d5] => { results := [.lit (.bool false)], args := [d1, d2, d3, d4, d5] }
  | _ => none }
def PerformanceOrderedWrongFalsely : Prop := performanceOrderedRow.holds Try.pinned (OpenSpec.ofChange performanceOrderedWrong)

/-- 'evergreenlaw13.PerformanceChain': WHATEVER THE INPUT: true; the input reads as it did. -/
def performanceChainSpec : ChangeSpec := { name := "performanceChain", fn := fun _ => fun
  | [d1, d2, d3, d4, d5] => { results := [.lit (.bool true)], args := [d1, d2, d3, d4, d5] }
  | _ => none }
def performanceChainRow : OpenClaim := { program := "ythblehinmbgbdaa", sum := "1f9756c77386b85691caffb6d52d3ac3fc38ea706e4744eb7e269314bd5378ca", func := "evergreen/evergreenlaw13.PerformanceChain", spec := "performanceChain", unfollowed := true, recurses := true, plainKeys := false, apart := false }
def PerformanceChainSaid : Prop := performanceChainRow.holds Try.pinned (OpenSpec.ofChange performanceChainSpec)

/-- ITS FALSE NEIGHBOUR: 'it returns false'. Refute it at one input. -/
def performanceChainWrong : ChangeSpec := { name := "performanceChain", fn := fun _ => fun
  | [d1, d2, d3, d4, d5] => { results := [.lit (.bool false)], args := [d1, d2, d3, d4, d5] }
  | _ => none }
def PerformanceChainWrongFalsely : Prop := performanceChainRow.holds Try.pinned (OpenSpec.ofChange performanceChainWrong)

/-- 'evergreenlaw13.PerformanceWeaker': WHATEVER THE INPUT: true; the input reads as it did. -/
def performanceWeakerSpec : ChangeSpec := { name := "performanceWeaker", fn := fun _ => fun
  | [d1, d2, d3, d4] => { results := [.lit (.bool true)], args := [d1, d2, d3, d4] }
  | _ => none }
def performanceWeakerRow : OpenClaim := { program := "ythblehinmbgbdaa", sum := "1f9756c77386b85691caffb6d52d3ac3fc38ea706e4744eb7e269314bd5378ca", func := "evergreen/evergreenlaw13.PerformanceWeaker", spec := "performanceWeaker", unfollowed := true, recurses := true, plainKeys := false, apart := false }
def PerformanceWeakerSaid : Prop := performanceWeakerRow.holds Try.pinned (OpenSpec.ofChange performanceWeakerSpec)

/-- ITS FALSE NEIGHBOUR: 'it returns false'. Refute it at one input. -/
def performanceWeakerWrong : ChangeSpec := { name := "performanceWeaker", fn := fun _ => fun
  | [d1, d2, d3, d4] => { results := [.lit (.bool false)], args := [d1, d2, d3, d4] }
  | _ => none }
def PerformanceWeakerWrongFalsely : Prop := performanceWeakerRow.holds Try.pinned (OpenSpec.ofChange performanceWeakerWrong)

/-- 'evergreenlaw13.PerformanceExactly': WHATEVER THE INPUT: true; the input reads as it did. -/
def performanceExactlySpec : ChangeSpec := { name := "performanceExactly", fn := fun _ => fun
  | [d1, d2, d3, d4, d5] => { results := [.lit (.bool true)], args := [d1, d2, d3, d4, d5] }
  | _ => none }
def performanceExactlyRow : OpenClaim := { program := "ythblehinmbgbdaa", sum := "1f9756c77386b85691caffb6d52d3ac3fc38ea706e4744eb7e269314bd5378ca", func := "evergreen/evergreenlaw13.PerformanceExactly", spec := "performanceExactly", unfollowed := true, recurses := true, plainKeys := false, apart := false }
def PerformanceExactlySaid : Prop := performanceExactlyRow.holds Try.pinned (OpenSpec.ofChange performanceExactlySpec)

/-- ITS FALSE NEIGHBOUR: 'it returns false'. Refute it at one input. -/
def performanceExactlyWrong : ChangeSpec := { name := "performanceExactly", fn := fun _ => fun
  | [d1, d2, d3, d4, d5] => { results := [.lit (.bool false)], args := [d1, d2, d3, d4, d5] }
  | _ => none }
def PerformanceExactlyWrongFalsely : Prop := performanceExactlyRow.holds Try.pinned (OpenSpec.ofChange performanceExactlyWrong)

/-- 'evergreenlaw13.PerformanceIgnored': WHATEVER THE INPUT: true; the input reads as it did. -/
def performanceIgnoredSpec : ChangeSpec := { name := "performanceIgnored", fn := fun _ => fun
  | [d1, d2, d3, d4, d5] => { results := [.lit (.bool true)], args := [d1, d2, d3, d4, d5] }
  | _ => none }
def performanceIgnoredRow : OpenClaim := { program := "ythblehinmbgbdaa", sum := "1f9756c77386b85691caffb6d52d3ac3fc38ea706e4744eb7e269314bd5378ca", func := "evergreen/evergreenlaw13.PerformanceIgnored", spec := "performanceIgnored", unfollowed := true, recurses := true, plainKeys := false, apart := false }
def PerformanceIgnoredSaid : Prop := performanceIgnoredRow.holds Try.pinned (OpenSpec.ofChange performanceIgnoredSpec)

/-- ITS FALSE NEIGHBOUR: 'it returns false'. Refute it at one input. -/
def performanceIgnoredWrong : ChangeSpec := { name := "performanceIgnored", fn := fun _ => fun
  | [d1, d2, d3, d4, d5] => { results := [.lit (.bool false)], args := [d1, d2, d3, d4, d5] }
  | _ => none }
def PerformanceIgnoredWrongFalsely : Prop := performanceIgnoredRow.holds Try.pinned (OpenSpec.ofChange performanceIgnoredWrong)

/- THE SECOND FORM. 'bulk': how many values and letters a reading holds, each counted each time it is reached (what is shared counts as often as it is met; a slice's spare places count too). A statement '..UptoSaid' is the law's where the arguments, and the package variables that the reading takes, are together of bulk at most 1048576: NARROWER than '..Said'. Prove '..Said' where nothing that the law and all that it calls make is longer than what came in: it says more and counts as full. Else prove '..UptoSaid'. A law counts once. -/
mutual
def uptoBulk {H : Type} : DataW H → Nat
  | .lit (.string bytes) => bytes.length + 1
  | .lit _ => 1
  | .nil => 1
  | .ptr d => uptoBulk d + 1
  | .slice elems spare => uptoBulkAll elems + uptoBulkAll spare + 1
  | .agg parts => uptoBulkAll parts + 1
  | .iface _ d => uptoBulk d + 1
  | .map entries => uptoBulkEntries entries + 1
  | .held _ => 1
def uptoBulkAll {H : Type} : List (DataW H) → Nat
  | [] => 0
  | d :: r => uptoBulk d + uptoBulkAll r
def uptoBulkEntries {H : Type} : List (Lit × DataW H) → Nat
  | [] => 0
  | x :: r => uptoBulkEntry x + uptoBulkEntries r
def uptoBulkEntry {H : Type} : Lit × DataW H → Nat
  | (.string bytes, d) => bytes.length + uptoBulk d + 1
  | (_, d) => uptoBulk d + 1
 end
def uptoSmall : (H : Type) → List (DataW H) → Bool := fun _ ds => decide (uptoBulkAll ds ≤ 1048576)
def OpenSpec.upto (s : _root_.Go.ChangeSpec) : _root_.Go.OpenSpec := { _root_.Go.OpenSpec.ofChange s with cond := some uptoSmall }

/-- 'evergreenlaw13.PerformanceMatchesReference', WHERE WHAT IT READS IS OF BULK AT MOST 1048576: true; the input reads as it did. -/
def performanceMatchesReferenceUptoRow : OpenClaim := { program := "ythblehinmbgbdaa", sum := "1f9756c77386b85691caffb6d52d3ac3fc38ea706e4744eb7e269314bd5378ca", func := "evergreen/evergreenlaw13.PerformanceMatchesReference", spec := "performanceMatchesReference", unfollowed := true, recurses := true, plainKeys := false, apart := false, narrowed := true }
def PerformanceMatchesReferenceUptoSaid : Prop := performanceMatchesReferenceUptoRow.holds Try.pinned (OpenSpec.upto performanceMatchesReferenceSpec)

/-- 'evergreenlaw13.PerformanceEncodingMatchesReference', WHERE WHAT IT READS IS OF BULK AT MOST 1048576: true; the input reads as it did. -/
def performanceEncodingMatchesReferenceUptoRow : OpenClaim := { program := "ythblehinmbgbdaa", sum := "1f9756c77386b85691caffb6d52d3ac3fc38ea706e4744eb7e269314bd5378ca", func := "evergreen/evergreenlaw13.PerformanceEncodingMatchesReference", spec := "performanceEncodingMatchesReference", unfollowed := true, recurses := true, plainKeys := false, apart := false, narrowed := true }
def PerformanceEncodingMatchesReferenceUptoSaid : Prop := performanceEncodingMatchesReferenceUptoRow.holds Try.pinned (OpenSpec.upto performanceEncodingMatchesReferenceSpec)

/-- 'evergreenlaw13.PerformancePaired', WHERE WHAT IT READS IS OF BULK AT MOST 1048576: true; the input reads as it did. -/
def performancePairedUptoRow : OpenClaim := { program := "ythblehinmbgbdaa", sum := "1f9756c77386b85691caffb6d52d3ac3fc38ea706e4744eb7e269314bd5378ca", func := "evergreen/evergreenlaw13.PerformancePaired", spec := "performancePaired", unfollowed := true, recurses := true, plainKeys := false, apart := false, narrowed := true }
def PerformancePairedUptoSaid : Prop := performancePairedUptoRow.holds Try.pinned (OpenSpec.upto performancePairedSpec)

/-- 'evergreenlaw13.PerformanceOrdered', WHERE WHAT IT READS IS OF BULK AT MOST 1048576: true; the input reads as it did. -/
def performanceOrderedUptoRow : OpenClaim := { program := "ythblehinmbgbdaa", sum := "1f9756c77386b85691caffb6d52d3ac3fc38ea706e4744eb7e269314bd5378ca", func := "evergreen/evergreenlaw13.PerformanceOrdered", spec := "performanceOrdered", unfollowed := true, recurses := true, plainKeys := false, apart := false, narrowed := true }
def PerformanceOrderedUptoSaid : Prop := performanceOrderedUptoRow.holds Try.pinned (OpenSpec.upto performanceOrderedSpec)

/-- 'evergreenlaw13.PerformanceChain', WHERE WHAT IT READS IS OF BULK AT MOST 1048576: true; the input reads as it did. -/
def performanceChainUptoRow : OpenClaim := { program := "ythblehinmbgbdaa", sum := "1f9756c77386b85691caffb6d52d3ac3fc38ea706e4744eb7e269314bd5378ca", func := "evergreen/evergreenlaw13.PerformanceChain", spec := "performanceChain", unfollowed := true, recurses := true, plainKeys := false, apart := false, narrowed := true }
def PerformanceChainUptoSaid : Prop := performanceChainUptoRow.holds Try.pinned (OpenSpec.upto performanceChainSpec)

/-- 'evergreenlaw13.PerformanceWeaker', WHERE WHAT IT READS IS OF BULK AT MOST 1048576: true; the input reads as it did. -/
def performanceWeakerUptoRow : OpenClaim := { program := "ythblehinmbgbdaa", sum := "1f9756c77386b85691caffb6d52d3ac3fc38ea706e4744eb7e269314bd5378ca", func := "evergreen/evergreenlaw13.PerformanceWeaker", spec := "performanceWeaker", unfollowed := true, recurses := true, plainKeys := false, apart := false, narrowed := true }
def PerformanceWeakerUptoSaid : Prop := performanceWeakerUptoRow.holds Try.pinned (OpenSpec.upto performanceWeakerSpec)

/-- 'evergreenlaw13.PerformanceExactly', WHERE WHAT IT READS IS OF BULK AT MOST 1048576: true; the input reads as it did. -/
def performanceExactlyUptoRow : OpenClaim := { program := "ythblehinmbgbdaa", sum := "1f9756c77386b85691caffb6d52d3ac3fc38ea706e4744eb7e269314bd5378ca", func := "evergreen/evergreenlaw13.PerformanceExactly", spec := "performanceExactly", unfollowed := true, recurses := true, plainKeys := false, apart := false, narrowed := true }
def PerformanceExactlyUptoSaid : Prop := performanceExactlyUptoRow.holds Try.pinned (OpenSpec.upto performanceExactlySpec)

/-- 'evergreenlaw13.PerformanceIgnored', WHERE WHAT IT READS IS OF BULK AT MOST 1048576: true; the input reads as it did. -/
def performanceIgnoredUptoRow : OpenClaim := { program := "ythblehinmbgbdaa", sum := "1f9756c77386b85691caffb6d52d3ac3fc38ea706e4744eb7e269314bd5378ca", func := "evergreen/evergreenlaw13.PerformanceIgnored", spec := "performanceIgnored", unfollowed := true, recurses := true, plainKeys := false, apart := false, narrowed := true }
def PerformanceIgnoredUptoSaid : Prop := performanceIgnoredUptoRow.holds Try.pinned (OpenSpec.upto performanceIgnoredSpec)

end Rows
end Go.Proofs.Ythblehinmbgbdaa
