/-
  No cell of these rows narrows 'for every input' (looked for: loops, veiled, ifaces, maps, wideKeys, modest, calm, conditions, laid).
  DERIVED. THE GIVEN ROWS OF THIS SEAT. 2 by the template 'for every input the law returns true; each argument reads behind the call as it read before'; 0 by the template 'total and deterministic' (their statements: YthnfeimjhibcaaaTotals.lean).
  GIVEN WITH THE SEED: the statements are not yours to turn. If you find one false, say at which input.
  Laid BY PROGRAM, IN A SANDBOX (cutbox-rows.mjs): the forced cells as the released guide's own fill.sh prints them over the translation 2020f198b7349b98… (all of the seat's roots in one cut). By AI agents, Wed Nov 11 2026. No macro, syntax, notation, axiom, sorry.
-/
import Derived.Test.YthnfeimjhibcaaaChecked
import GoSem.Claim
import GoSem.ClaimJoined
import GoSem.ClaimMapViews
import Derived.JoinedTies
import Derived.KernelRfl
namespace Go.Proofs.Ythnfeimjhibcaaa
/- THE CELL 'sum', in the pinned program and in every row, IS THE sha256 OF THE DUMP (.gsa) THAT YthnfeimjhibcaaaProg.lean LOADS. Nothing in Lean hashes anything: it is a label: what it is worth is what the hold of that sum in a sandbox is worth. -/
noncomputable def Try.pinned : Pinned := { name := "ythnfeimjhibcaaa", sum := "2020f198b7349b9821b8cec47355a2f7ce0991cc02b7585dedfe0106cb040aa6", checked := Try.checked }
namespace Rows
def none {H : Type} : Left H := { results := [], args := [] }

/-- 'kelirtop.TopNoted': WHATEVER THE INPUT: true; the input reads as it did. -/
def topNotedSpec : ChangeSpec := { name := "topNoted", fn := fun _ => fun
  | [d1, d2, d3, d4] => { results := [.lit (.bool true)], args := [d1, d2, d3, d4] }
  | _ => none }
def topNotedRow : OpenClaim := { program := "ythnfeimjhibcaaa", sum := "2020f198b7349b9821b8cec47355a2f7ce0991cc02b7585dedfe0106cb040aa6", func := "kelir/kelirtop.TopNoted", spec := "topNoted", unfollowed := true, recurses := true, plainKeys := false, apart := false }
def TopNotedSaid : Prop := topNotedRow.holds Try.pinned (OpenSpec.ofChange topNotedSpec)

/-- ITS FALSE NEIGHBOUR: 'it returns false'. Refute it at one input. -/
def topNotedWrong : ChangeSpec := { name := "topNoted", fn := fun _ => fun
  | [d1, d2, d3, d4] => { results := [.lit (.bool false)], args := [d1, d2, d3, d4] }
  | _ => none }
def TopNotedWrongFalsely : Prop := topNotedRow.holds Try.pinned (OpenSpec.ofChange topNotedWrong)

/-- 'kelirtop.TopShelf': WHATEVER THE INPUT: true; the input reads as it did. -/
def topShelfSpec : ChangeSpec := { name := "topShelf", fn := fun _ => fun
  | [d1, d2] => { results := [.lit (.bool true)], args := [d1, d2] }
  | _ => none }
def topShelfRow : OpenClaim := { program := "ythnfeimjhibcaaa", sum := "2020f198b7349b9821b8cec47355a2f7ce0991cc02b7585dedfe0106cb040aa6", func := "kelir/kelirtop.TopShelf", spec := "topShelf", unfollowed := true, recurses := true, plainKeys := false, apart := false }
def TopShelfSaid : Prop := topShelfRow.holds Try.pinned (OpenSpec.ofChange topShelfSpec)

/-- ITS FALSE NEIGHBOUR: 'it returns false'. Refute it at one input. -/
def topShelfWrong : ChangeSpec := { name := "topShelf", fn := fun _ => fun
  | [d1, d2] => { results := [.lit (.bool false)], args := [d1, d2] }
  | _ => none }
def TopShelfWrongFalsely : Prop := topShelfRow.holds Try.pinned (OpenSpec.ofChange topShelfWrong)

/- THE SECOND FORM. 'bulk': how many values and letters a reading holds, each counted each time it is reached (what is shared counts as often as it is met; a slice's spare places count too). A statement '..UptoSaid' is the law's where the arguments, and the package variables that the reading takes, are together of bulk at most 1048576: NARROWER than '..Said'. Prove '..Said' where nothing that the law and all that it calls make is longer than what came in: it says more and counts as full. Else prove '..UptoSaid'. A law counts once. -/
mutual
def uptoBulk {H : Type} : DataW H → Nat
  | .lit (.string bytes) => bytes.length + 1
  | .lit _ => 1
  | .nil => 1
  | .ptr d => uptoBulk d + 1
  | .slice elems spare => uptoBulkAll elems + uptoBulkAll spare + 1
  | .agg parts => uptoBulkAll parts + 1
  | .iface _ d => uptoBulk d + 1
  | .map entries => uptoBulkEntries entries + 1
  | .held _ => 1
def uptoBulkAll {H : Type} : List (DataW H) → Nat
  | [] => 0
  | d :: r => uptoBulk d + uptoBulkAll r
def uptoBulkEntries {H : Type} : List (Lit × DataW H) → Nat
  | [] => 0
  | x :: r => uptoBulkEntry x + uptoBulkEntries r
def uptoBulkEntry {H : Type} : Lit × DataW H → Nat
  | (.string bytes, d) => bytes.length + uptoBulk d + 1
  | (_, d) => uptoBulk d + 1
 end
def uptoSmall : (H : Type) → List (DataW H) → Bool := fun _ ds => decide (uptoBulkAll ds ≤ 1048576)
def OpenSpec.upto (s : _root_.Go.ChangeSpec) : _root_.Go.OpenSpec := { _root_.Go.OpenSpec.ofChange s with cond := some uptoSmall }

/-- 'kelirtop.TopNoted', WHERE WHAT IT READS IS OF BULK AT MOST 1048576: true; the input reads as it did. -/
def topNotedUptoRow : OpenClaim := { program := "ythnfeimjhibcaaa", sum := "2020f198b7349b9821b8cec47355a2f7ce0991cc02b7585dedfe0106cb040aa6", func := "kelir/kelirtop.TopNoted", spec := "topNoted", unfollowed := true, recurses := true, plainKeys := false, apart := false, narrowed := true }
def TopNotedUptoSaid : Prop := topNotedUptoRow.holds Try.pinned (OpenSpec.upto topNotedSpec)

/-- 'kelirtop.TopShelf', WHERE WHAT IT READS IS OF BULK AT MOST 1048576: true; the input reads as it did. -/
def topShelfUptoRow : OpenClaim := { program := "ythnfeimjhibcaaa", sum := "2020f198b7349b9821b8cec47355a2f7ce0991cc02b7585dedfe0106cb040aa6", func := "kelir/kelirtop.TopShelf", spec := "topShelf", unfollowed := true, recurses := true, plainKeys := false, apart := false, narrowed := true }
def TopShelfUptoSaid : Prop := topShelfUptoRow.holds Try.pinned (OpenSpec.upto topShelfSpec)

end Rows
end Go.Proofs.Ythnfeimjhibcaaa
