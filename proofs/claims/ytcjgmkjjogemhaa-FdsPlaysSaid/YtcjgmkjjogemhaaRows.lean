/-
  No cell of these rows narrows 'for every input' (looked for: loops, veiled, ifaces, maps, wideKeys, modest, calm, conditions, laid).
  DERIVED. THE GIVEN ROWS OF THIS SEAT. 3 by the template 'for every input the law returns true; each argument reads behind the call as it read before'; 0 by the template 'total and deterministic' (their statements: YtcjgmkjjogemhaaTotals.lean).
  GIVEN WITH THE SEED: the statements are not yours to turn. If you find one false, say at which input.
  Laid BY PROGRAM, IN A SANDBOX (cutbox-rows.mjs): the forced cells as the released guide's own fill.sh prints them over the translation 193344351a2bf0c2… (all of the seat's roots in one cut). By AI agents, Wed Nov 11 2026. No macro, syntax, notation, axiom, sorry.
-/
import Derived.Test.YtcjgmkjjogemhaaChecked
import GoSem.Claim
import GoSem.ClaimJoined
import GoSem.ClaimMapViews
import Derived.JoinedTies
import Derived.KernelRfl
namespace Go.Proofs.Ytcjgmkjjogemhaa
/- THE CELL 'sum', in the pinned program and in every row, IS THE sha256 OF THE DUMP (.gsa) THAT YtcjgmkjjogemhaaProg.lean LOADS. Nothing in Lean hashes anything: it is a label: what it is worth is what the hold of that sum in a sandbox is worth. -/
noncomputable def Try.pinned : Pinned := { name := "ytcjgmkjjogemhaa", sum := "193344351a2bf0c22d7b1a25a135c32a84be55513872eb2c968d9f081a7ce944", checked := Try.checked }
namespace Rows
def none {H : Type} : Left H := { results := [], args := [] }

/-- 'scupperlaw24.FdsKeeps': WHATEVER THE INPUT: true; the input reads as it did. -/
def fdsKeepsSpec : ChangeSpec := { name := "fdsKeeps", fn := fun _ => fun
  | [d1, d2, d3] => { results := [.lit (.bool true)], args := [d1, d2, d3] }
  | _ => none }
def fdsKeepsRow : OpenClaim := { program := "ytcjgmkjjogemhaa", sum := "193344351a2bf0c22d7b1a25a135c32a84be55513872eb2c968d9f081a7ce944", func := "scupper/scupperlaw24.FdsKeeps", spec := "fdsKeeps", apart := false }
def FdsKeepsSaid : Prop := fdsKeepsRow.holds Try.pinned (OpenSpec.ofChange fdsKeepsSpec)

/-- ITS FALSE NEIGHBOUR: 'it returns false'. Refute it at one input. -/
def fdsKeepsWrong : ChangeSpec := { name := "fdsKeeps", fn := fun _ => fun
  | [d1, d2, d3] => { results := [.lit (.bool false)], args := [d1, d2, d3] }
  | _ => none }
def FdsKeepsWrongFalsely : Prop := fdsKeepsRow.holds Try.pinned (OpenSpec.ofChange fdsKeepsWrong)

/-- 'scupperlaw24.FdsPlays': WHATEVER THE INPUT: true; the input reads as it did. -/
def fdsPlaysSpec : ChangeSpec := { name := "fdsPlays", fn := fun _ => fun
  | [d] => { results := [.lit (.bool true)], args := [d] }
  | _ => none }
def fdsPlaysRow : OpenClaim := { program := "ytcjgmkjjogemhaa", sum := "193344351a2bf0c22d7b1a25a135c32a84be55513872eb2c968d9f081a7ce944", func := "scupper/scupperlaw24.FdsPlays", spec := "fdsPlays", apart := false }
def FdsPlaysSaid : Prop := fdsPlaysRow.holds Try.pinned (OpenSpec.ofChange fdsPlaysSpec)

/-- ITS FALSE NEIGHBOUR: 'it returns false'. Refute it at one input. -/
def fdsPlaysWrong : ChangeSpec := { name := "fdsPlays", fn := fun _ => fun
  | [d] => { results := [.lit (.bool false)], args := [d] }
  | _ => none }
def FdsPlaysWrongFalsely : Prop := fdsPlaysRow.holds Try.pinned (OpenSpec.ofChange fdsPlaysWrong)

/-- 'scupperlaw24.FdsVoid': WHATEVER THE INPUT: true; the input reads as it did. -/
def fdsVoidSpec : ChangeSpec := { name := "fdsVoid", fn := fun _ => fun
  | [d] => { results := [.lit (.bool true)], args := [d] }
  | _ => none }
def fdsVoidRow : OpenClaim := { program := "ytcjgmkjjogemhaa", sum := "193344351a2bf0c22d7b1a25a135c32a84be55513872eb2c968d9f081a7ce944", func := "scupper/scupperlaw24.FdsVoid", spec := "fdsVoid", apart := false }
def FdsVoidSaid : Prop := fdsVoidRow.holds Try.pinned (OpenSpec.ofChange fdsVoidSpec)

/-- ITS FALSE NEIGHBOUR: 'it returns false'. Refute it at one input. -/
def fdsVoidWrong : ChangeSpec := { name := "fdsVoid", fn := fun _ => fun
  | [d] => { results := [.lit (.bool false)], args := [d] }
  | _ => none }
def FdsVoidWrongFalsely : Prop := fdsVoidRow.holds Try.pinned (OpenSpec.ofChange fdsVoidWrong)

/- THE SECOND FORM. 'bulk': how many values and letters a reading holds, each counted each time it is reached (what is shared counts as often as it is met; a slice's spare places count too). A statement '..UptoSaid' is the law's where the arguments, and the package variables that the reading takes, are together of bulk at most 1048576: NARROWER than '..Said'. Prove '..Said' where nothing that the law and all that it calls make is longer than what came in: it says more and counts as full. Else prove '..UptoSaid'. A law counts once. -/
mutual
def uptoBulk {H : Type} : DataW H → Nat
  | .lit (.string bytes) => bytes.length + 1
  | .lit _ => 1
  | .nil => 1
  | .ptr d => uptoBulk d + 1
  | .slice elems spare => uptoBulkAll elems + uptoBulkAll spare + 1
  | .agg parts => uptoBulkAll parts + 1
  | .iface _ d => uptoBulk d + 1
  | .map entries => uptoBulkEntries entries + 1
  | .held _ => 1
def uptoBulkAll {H : Type} : List (DataW H) → Nat
  | [] => 0
  | d :: r => uptoBulk d + uptoBulkAll r
def uptoBulkEntries {H : Type} : List (Lit × DataW H) → Nat
  | [] => 0
  | x :: r => uptoBulkEntry x + uptoBulkEntries r
def uptoBulkEntry {H : Type} : Lit × DataW H → Nat
  | (.string bytes, d) => bytes.length + uptoBulk d + 1
  | (_, d) => uptoBulk d + 1
 end
def uptoSmall : (H : Type) → List (DataW H) → Bool := fun _ ds => decide (uptoBulkAll ds ≤ 1048576)
def OpenSpec.upto (s : _root_.Go.ChangeSpec) : _root_.Go.OpenSpec := { _root_.Go.OpenSpec.ofChange s with cond := some uptoSmall }

/-- 'scupperlaw24.FdsKeeps', WHERE WHAT IT READS IS OF BULK AT MOST 1048576: true; the input reads as it did. -/
def fdsKeepsUptoRow : OpenClaim := { program := "ytcjgmkjjogemhaa", sum := "193344351a2bf0c22d7b1a25a135c32a84be55513872eb2c968d9f081a7ce944", func := "scupper/scupperlaw24.FdsKeeps", spec := "fdsKeeps", apart := false, narrowed := true }
def FdsKeepsUptoSaid : Prop := fdsKeepsUptoRow.holds Try.pinned (OpenSpec.upto fdsKeepsSpec)

/-- 'scupperlaw24.FdsPlays', WHERE WHAT IT READS IS OF BULK AT MOST 1048576: true; the input reads as it did. -/
def fdsPlaysUptoRow : OpenClaim := { program := "ytcjgmkjjogemhaa", sum := "193344351a2bf0c22d7b1a25a135c32a84be55513872eb2c968d9f081a7ce944", func := "scupper/scupperlaw24.FdsPlays", spec := "fdsPlays", apart := false, narrowed := true }
def FdsPlaysUptoSaid : Prop := fdsPlaysUptoRow.holds Try.pinned (OpenSpec.upto fdsPlaysSpec)

/-- 'scupperlaw24.FdsVoid', WHERE WHAT IT READS IS OF BULK AT MOST 1048576: true; the input reads as it did. -/
def fdsVoidUptoRow : OpenClaim := { program := "ytcjgmkjjogemhaa", sum := "193344351a2bf0c22d7b1a25a135c32a84be55513872eb2c968d9f081a7ce944", func := "scupper/scupperlaw24.FdsVoid", spec := "fdsVoid", apart := false, narrowed := true }
def FdsVoidUptoSaid : Prop := fdsVoidUptoRow.holds Try.pinned (OpenSpec.upto fdsVoidSpec)

end Rows
end Go.Proofs.Ytcjgmkjjogemhaa
