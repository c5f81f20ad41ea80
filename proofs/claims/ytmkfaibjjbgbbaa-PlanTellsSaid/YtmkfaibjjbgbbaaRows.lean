/-
  No cell of these rows narrows 'for every input' (looked for: loops, veiled, ifaces, maps, wideKeys, modest, calm, conditions, laid).
  DERIVED. THE GIVEN ROWS OF THIS SEAT. 7 by the template 'for every input the law returns true; each argument reads behind the call as it read before'; 0 by the template 'total and deterministic' (their statements: YtmkfaibjjbgbbaaTotals.lean).
  GIVEN WITH THE SEED: the statements are not yours to turn. If you find one false, say at which input.
  Laid BY PROGRAM, IN A SANDBOX (cutbox-rows.mjs): the forced cells as the released guide's own fill.sh prints them over the translation 7954ebab9ff5e588… (all of the seat's roots in one cut). By AI agents, Wed Nov 11 2026. No macro, syntax, notation, axiom, sorry.
-/
import Derived.Test.YtmkfaibjjbgbbaaChecked
import GoSem.Claim
import GoSem.ClaimJoined
import GoSem.ClaimMapViews
import Derived.JoinedTies
import Derived.KernelRfl
namespace Go.Proofs.Ytmkfaibjjbgbbaa
/- THE CELL 'sum', in the pinned program and in every row, IS THE sha256 OF THE DUMP (.gsa) THAT YtmkfaibjjbgbbaaProg.lean LOADS. Nothing in Lean hashes anything: it is a label: what it is worth is what the hold of that sum in a sandbox is worth. -/
noncomputable def Try.pinned : Pinned := { name := "ytmkfaibjjbgbbaa", sum := "7954ebab9ff5e58840ca77e4498e0f272308a86fab19d608b510611d66e281ff", checked := Try.checked }
namespace Rows
def none {H : Type} : Left H := { results := [], args := [] }

/-- 'scupperlaw14.GraphGoes': WHATEVER THE INPUT: true; the input reads as it did. -/
def graphGoesSpec : ChangeSpec := { name := "graphGoes", fn := fun _ => fun
  | [d] => { results := [.lit (.bool true)], args := [d] }
  | _ => none }
def graphGoesRow : OpenClaim := { program := "ytmkfaibjjbgbbaa", sum := "7954ebab9ff5e58840ca77e4498e0f272308a86fab19d608b510611d66e281ff", func := "scupper/scupperlaw14.GraphGoes", spec := "graphGoes", unfollowed := true, recurses := true, apart := false }
def GraphGoesSaid : Prop := graphGoesRow.holds Try.pinned (OpenSpec.ofChange graphGoesSpec)

/-- ITS FALSE NEIGHBOUR: 'it returns false'. Refute it at one input. -/
def graphGoesWrong : ChangeSpec := { name := "graphGoes", fn := fun _ => fun
  | [d] => { results := [.lit (.bool false)], args := [d] }
  | _ => none }
def GraphGoesWrongFalsely : Prop := graphGoesRow.holds Try.pinned (OpenSpec.ofChange graphGoesWrong)

/-- 'scupperlaw14.GraphPlays': WHATEVER THE INPUT: true; the input reads as it did. -/
def graphPlaysSpec : ChangeSpec := { name := "graphPlays", fn := fun _ => fun
  | [d1, d2] => { results := [.lit (.bool true)], args := [d1, d2] }
  | _ => none }
def graphPlaysRow : OpenClaim := { program := "ytmkfaibjjbgbbaa", sum := "7954ebab9ff5e58840ca77e4498e0f272308a86fab19d608b510611d66e281ff", func := "scupper/scupperlaw14.GraphPlays", spec := "graphPlays", unfollowed := true, recurses := true, apart := false }
def GraphPlaysSaid : Prop := graphPlaysRow.holds Try.pinned (OpenSpec.ofChange graphPlaysSpec)

/-- ITS FALSE NEIGHBOUR: 'it returns false'. Refute it at one input. -/
def graphPlaysWrong : ChangeSpec := { name := "graphPlays", fn := fun _ => fun
  | [d1, d2] => { results := [.lit (.bool false)], args := [d1, d2] }
  | _ => none }
def GraphPlaysWrongFalsely : Prop := graphPlaysRow.holds Try.pinned (OpenSpec.ofChange graphPlaysWrong)

/-- 'scupperlaw14.GraphVoid': WHATEVER THE INPUT: true; the input reads as it did. -/
def graphVoidSpec : ChangeSpec := { name := "graphVoid", fn := fun _ => fun
  | [d] => { results := [.lit (.bool true)], args := [d] }
  | _ => none }
def graphVoidRow : OpenClaim := { program := "ytmkfaibjjbgbbaa", sum := "7954ebab9ff5e58840ca77e4498e0f272308a86fab19d608b510611d66e281ff", func := "scupper/scupperlaw14.GraphVoid", spec := "graphVoid", unfollowed := true, recurses := true, apart := false }
def GraphVoidSaid : Prop := graphVoidRow.holds Try.pinned (OpenSpec.ofChange graphVoidSpec)

/-- ITS FALSE NEIGHBOUR: 'it returns false'. Refute it at one input. -/
def graphVoidWrong : ChangeSpec := { name := "graphVoid", fn := fun _ => fun
  | [d] => { results := [.lit (.bool false)], args := [d] }
  | _ => none }
def GraphVoidWrongFalsely : Prop := graphVoidRow.holds Try.pinned (OpenSpec.ofChange graphVoidWrong)

/-- 'scupperlaw16.PlanAll': WHATEVER THE INPUT: true; the input reads as it did. -/
def planAllSpec : ChangeSpec := { name := "planAll", fn := fun _ => fun
  | [d1, d2, d3] => { results := [.lit (.bool true)], args := [d1, d2, d3] }
  | _ => none }
def planAllRow : OpenClaim := { program := "ytmkfaibjjbgbbaa", sum := "7954ebab9ff5e58840ca77e4498e0f272308a86fab19d608b510611d66e281ff", func := "scupper/scupperlaw16.PlanAll", spec := "planAll", unfollowed := true, recurses := true, apart := false }
def PlanAllSaid : Prop := planAllRow.holds Try.pinned (OpenSpec.ofChange planAllSpec)

/-- ITS FALSE NEIGHBOUR: 'it returns false'. Refute it at one input. -/
def planAllWrong : ChangeSpec := { name := "planAll", fn := fun _ => fun
  | [d1, d2, d3] => { results := [.lit (.bool false)], args := [d1, d2, d3] }
  | _ => none }
def PlanAllWrongFalsely : Prop := planAllRow.holds Try.pinned (OpenSpec.ofChange planAllWrong)

/-- 'scupperlaw16.PlanNext': WHATEVER THE INPUT: true; the input reads as it did. -/
def planNextSpec : ChangeSpec := { name := "planNext", fn := fun _ => fun
  | [d1, d2, d3] => { results := [.lit (.bool true)], args := [d1, d2, d3] }
  | _ => none }
def planNextRow : OpenClaim := { program := "ytmkfaibjjbgbbaa", sum := "7954ebab9ff5e58840ca77e4498e0f272308a86fab19d608b510611d66e281ff", func := "scupper/scupperlaw16.PlanNext", spec := "planNext", unfollowed := true, recurses := true, apart := false }
def PlanNextSaid : Prop := planNextRow.holds Try.pinned (OpenSpec.ofChange planNextSpec)

/-- ITS FALSE NEIGHBOUR: 'it returns false'. Refute it at one input. -/
def planNextWrong : ChangeSpec := { name := "planNext", fn := fun _ => fun
  | [d1, d2, d3] => { results := [.lit (.bool false)], args := [d1, d2, d3] }
  | _ => none }
def PlanNextWrongFalsely : Prop := planNextRow.holds Try.pinned (OpenSpec.ofChange planNextWrong)

/-- 'scupperlaw16.PlanTells': WHATEVER THE INPUT: true; the input reads as it did. -/
def planTellsSpec : ChangeSpec := { name := "planTells", fn := fun _ => fun
  | [d1, d2, d3] => { results := [.lit (.bool true)], args := [d1, d2, d3] }
  | _ => none }
def planTellsRow : OpenClaim := { program := "ytmkfaibjjbgbbaa", sum := "7954ebab9ff5e58840ca77e4498e0f272308a86fab19d608b510611d66e281ff", func := "scupper/scupperlaw16.PlanTells", spec := "planTells", unfollowed := true, recurses := true, apart := false }
def PlanTellsSaid : Prop := planTellsRow.holds Try.pinned (OpenSpec.ofChange planTellsSpec)

/-- ITS FALSE NEIGHBOUR: 'it returns false'. Refute it at one input. -/
def planTellsWrong : ChangeSpec := { name := "planTells", fn := fun _ => fun
  | [d1, d2, d3] => { results := [.lit (.bool false)], args := [d1, d2, d3] }
  | _ => none }
def PlanTellsWrongFalsely : Prop := planTellsRow.holds Try.pinned (OpenSpec.ofChange planTellsWrong)

/-- 'scupperlaw16.PlanNone': WHATEVER THE INPUT: true; the input reads as it did. -/
def planNoneSpec : ChangeSpec := { name := "planNone", fn := fun _ => fun
  | [d1, d2] => { results := [.lit (.bool true)], args := [d1, d2] }
  | _ => none }
def planNoneRow : OpenClaim := { program := "ytmkfaibjjbgbbaa", sum := "7954ebab9ff5e58840ca77e4498e0f272308a86fab19d608b510611d66e281ff", func := "scupper/scupperlaw16.PlanNone", spec := "planNone", unfollowed := true, recurses := true, apart := false }
def PlanNoneSaid : Prop := planNoneRow.holds Try.pinned (OpenSpec.ofChange planNoneSpec)

/-- ITS FALSE NEIGHBOUR: 'it returns false'. Refute it at one input. -/
def planNoneWrong : ChangeSpec := { name := "planNone", fn := fun _ => fun
  | [d1, d2] => { results := [.lit (.bool false)], args := [d1, d2] }
  | _ => none }
def PlanNoneWrongFalsely : Prop := planNoneRow.holds Try.pinned (OpenSpec.ofChange planNoneWrong)

/- THE SECOND FORM. 'bulk': how many values and letters a reading holds, each counted each time it is reached (what is shared counts as often as it is met; a slice's spare places count too). A statement '..UptoSaid' is the law's where the arguments, and the package variables that the reading takes, are together of bulk at most 1048576: NARROWER than '..Said'. Prove '..Said' where nothing that the law and all that it calls make is longer than what came in: it says more and counts as full. Else prove '..UptoSaid'. A law counts once. -/
mutual
def uptoBulk {H : Type} : DataW H → Nat
  | .lit (.string bytes) => bytes.length + 1
  | .lit _ => 1
  | .nil => 1
  | .ptr d => uptoBulk d + 1
  | .slice elems spare => uptoBulkAll elems + uptoBulkAll spare + 1
  | .agg parts => uptoBulkAll parts + 1
  | .iface _ d => uptoBulk d + 1
  | .map entries => uptoBulkEntries entries + 1
  | .held _ => 1
def uptoBulkAll {H : Type} : List (DataW H) → Nat
  | [] => 0
  | d :: r => uptoBulk d + uptoBulkAll r
def uptoBulkEntries {H : Type} : List (Lit × DataW H) → Nat
  | [] => 0
  | x :: r => uptoBulkEntry x + uptoBulkEntries r
def uptoBulkEntry {H : Type} : Lit × DataW H → Nat
  | (.string bytes, d) => bytes.length + uptoBulk d + 1
  | (_, d) => uptoBulk d + 1
 end
def uptoSmall : (H : Type) → List (DataW H) → Bool := fun _ ds => decide (uptoBulkAll ds ≤ 1048576)
def OpenSpec.upto (s : _root_.Go.ChangeSpec) : _root_.Go.OpenSpec := { _root_.Go.OpenSpec.ofChange s with cond := some uptoSmall }

/-- 'scupperlaw14.GraphGoes', WHERE WHAT IT READS IS OF BULK AT MOST 1048576: true; the input reads as it did. -/
def graphGoesUptoRow : OpenClaim := { program := "ytmkfaibjjbgbbaa", sum := "7954ebab9ff5e58840ca77e4498e0f272308a86fab19d608b510611d66e281ff", func := "scupper/scupperlaw14.GraphGoes", spec := "graphGoes", unfollowed := true, recurses := true, apart := false, narrowed := true }
def GraphGoesUptoSaid : Prop := graphGoesUptoRow.holds Try.pinned (OpenSpec.upto graphGoesSpec)

/-- 'scupperlaw14.GraphPlays', WHERE WHAT IT READS IS OF BULK AT MOST 1048576: true; the input reads as it did. -/
def graphPlaysUptoRow : OpenClaim := { program := "ytmkfaibjjbgbbaa", sum := "7954ebab9ff5e58840ca77e4498e0f272308a86fab19d608b510611d66e281ff", func := "scupper/scupperlaw14.GraphPlays", spec := "graphPlays", unfollowed := true, recurses := true, apart := false, narrowed := true }
def GraphPlaysUptoSaid : Prop := graphPlaysUptoRow.holds Try.pinned (OpenSpec.upto graphPlaysSpec)

/-- 'scupperlaw14.GraphVoid', WHERE WHAT IT READS IS OF BULK AT MOST 1048576: true; the input reads as it did. -/
def graphVoidUptoRow : OpenClaim := { program := "ytmkfaibjjbgbbaa", sum := "7954ebab9ff5e58840ca77e4498e0f272308a86fab19d608b510611d66e281ff", func := "scupper/scupperlaw14.GraphVoid", spec := "graphVoid", unfollowed := true, recurses := true, apart := false, narrowed := true }
def GraphVoidUptoSaid : Prop := graphVoidUptoRow.holds Try.pinned (OpenSpec.upto graphVoidSpec)

/-- 'scupperlaw16.PlanAll', WHERE WHAT IT READS IS OF BULK AT MOST 1048576: true; the input reads as it did. -/
def planAllUptoRow : OpenClaim := { program := "ytmkfaibjjbgbbaa", sum := "7954ebab9ff5e58840ca77e4498e0f272308a86fab19d608b510611d66e281ff", func := "scupper/scupperlaw16.PlanAll", spec := "planAll", unfollowed := true, recurses := true, apart := false, narrowed := true }
def PlanAllUptoSaid : Prop := planAllUptoRow.holds Try.pinned (OpenSpec.upto planAllSpec)

/-- 'scupperlaw16.PlanNext', WHERE WHAT IT READS IS OF BULK AT MOST 1048576: true; the input reads as it did. -/
def planNextUptoRow : OpenClaim := { program := "ytmkfaibjjbgbbaa", sum := "7954ebab9ff5e58840ca77e4498e0f272308a86fab19d608b510611d66e281ff", func := "scupper/scupperlaw16.PlanNext", spec := "planNext", unfollowed := true, recurses := true, apart := false, narrowed := true }
def PlanNextUptoSaid : Prop := planNextUptoRow.holds Try.pinned (OpenSpec.upto planNextSpec)

/-- 'scupperlaw16.PlanTells', WHERE WHAT IT READS IS OF BULK AT MOST 1048576: true; the input reads as it did. -/
def planTellsUptoRow : OpenClaim := { program := "ytmkfaibjjbgbbaa", sum := "7954ebab9ff5e58840ca77e4498e0f272308a86fab19d608b510611d66e281ff", func := "scupper/scupperlaw16.PlanTells", spec := "planTells", unfollowed := true, recurses := true, apart := false, narrowed := true }
def PlanTellsUptoSaid : Prop := planTellsUptoRow.holds Try.pinned (OpenSpec.upto planTellsSpec)

/-- 'scupperlaw16.PlanNone', WHERE WHAT IT READS IS OF BULK AT MOST 1048576: true; the input reads as it did. -/
def planNoneUptoRow : OpenClaim := { program := "ytmkfaibjjbgbbaa", sum := "7954ebab9ff5e58840ca77e4498e0f272308a86fab19d608b510611d66e281ff", func := "scupper/scupperlaw16.PlanNone", spec := "planNone", unfollowed := true, recurses := true, apart := false, narrowed := true }
def PlanNoneUptoSaid : Prop := planNoneUptoRow.holds Try.pinned (OpenSpec.upto planNoneSpec)

end Rows
end Go.Proofs.Ytmkfaibjjbgbbaa
