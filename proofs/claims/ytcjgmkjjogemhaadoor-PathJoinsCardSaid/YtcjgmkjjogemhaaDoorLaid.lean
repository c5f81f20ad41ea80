/- What the five Path laws share at their top: the witness's world, whose two listed tables hold what the rows list, and the cell of bytealg.MaxLen. -/
import Derived.Test.YtcjgmkjjogemhaaDoorCards
import Derived.Test.YtcjgmkjjogemhaaDoorTie
import Derived.Test.YtcjgmkjjogemhaaDoorBase
import Derived.WalkKit
import Derived.ProofKit
import Derived.OpenShut
import Derived.Deep.DeepHandedRow
import Derived.Lib.LaidTab
import Derived.Shelf.Vars
namespace Go.Proofs.YtcjgmkjjogemhaaDoor
open Go.ChangeShapes Go.WideShapes Go.ChangeAt Go.RowKit

theorem own : ownKnob Tryd.prog.godebug = none := by kernel_rfl
theorem laidOut : laidOutB Tryd.prog = true := by kernel_rfl

def acceptCells : List Nat := [128, 191, 160, 191, 128, 159, 144, 191, 128, 143]

/-- The settled world, the two tables holding their data. -/
noncomputable def laidWorld (os : Os) : World :=
  { World.holding Tryd.prog os ⟨#[], #[], []⟩ with
    heap :=
      ((World.holding Tryd.prog os ⟨#[], #[], []⟩).heap.modify 1 (fun
        | .cells _ t frozen => .cells (Go.Pinned.utf8FirstZ.map fun (n : Nat) => Value.int .u8 n).toArray t frozen
        | o => o)).modify 2 (fun
        | .cells _ t frozen => .cells ((acceptCells ++ List.replicate 22 0).map fun (n : Nat) => Value.int .u8 n).toArray t frozen
        | o => o) }

/-- bytealg.MaxLen holds some number. -/
theorem maxLen_cell {W : World} (h : W.ShapedOpen Tryd.prog) : ∃ m, W.cell? ⟨0, 0, none⟩ = some (.int .i64 m) :=
  cell_of_shapedOpen_int (zero := #[.int .i64 0]) (t := 3) h (of_decide_eq_true (by kernel_rfl)) (by kernel_rfl) rfl (by kernel_rfl) (by kernel_rfl) Tryd.underlying3

theorem globals_lt {W : World} (h : W.ShapedOpen Tryd.prog) : 0 < W.heap.size := by
  obtain ⟨m, hm⟩ := maxLen_cell h
  exact World.block_lt_of_cell? W _ hm
end Go.Proofs.YtcjgmkjjogemhaaDoor
