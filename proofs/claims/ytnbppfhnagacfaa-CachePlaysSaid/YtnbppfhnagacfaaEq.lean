/- Two blocks of 64 bytes held against one another. -/
import Derived.Test.YtnbppfhnagacfaaCnew
import Derived.Laws.StructEq
namespace Go.Proofs.Ytnbppfhnagacfaa
open Go.RowKit
set_option linter.unusedVariables false

/-- The first k of two lists, place by place. -/
def upto (a b : List Int) : List Nat → Bool
  | [] => true
  | i :: l => a.getD i 0 == b.getD i 0 && upto a b l
theorem upto_all {a b : List Int} (hl : a.length = b.length) : upto a b (List.range' 0 a.length) = decide (a = b) := by
  have h : ∀ l : List Nat, upto a b l = true ↔ ∀ i ∈ l, a.getD i 0 = b.getD i 0 := by
    intro l
    induction l with
    | nil => simp [upto]
    | cons i l ih => simp [upto, ih]
  rw [Bool.eq_iff_iff, h, decide_eq_true_iff]
  constructor
  · intro hi
    apply List.ext_getElem hl
    intro i h1 h2
    have := hi i (by simp [List.mem_range'_1]; exact h1)
    simpa [List.getD_eq_getElem?_getD, h1, h2] using this
  · rintro rfl i -
    rfl
theorem run_part5 (w : World) {a : List Int} {i : Nat} (hi : i < a.length) : (part 5 (bytes a).toArray i).run Try.prog w = .ok (.int .u8 (a.getD i 0)) w := by
  have h : (bytes a).toArray[i]? = some (.int .u8 (a.getD i 0)) := by
    rw [List.getElem?_toArray, List.getD_eq_getElem?_getD]
    simp [bytes, hi]
  simp [part, Sem.run_bind, Try.isAgg5, h]
theorem run_equal32 (w : World) (d : Nat) {a b : List Int} (ha : a.length = 64) (hb : b.length = 64) : (Op.equalIn (d + 2) 32 (.agg (bytes a).toArray) (.agg (bytes b).toArray)).run Try.prog w = .ok (decide (a = b)) w := by
  rw [← upto_all (ha.trans hb.symm), ha, Op.equalIn]
  simp only [Sem.run_bind, run_underlying Try.underlying32, Result.andThen_ok, Try.sizeOf5, Std.Legacy.Range.forIn_eq_forIn_range', Std.Legacy.Range.size, Nat.sub_zero, Nat.add_sub_cancel, Nat.div_one, Nat.mul_one]
  have hm : ∀ i ∈ List.range' 0 64 1, i < 64 := fun i hi => by simpa using (List.mem_range'_1.1 hi).2
  generalize List.range' 0 64 1 = l at hm ⊢
  induction l with
  | nil => simp [upto]
  | cons i l ih =>
    have hi : i < 64 := hm i (by simp)
    have p1 := run_part5 w (a := a) (i := i) (by omega)
    have p2 := run_part5 w (a := b) (i := i) (by omega)
    have p3 := run_equalIn_int (P := Try.prog) w d 5 .u8 .u8 (a.getD i 0) (b.getD i 0) Try.underlying5
    simp only [List.forIn_cons, Sem.run_bind, p1, p2, p3, Result.andThen_ok, upto]
    cases hc : (a.getD i 0 == b.getD i 0) with
    | false => simp
    | true =>
      simp only [Bool.not_true, Bool.false_eq_true, if_false, Sem.run_pure, Result.andThen_ok, Bool.true_and]
      exact ih fun j hj => hm j (by simp [hj])
theorem run_eql32 (w : World) {a b : List Int} (ha : a.length = 64) (hb : b.length = 64) : (binOp .eql 32 (blkV a) (blkV b)).run Try.prog w = .ok (.bool (decide (a = b))) w := by
  unfold blkV
  rw [run_eql_struct, run_equal32 w 9998 ha hb]
  rfl
theorem run_neq32 (w : World) {a b : List Int} (ha : a.length = 64) (hb : b.length = 64) : (binOp .neq 32 (blkV a) (blkV b)).run Try.prog w = .ok (.bool (!decide (a = b))) w := by
  unfold blkV
  rw [run_neq_struct, run_equal32 w 9998 ha hb]
  rfl
end Go.Proofs.Ytnbppfhnagacfaa
