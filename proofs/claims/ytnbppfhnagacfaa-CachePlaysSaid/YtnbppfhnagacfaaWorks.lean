/- works of package scupperlaw13. -/
import Derived.Test.YtnbppfhnagacfaaEq
namespace Go.Proofs.Ytnbppfhnagacfaa
open Go.RowKit
set_option linter.unusedVariables false
attribute [local go_sem ↓] Go.wp_at_zero Go.wp_at_succ

theorem wl_run {ops : Array Oper} {rest : List Oper} {op : Oper} {a : Act} {w : World} {Q : Exit → Act → World → Prop} {v : Value} (hw : Region.wanted op (yielded ops a.tmps) = true) (hr : (execOp a.eval op).run Try.prog w = .ok (.value v) w) (hk : wpList Try.prog ops Q rest (a.put op.dst v) w) : wpList Try.prog ops Q (op :: rest) a w :=
  wpList_step fun K hK => by
    rw [hw]
    simp only [if_true]
    unfold Oper.wp
    simp only [hr]
    exact hK _ _ hk
theorem wl_load32g {ops : Array Oper} {rest : List Oper} {op : Oper} {a : Act} {w : World} {Q : Exit → Act → World → Prop} {g o : Nat} {b : List Int} (h : Hid (w.rangeAt g o (bytes b))) (hb : b.length = 64) (x : Operand) (ho : op.op = .load 32 x) (hw : Region.wanted op (yielded ops a.tmps) = true)
    (hx : a.eval x = .pointer (some ⟨g, o, none⟩)) (hk : wpList Try.prog ops Q rest (a.put op.dst (blkV b)) w) : wpList Try.prog ops Q (op :: rest) a w :=
  wl_run hw (by
    unfold execOp
    simp only [ho, hx, Sem.run_bind, load32 h.out hb, Result.andThen_ok, Sem.run_pure]) hk
theorem wl_eql32 {ops : Array Oper} {rest : List Oper} {op : Oper} {a : Act} {w : World} {Q : Exit → Act → World → Prop} {b b' : List Int} (hb : b.length = 64) (hb' : b'.length = 64) (x y : Operand) (ho : op.op = .binOp .eql 32 x y 32) (hw : Region.wanted op (yielded ops a.tmps) = true)
    (hx : a.eval x = blkV b) (hy : a.eval y = blkV b') (hk : wpList Try.prog ops Q rest (a.put op.dst (.bool (decide (b = b')))) w) : wpList Try.prog ops Q (op :: rest) a w :=
  wl_run hw (by
    unfold execOp
    simp only [ho, hx, hy]
    have h1 := run_eql32 w hb hb'
    have h2 : (eqGuard .eql 32 x y (blkV b) (blkV b')).run Try.prog w = .ok () w := run_eqGuard_agg w .eql 32 x y _ _ Try.eqGuardType32
    simp only [Sem.run_bind, h2, h1, Result.andThen_ok, Sem.run_pure]) hk
theorem wl_neq32 {ops : Array Oper} {rest : List Oper} {op : Oper} {a : Act} {w : World} {Q : Exit → Act → World → Prop} {b b' : List Int} (hb : b.length = 64) (hb' : b'.length = 64) (x y : Operand) (ho : op.op = .binOp .neq 32 x y 32) (hw : Region.wanted op (yielded ops a.tmps) = true)
    (hx : a.eval x = blkV b) (hy : a.eval y = blkV b') (hk : wpList Try.prog ops Q rest (a.put op.dst (.bool (!decide (b = b')))) w) : wpList Try.prog ops Q (op :: rest) a w :=
  wl_run hw (by
    unfold execOp
    simp only [ho, hx, hy]
    have h1 := run_neq32 w hb hb'
    have h2 : (eqGuard .neq 32 x y (blkV b) (blkV b')).run Try.prog w = .ok () w := run_eqGuard_agg w .neq 32 x y _ _ Try.eqGuardType32
    simp only [Sem.run_bind, h2, h1, Result.andThen_ok, Sem.run_pure]) hk
def b7 : List Int := 7 :: List.replicate 63 0
theorem b7_len : b7.length = 64 := rfl
def a0 : CA := freshC 1 (freshD 3) none
def a1 : CA := (putR a0 0 b7).2
theorem p1 : (putR a0 0 b7).1 = 0 := by rfl
theorem h1_ : (holdR a1 1).1 = 0 := by rfl
def a2 : CA := (holdR a1 1).2
theorem a2_os : a2.os = [1] := by rfl
theorem a2_is : a2.x.is 0 := by exact ⟨by decide, by decide⟩
theorem a2_shows : a2.x.shows 0 = b7 := by rfl
theorem room0 : Room a0 := ⟨by decide, by decide, by decide, by decide, fun s h => by cases h⟩
theorem room1 : Room a1 := ⟨by decide, by decide, by decide, by decide, fun s h => by cases h⟩
theorem St.disk {F : Nat → Prop} {w : World} {c d : Nat} {sp : Option Nat} {hp : Int → Nat} {a : CA} (h : St F w c d sp hp a) : ∃ Fd, Disk Fd w d sp a.x := by
  obtain ⟨Fc, Fd, ml, ov, h⟩ := h
  exact ⟨Fd, h.disk⟩
end Go.Proofs.Ytnbppfhnagacfaa
