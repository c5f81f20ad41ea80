/- CacheVoid, the walk. -/
import Derived.Test.YtnbppfhnagacfaaNil
namespace Go.Proofs.Ytnbppfhnagacfaa
open Go.RowKit
set_option linter.unusedVariables false
attribute [local go_sem ↓] Go.wp_at_zero Go.wp_at_succ

theorem wl_moveg {ops : Array Oper} {rest : List Oper} {op : Oper} {a : Act} {w : World} {Q : Exit → Act → World → Prop} (x : Operand) (v : Value) (ho : op.op = .move x) (hw : Region.wanted op (yielded ops a.tmps) = true)
    (hx : a.eval x = v) (hk : wpList Try.prog ops Q rest (a.put op.dst v) w) : wpList Try.prog ops Q (op :: rest) a w :=
  wl_run hw (by
    unfold execOp
    simp only [ho, hx, Sem.run_bind, Result.andThen_ok, Sem.run_pure]) hk
theorem get_nz (i : Int) (zb : List Int) (hz : zb = zeroB) (w : World) : Calls Try.prog 16 #[.pointer none, .int .i64 i] w fun e w' => e = .returned (.tuple #[blkV zb, .int .i64 1]) ∧ Below w.heap.size w w' := by rw [hz]; exact get_nil i w
set_option maxRecDepth 100000 in
set_option maxHeartbeats 600000 in
theorem void_any (i : Int) (b : List Int) (hb : b.length = 64) (w : World) : Calls Try.prog 4 #[.int .i64 i, blkV b] w fun e w' => e = .returned (.bool true) ∧ Below w.heap.size w w' := by
  obtain ⟨w1, hw1⟩ : ∃ w1, w1 = w.alloc (.cells (bytes b).toArray 32) := ⟨_, rfl⟩
  have hb1 : Below w.heap.size w w1 := by rw [hw1]; exact (Below.refl _ _).alloc (Nat.le_refl _) _
  have hV1 : Var w1 w.heap.size b := by rw [hw1]; exact Var.new _ hb
  go_enter Try.func4, Try.ntmps4
  go_upto_region 1 with (fail)
  change Code.wp _ _ _ _ (World.alloc w (.cells (bytes b).toArray 32))
  rw [← hw1]
  obtain ⟨b1, hb1e⟩ : ∃ b1, b1 = w.heap.size := ⟨_, rfl⟩
  rw [← hb1e] at hV1 ⊢
  have HV1 := Lib.hid hV1
  have HB1 := Lib.hid hb1
  clear hw1 hb1 hV1 hb1e
  go_wp2_with fail
  refine (works_any w1).mono ?_
  rintro e w2 ⟨rfl, hb2⟩
  have HV2 := Lib.hid (HV1.out.below hb2 HV1.out.lt)
  have HB2 := Lib.hid (HB1.out.trans (hb2.mono HB1.out.size))
  clear hb2 HV1 HB1
  go_wp2_with fail
  refine (drop_nil w2).mono ?_
  rintro e w3 ⟨rfl, rfl⟩
  go_wp2_with fail
  obtain ⟨zb, hzb⟩ : ∃ zb, zb = zeroB := ⟨_, rfl⟩
  have hzl : zb.length = 64 := by rw [hzb]; rfl
  have HGt := Lib.hid (get_nz i zb hzb w3)
  clear hzb
  refine HGt.out.mono ?_
  rintro e w4 ⟨rfl, hb4⟩
  have HV4 := Lib.hid (HV2.out.below hb4 HV2.out.lt)
  have HB4 := Lib.hid (HB2.out.trans (hb4.mono HB2.out.size))
  clear hb4 HV2 HB2 HGt
  go_upto_region 6 with (first | (refine wl_store32 (new_there _) hzl _ _ rfl rfl rfl rfl ?_))
  obtain ⟨w5, hw5, hb5, -⟩ := var_at w4 hzl
  change Code.wp _ _ _ _ (World.setCells (World.alloc w4 (.cells (bytes zeroB).toArray 32)) w4.heap.size 0 (bytes zb))
  rw [← hw5]
  have HV5 := Lib.hid (HV4.out.below hb5 HV4.out.lt)
  have HB5 := Lib.hid (HB4.out.trans (hb5.mono HB4.out.size))
  have HRg5 := Lib.hid HV5.out.range
  clear hw5 hb5 HV4 HB4
  go_wp2_with fail
  refine (counts_nil w5).mono ?_
  rintro e w6 ⟨rfl, rfl⟩
  go_wp2_with fail
  refine (new_nil w6).mono ?_
  rintro e w7 ⟨rfl, rfl⟩
  go_upto_region 8 with (fail)
  go_step
  simp only [List.append_eq, List.cons_append, List.nil_append, List.append]
  go_wp2_with (first | (refine wl_load32g HRg5 hb _ rfl rfl rfl ?_) | (refine wl_moveg _ _ rfl rfl rfl ?_))
  refine (put_nil i hb w7).mono ?_
  rintro e w8 ⟨rfl, hb8⟩
  have HV8 := Lib.hid (HV5.out.below hb8 HV5.out.lt)
  have HB8 := Lib.hid (HB5.out.trans (hb8.mono HB5.out.size))
  have HRg8 := Lib.hid HV8.out.range
  clear hb8 HV5 HB5 HRg5
  go_wp2_with (first | (refine wl_load32g HRg8 hb _ rfl rfl rfl ?_) | (refine wl_moveg _ _ rfl rfl rfl ?_))
  refine (force_nil i hb w8).mono ?_
  rintro e w9 ⟨rfl, hb9⟩
  have HB9 := Lib.hid (HB8.out.trans (hb9.mono HB8.out.size))
  clear hb9 HV8 HB8 HRg8
  go_wp2_with fail
  refine (pin_nil i w9).mono ?_
  rintro e w10 ⟨rfl, rfl⟩
  go_wp2_with fail
  refine (unpin_nil i w10).mono ?_
  rintro e w11 ⟨rfl, rfl⟩
  go_wp2_with fail
  refine (back_nil i w11).mono ?_
  rintro e w12 ⟨rfl, rfl⟩
  go_wp2_with fail
  refine (sync_nil w12).mono ?_
  rintro e w13 ⟨rfl, rfl⟩
  go_wp2_with fail
  refine (held_nil w13).mono ?_
  rintro e w14 ⟨rfl, rfl⟩
  go_wp2_with fail
  refine (changed_nil w14).mono ?_
  rintro e w15 ⟨rfl, rfl⟩
  go_wp2
  go_ret
  exact ⟨by first | rfl | simp, HB9.out⟩
end Go.Proofs.Ytnbppfhnagacfaa
