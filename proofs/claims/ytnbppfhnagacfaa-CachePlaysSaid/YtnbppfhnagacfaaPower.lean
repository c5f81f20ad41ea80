/- package power: Use, with its deferred closure; Limit, Restore, Used, New. -/
import Derived.Test.YtnbppfhnagacfaaDisk
import Derived.Defers
namespace Go.Proofs.Ytnbppfhnagacfaa
open Go.RowKit
set_option linter.unusedVariables false
attribute [local go_sem ↓] Go.wp_at_zero Go.wp_at_succ

structure Sup where
  left : Int
  used : Int
  gone : Bool
def Sup.cells (s : Sup) : Array Value := #[.int .i64 s.left, .int .i64 s.used, .bool s.gone]
def Sup.use (s : Sup) : Int × Sup := if s.gone = true ∨ s.left = 0 then (20, ⟨s.left, s.used, true⟩) else (0, ⟨if s.left > 0 then s.left - 1 else s.left, s.used + 1, false⟩)

theorem use1_on (be bv g : Nat) (used : Int) (u : FrameMode) (w : World) (he : w.cell? ⟨be, 0, none⟩ = some (.int .i64 0)) (hv : w.cell? ⟨bv, 0, none⟩ = some (.pointer (some ⟨g, 0, none⟩)))
    (hg : w.cell? ⟨g, 1, none⟩ = some (.int .i64 used)) (hf : w.frozen? ⟨g, 1, none⟩ = false) (h0 : 0 ≤ used) (h1 : used ≤ 1000000000) :
    CallsD Try.prog 83 #[.pointer (some ⟨be, 0, none⟩), .pointer (some ⟨bv, 0, none⟩)] u w fun e u' w' => u' = u ∧ (e = .returned (.tuple #[]) ∧ w' = w.setCell ⟨g, 1, none⟩ (.int .i64 (used + 1))) := by
  have ew : IntKind.i64.wrap (used + 1) = used + 1 := IntWalk.i64_in _ (by omega) |>.trans rfl
  go_enter_d Try.func83, Try.ntmps83
  go_wp2
  go_end0
  first | exact ⟨rfl, rfl⟩ | simp
theorem use1_off (be bv : Nat) (u : FrameMode) (w : World) (he : w.cell? ⟨be, 0, none⟩ = some (.int .i64 20)) :
    CallsD Try.prog 83 #[.pointer (some ⟨be, 0, none⟩), .pointer (some ⟨bv, 0, none⟩)] u w fun e u' w' => u' = u ∧ (e = .returned (.tuple #[]) ∧ w' = w) := by
  go_enter_d Try.func83, Try.ntmps83
  go_wp2
  go_end0
  first | exact ⟨rfl, rfl⟩ | simp
set_option maxHeartbeats 1000000 in
theorem use_nil (w : World) : Calls Try.prog 66 #[.pointer none] w fun e w' => e = .returned (.int .i64 0) ∧ Below w.heap.size w w' := by
  go_enter_defers Try.func66, Try.ntmps66
  go_wp2
  have hb : Below w.heap.size w ((w.alloc (.cells #[.pointer none] 48)).alloc (.cells #[.int .i64 0] 25)) := ((Below.refl _ _).alloc (Nat.le_refl _) _).alloc (by simp) _
  simp [bodyPostD, Leaves, settle, results, Try.results66, go_sem, hb]

set_option maxHeartbeats 2000000 in
theorem use_some (g : Nat) (s : Sup) (w : World) (hg : Blk w g 86 s.cells) (hl : -9223372036854775808 ≤ s.left ∧ s.left ≤ 9223372036854775807) (hu : 0 ≤ s.used ∧ s.used ≤ 1000000000) :
    Calls Try.prog 66 #[.pointer (some ⟨g, 0, none⟩)] w fun e w' => e = .returned (.int .i64 s.use.1) ∧ Blk w' g 86 s.use.2.cells ∧ Turn (fun j => j = g) w w' := by
  have hmf : ∀ (fn : Fn) (first cap : Array Value) (w : World), (Instr.makeFunc fn first cap).run Try.prog w = .ok (.func fn first cap) w := fun _ _ _ _ => rfl
  obtain ⟨left, used, gone⟩ := s
  unfold Sup.cells at *
  simp only at hg hl hu
  have hgl := hg.lt
  have c0 := hg.cell 0
  have c1 := hg.cell 1
  have c2 := hg.cell 2
  have f0 := hg.frozen 0
  have f1 := hg.frozen 1
  have f2 := hg.frozen 2
  simp at c0 c1 c2
  have HG := Lib.hid hg
  clear hg
  by_cases h : gone = true ∨ left = 0
  · have e : Sup.use ⟨left, used, gone⟩ = (20, ⟨left, used, true⟩) := if_pos h
    rw [e]
    clear e
    cases gone with
    | true =>
      go_enter_defers Try.func66, Try.ntmps66
      go_wp2
      refine leaves_cons (f := 83) (args := #[.pointer (some ⟨w.heap.size + 1, 0, none⟩), .pointer (some ⟨w.heap.size, 0, none⟩)]) (by simp) (by simp [go_sem]) ?_
      refine (use1_off _ _ .returning _ ?_).mono ?_
      · simp [go_sem]
      rintro e u' w'' ⟨rfl, rfl, rfl⟩
      refine ⟨.int .i64 20, ?_, rfl, ?_, ?_⟩
      · simp [results, Try.results66, go_sem]
      · exact ((HG.out.set_ 2 (.bool true)).alloc _).alloc _
      · exact (((Turn.refl (fun j => j = g) w).setCell (p := ⟨g, 2, none⟩) (fun _ => rfl) (.bool true)).alloc _).alloc _
    | false =>
      obtain rfl : left = 0 := by simpa using h
      go_enter_defers Try.func66, Try.ntmps66
      go_wp2
      refine leaves_cons (f := 83) (args := #[.pointer (some ⟨w.heap.size + 1, 0, none⟩), .pointer (some ⟨w.heap.size, 0, none⟩)]) (by simp) (by simp [go_sem]) ?_
      refine (use1_off _ _ .returning _ ?_).mono ?_
      · simp [go_sem]
      rintro e u' w'' ⟨rfl, rfl, rfl⟩
      refine ⟨.int .i64 20, ?_, rfl, ?_, ?_⟩
      · simp [results, Try.results66, go_sem]
      · exact ((HG.out.set_ 2 (.bool true)).alloc _).alloc _
      · exact (((Turn.refl (fun j => j = g) w).setCell (p := ⟨g, 2, none⟩) (fun _ => rfl) (.bool true)).alloc _).alloc _
  · have hne : ¬ left = 0 := fun e => h (.inr e)
    obtain rfl : gone = false := by
      cases gone with
      | true => exact absurd (Or.inl rfl) h
      | false => rfl
    have e : Sup.use ⟨left, used, false⟩ = (0, ⟨if left > 0 then left - 1 else left, used + 1, false⟩) := if_neg h
    rw [e]
    clear e h
    by_cases hp : left > 0
    · rw [if_pos hp]
      have ew : IntKind.i64.wrap (left - 1) = left - 1 := IntWalk.i64_in _ (by omega) |>.trans rfl
      go_enter_defers Try.func66, Try.ntmps66
      go_wp2
      refine leaves_cons (f := 83) (args := #[.pointer (some ⟨w.heap.size + 1, 0, none⟩), .pointer (some ⟨w.heap.size, 0, none⟩)]) (by simp) (by simp [go_sem]) ?_
      have HW := ((HG.out.set_ 0 (.int .i64 (left - 1))).alloc (.cells #[.pointer (some ⟨g, 0, none⟩)] 48)).alloc (.cells #[.int .i64 0] 25)
      have HT := (((Turn.refl (fun j => j = g) w).setCell (p := ⟨g, 0, none⟩) (fun _ => rfl) (.int .i64 (left - 1))).alloc (.cells #[.pointer (some ⟨g, 0, none⟩)] 48)).alloc (.cells #[.int .i64 0] 25)
      refine (use1_on (w.heap.size + 1) w.heap.size g used .returning _ ?_ ?_ ?_ ?_ hu.1 hu.2).mono ?_
      · simp [go_sem]
      · simp [go_sem]
      · simpa using HW.cell 1
      · exact HW.frozen 1
      rintro e u' w'' ⟨rfl, rfl, rfl⟩
      refine ⟨.int .i64 0, ?_, rfl, ?_, ?_⟩
      · have hne1 : ¬ w.heap.size + 1 = g := by omega
        simp [results, Try.results66, go_sem, hne1]
      · exact HW.set_ 1 (.int .i64 (used + 1))
      · exact HT.setCell (p := ⟨g, 1, none⟩) (fun _ => rfl) (.int .i64 (used + 1))
    · rw [if_neg hp]
      go_enter_defers Try.func66, Try.ntmps66
      go_wp2
      refine leaves_cons (f := 83) (args := #[.pointer (some ⟨w.heap.size + 1, 0, none⟩), .pointer (some ⟨w.heap.size, 0, none⟩)]) (by simp) (by simp [go_sem]) ?_
      have HW := (HG.out.alloc (.cells #[.pointer (some ⟨g, 0, none⟩)] 48)).alloc (.cells #[.int .i64 0] 25)
      have HT := ((Turn.refl (fun j => j = g) w).alloc (.cells #[.pointer (some ⟨g, 0, none⟩)] 48)).alloc (.cells #[.int .i64 0] 25)
      refine (use1_on (w.heap.size + 1) w.heap.size g used .returning _ ?_ ?_ ?_ ?_ hu.1 hu.2).mono ?_
      · simp [go_sem]
      · simp [go_sem]
      · simpa using HW.cell 1
      · exact HW.frozen 1
      rintro e u' w'' ⟨rfl, rfl, rfl⟩
      refine ⟨.int .i64 0, ?_, rfl, ?_, ?_⟩
      · have hne1 : ¬ w.heap.size + 1 = g := by omega
        simp [results, Try.results66, go_sem, hne1]
      · exact HW.set_ 1 (.int .i64 (used + 1))
      · exact HT.setCell (p := ⟨g, 1, none⟩) (fun _ => rfl) (.int .i64 (used + 1))
end Go.Proofs.Ytnbppfhnagacfaa
