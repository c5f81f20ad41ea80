/- packages power, scupperref03: the supplies, both ways. -/
import Derived.Test.YtnbppfhnagacfaaFor
namespace Go.Proofs.Ytnbppfhnagacfaa
open Go.RowKit
set_option linter.unusedVariables false
attribute [local go_sem ↓] Go.wp_at_zero Go.wp_at_succ

def newS : Sup := ⟨-1, 0, false⟩
def limS (s : Sup) (n : Int) : Int × Sup := if n < 0 then (2, s) else (0, ⟨n, s.used, s.gone⟩)
def resS (s : Sup) : Sup := ⟨-1, s.used, false⟩
theorem snew_any (w : World) : Calls Try.prog 22 #[] w fun e w' => ∃ g, e = .returned (.pointer (some ⟨g, 0, none⟩)) ∧ w.heap.size ≤ g ∧ Blk w' g 86 newS.cells ∧ Below w.heap.size w w' ∧ w'.heap.size = w.heap.size + 1 := by
  have hB : Below w.heap.size w (w.alloc (.cells newS.cells 86)) := (Below.refl _ _).alloc (Nat.le_refl _) _
  have hN := Blk.new w 86 newS.cells
  unfold newS Sup.cells at *
  go_enter Try.func22, Try.ntmps22
  go_wp2
  go_ret
  exact ⟨_, rfl, Nat.le_refl _, hN, hB, by simp⟩
theorem rsnew_any (w : World) : Calls Try.prog 23 #[] w fun e w' => ∃ g, e = .returned (.pointer (some ⟨g, 0, none⟩)) ∧ w.heap.size ≤ g ∧ Blk w' g 65 newS.cells ∧ Below w.heap.size w w' ∧ w'.heap.size = w.heap.size + 1 := by
  have hB : Below w.heap.size w (w.alloc (.cells newS.cells 65)) := (Below.refl _ _).alloc (Nat.le_refl _) _
  have hN := Blk.new w 65 newS.cells
  unfold newS Sup.cells at *
  go_enter Try.func23, Try.ntmps23
  go_wp2
  go_ret
  exact ⟨_, rfl, Nat.le_refl _, hN, hB, by simp⟩
theorem used_any (g : Nat) (s : Sup) (w : World) (h : Blk w g 86 s.cells) : Calls Try.prog 30 #[.pointer (some ⟨g, 0, none⟩)] w fun e w' => e = .returned (.int .i64 s.used) ∧ w' = w := by
  have c1 := h.cell 1
  unfold Sup.cells at c1
  simp at c1
  clear h
  go_enter Try.func30, Try.ntmps30
  go_wp2
  go_ret
  exact ⟨rfl, rfl⟩
theorem limit_any (g : Nat) (s : Sup) (n : Int) (w : World) (h : Blk w g 86 s.cells) : Calls Try.prog 46 #[.pointer (some ⟨g, 0, none⟩), .int .i64 n] w fun e w' => e = .returned (.int .i64 (limS s n).1) ∧ Blk w' g 86 (limS s n).2.cells ∧ Turn (fun j => j = g) w w' := by
  have HG := Lib.hid h
  have f0 := h.frozen 0
  have hgl := h.lt
  have c0 := h.cell 0
  have HT := Lib.hid (show Turn (fun j => j = g) w w from Turn.refl _ _)
  have HT2 := Lib.hid (show Turn (fun j => j = g) w (w.setCell ⟨g, 0, none⟩ (.int .i64 n)) from (Turn.refl (fun j => j = g) w).setCell (p := ⟨g, 0, none⟩) (fun _ => rfl) _)
  have HS := Lib.hid (h.set_ 0 (.int .i64 n))
  unfold limS
  unfold Sup.cells at *
  simp at c0
  clear h
  by_cases hn : n < 0
  · rw [if_pos hn]
    have hd : decide (n < 0) = true := decide_eq_true hn
    go_enter Try.func46, Try.ntmps46
    go_wp2
    go_ret
    exact ⟨rfl, HG.out, HT.out⟩
  · rw [if_neg hn]
    have hd : decide (n < 0) = false := decide_eq_false hn
    go_enter Try.func46, Try.ntmps46
    go_wp2
    go_ret
    exact ⟨rfl, HS.out, HT2.out⟩
theorem rlimit_any (g : Nat) (s : Sup) (n : Int) (w : World) (h : Blk w g 65 s.cells) : Calls Try.prog 47 #[.pointer (some ⟨g, 0, none⟩), .int .i64 n] w fun e w' => e = .returned (.int .i64 (limS s n).1) ∧ Blk w' g 65 (limS s n).2.cells ∧ Turn (fun j => j = g) w w' := by
  have HG := Lib.hid h
  have f0 := h.frozen 0
  have hgl := h.lt
  have c0 := h.cell 0
  have HT := Lib.hid (show Turn (fun j => j = g) w w from Turn.refl _ _)
  have HT2 := Lib.hid (show Turn (fun j => j = g) w (w.setCell ⟨g, 0, none⟩ (.int .i64 n)) from (Turn.refl (fun j => j = g) w).setCell (p := ⟨g, 0, none⟩) (fun _ => rfl) _)
  have HS := Lib.hid (h.set_ 0 (.int .i64 n))
  unfold limS
  unfold Sup.cells at *
  simp at c0
  clear h
  by_cases hn : n < 0
  · rw [if_pos hn]
    have hd : decide (n < 0) = true := decide_eq_true hn
    go_enter Try.func47, Try.ntmps47
    go_wp2
    go_ret
    exact ⟨rfl, HG.out, HT.out⟩
  · rw [if_neg hn]
    have hd : decide (n < 0) = false := decide_eq_false hn
    go_enter Try.func47, Try.ntmps47
    go_wp2
    go_ret
    exact ⟨rfl, HS.out, HT2.out⟩
theorem restore_any (g : Nat) (s : Sup) (w : World) (h : Blk w g 86 s.cells) : Calls Try.prog 48 #[.pointer (some ⟨g, 0, none⟩)] w fun e w' => e = .returned (.tuple #[]) ∧ Blk w' g 86 (resS s).cells ∧ Turn (fun j => j = g) w w' := by
  have f0 := h.frozen 0
  have f2 := h.frozen 2
  have hgl := h.lt
  have c0 := h.cell 0
  have c2 := h.cell 2
  have HT2 := Lib.hid (show Turn (fun j => j = g) w ((w.setCell ⟨g, 2, none⟩ (.bool false)).setCell ⟨g, 0, none⟩ (.int .i64 (-1))) from ((Turn.refl (fun j => j = g) w).setCell (p := ⟨g, 2, none⟩) (fun _ => rfl) _).setCell (p := ⟨g, 0, none⟩) (fun _ => rfl) _)
  have HS := Lib.hid ((h.set_ 2 (.bool false)).set_ 0 (.int .i64 (-1)))
  unfold resS
  unfold Sup.cells at *
  simp at c0 c2
  clear h
  go_enter Try.func48, Try.ntmps48
  go_wp2
  go_end0
  exact ⟨rfl, HS.out, HT2.out⟩
theorem rrestore_any (g : Nat) (s : Sup) (w : World) (h : Blk w g 65 s.cells) : Calls Try.prog 49 #[.pointer (some ⟨g, 0, none⟩)] w fun e w' => e = .returned (.tuple #[]) ∧ Blk w' g 65 (resS s).cells ∧ Turn (fun j => j = g) w w' := by
  have f0 := h.frozen 0
  have f2 := h.frozen 2
  have hgl := h.lt
  have c0 := h.cell 0
  have c2 := h.cell 2
  have HT2 := Lib.hid (show Turn (fun j => j = g) w ((w.setCell ⟨g, 2, none⟩ (.bool false)).setCell ⟨g, 0, none⟩ (.int .i64 (-1))) from ((Turn.refl (fun j => j = g) w).setCell (p := ⟨g, 2, none⟩) (fun _ => rfl) _).setCell (p := ⟨g, 0, none⟩) (fun _ => rfl) _)
  have HS := Lib.hid ((h.set_ 2 (.bool false)).set_ 0 (.int .i64 (-1)))
  unfold resS
  unfold Sup.cells at *
  simp at c0 c2
  clear h
  go_enter Try.func49, Try.ntmps49
  go_wp2
  go_end0
  exact ⟨rfl, HS.out, HT2.out⟩
set_option maxHeartbeats 1000000 in
theorem ruse_any (g : Nat) (s : Sup) (w : World) (h : Blk w g 65 s.cells) (hl : -9223372036854775808 ≤ s.left ∧ s.left ≤ 9223372036854775807) (hu : 0 ≤ s.used ∧ s.used ≤ 1000000000) :
    Calls Try.prog 80 #[.pointer (some ⟨g, 0, none⟩)] w fun e w' => e = .returned (.int .i64 s.use.1) ∧ Blk w' g 65 s.use.2.cells ∧ Turn (fun j => j = g) w w' := by
  obtain ⟨left, used, gone⟩ := s
  have f0 := h.frozen 0
  have f1 := h.frozen 1
  have f2 := h.frozen 2
  have hgl := h.lt
  have c0 := h.cell 0
  have c1 := h.cell 1
  have c2 := h.cell 2
  have HG := Lib.hid h
  have HT1 := Lib.hid (show Turn (fun j => j = g) w (w.setCell ⟨g, 2, none⟩ (.bool true)) from (Turn.refl (fun j => j = g) w).setCell (p := ⟨g, 2, none⟩) (fun _ => rfl) _)
  have HT2 := Lib.hid (show Turn (fun j => j = g) w ((w.setCell ⟨g, 0, none⟩ (.int .i64 (left - 1))).setCell ⟨g, 1, none⟩ (.int .i64 (used + 1))) from ((Turn.refl (fun j => j = g) w).setCell (p := ⟨g, 0, none⟩) (fun _ => rfl) _).setCell (p := ⟨g, 1, none⟩) (fun _ => rfl) _)
  have HT3 := Lib.hid (show Turn (fun j => j = g) w (w.setCell ⟨g, 1, none⟩ (.int .i64 (used + 1))) from (Turn.refl (fun j => j = g) w).setCell (p := ⟨g, 1, none⟩) (fun _ => rfl) _)
  unfold Sup.cells at *
  unfold Sup.use
  simp at c0 c1 c2
  simp only at hl hu
  clear h
  have ewu : IntKind.i64.wrap (used + 1) = used + 1 := IntWalk.i64_in _ (by omega) |>.trans rfl
  cases gone with
  | true =>
    have HS := Lib.hid (HG.out.set_ 2 (.bool true))
    go_enter Try.func80, Try.ntmps80
    go_wp2
    go_ret
    exact ⟨rfl, HS.out, HT1.out⟩
  | false =>
    by_cases hz : left = 0
    · subst hz
      have HS := Lib.hid (HG.out.set_ 2 (.bool true))
      go_enter Try.func80, Try.ntmps80
      go_wp2
      go_ret
      exact ⟨rfl, HS.out, HT1.out⟩
    · have hzb : (left == 0) = false := by simpa using hz
      by_cases hp : left > 0
      · have hd : decide (0 < left) = true := decide_eq_true hp
        have ewl : IntKind.i64.wrap (left - 1) = left - 1 := IntWalk.i64_in _ (by omega) |>.trans rfl
        have HS := Lib.hid ((HG.out.set_ 0 (.int .i64 (left - 1))).set_ 1 (.int .i64 (used + 1)))
        have hR : (if (false = true ∨ left = 0) then ((20 : Int), Sup.mk left used true) else (0, ⟨if left > 0 then left - 1 else left, used + 1, false⟩)) = (0, ⟨left - 1, used + 1, false⟩) := by rw [if_neg (by simp [hz]), if_pos hp]
        rw [hR]
        clear hR
        go_enter Try.func80, Try.ntmps80
        go_wp2
        go_ret
        exact ⟨rfl, HS.out, HT2.out⟩
      · have hd : decide (0 < left) = false := decide_eq_false hp
        have HS := Lib.hid (HG.out.set_ 1 (.int .i64 (used + 1)))
        have hR : (if (false = true ∨ left = 0) then ((20 : Int), Sup.mk left used true) else (0, ⟨if left > 0 then left - 1 else left, used + 1, false⟩)) = (0, ⟨left, used + 1, false⟩) := by rw [if_neg (by simp [hz]), if_neg hp]
        rw [hR]
        clear hR
        go_enter Try.func80, Try.ntmps80
        go_wp2
        go_ret
        exact ⟨rfl, HS.out, HT3.out⟩
end Go.Proofs.Ytnbppfhnagacfaa
