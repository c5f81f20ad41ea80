/- works of package scupperlaw13: its calls, the states named. -/
import Derived.Test.YtnbppfhnagacfaaWorks
namespace Go.Proofs.Ytnbppfhnagacfaa
open Go.RowKit
set_option linter.unusedVariables false

theorem put_a0 {F : Nat → Prop} {c d : Nat} {hp : Int → Nat} (w : World) (h : St F w c d none hp a0) :
    Calls Try.prog 10 #[.pointer (some ⟨c, 0, none⟩), .int .i64 0, blkV b7] w fun e w' => e = .returned (.int .i64 0) ∧ (∃ hp', St (grow F w w') w' c d none hp' a1) ∧ Turn (fun j => F j ∨ none = some j) w w' := by
  refine (put_any 0 b7 w h room0 (by decide) b7_len).mono fun e w' ⟨h1, h2, h3⟩ => ⟨?_, h2, h3⟩
  rw [h1, p1]
theorem get_a1 {F : Nat → Prop} {c d : Nat} {hp : Int → Nat} (w : World) (h : St F w c d none hp a1) :
    Calls Try.prog 16 #[.pointer (some ⟨c, 0, none⟩), .int .i64 1] w fun e w' => ∃ b, e = .returned (.tuple #[blkV b, .int .i64 0]) ∧ b.length = 64 ∧ (∃ hp', St (grow F w w') w' c d none hp' a2) ∧ Turn (fun j => F j ∨ none = some j) w w' := by
  refine (get_any 1 w h room1 (by decide)).mono fun e w' ⟨h1, h2, h3⟩ => ⟨getB (holdR a1 1).2 1, ?_, ?_, h2, h3⟩
  · rw [h1, h1_]
    rfl
  · rfl
theorem read_a2 {F : Nat → Prop} {c d : Nat} {hp : Int → Nat} (w : World) (h : St F w c d none hp a2) :
    Calls Try.prog 15 #[.pointer (some ⟨d, 0, none⟩), .int .i64 0] w fun e w' => e = .returned (.tuple #[blkV b7, .int .i64 0]) ∧ Below w.heap.size w w' := by
  obtain ⟨Fd, hD⟩ := h.disk
  refine (hD.read 0 w (by decide)).mono fun e w' ⟨h1, h2⟩ => ⟨?_, h2⟩
  rw [h1, if_pos a2_is, if_pos a2_is, a2_shows]
theorem held_a2 {F : Nat → Prop} {c d : Nat} {hp : Int → Nat} (w : World) (h : St F w c d none hp a2) :
    Calls Try.prog 17 #[.pointer (some ⟨c, 0, none⟩)] w fun e w' => ∃ v', e = .returned v' ∧ IRow w' v' [1] ∧ Below w.heap.size w w' := by
  refine (held_any w h (by rw [a2_os]; decide)).mono fun e w' ⟨v', h1, h2, h3, h4⟩ => ⟨v', h1, ?_, h4⟩
  rwa [a2_os] at h2
end Go.Proofs.Ytnbppfhnagacfaa
