/- What package tree does to memory: flags. -/
import Derived.Test.YtpkhglfhpggceaaGreatDoorSize
namespace Go.Proofs.YtpkhglfhpggceaaGreatDoor
set_option maxRecDepth 100000
set_option maxHeartbeats 16000000
open Go.RowKit
set_option linter.unusedVariables false
set_option linter.unusedSimpArgs false

def hasB (f m : Int) : Bool := bits .and .i64 f m != 0
theorem flags_all : (List.range 32).all (fun n => flagsB (n : Int) == ((hasB n 3) && !(hasB n 8 && !hasB n 4) && (!hasB n 16 || hasB n 2))) = true := by kernel_rfl
theorem flags_in {f : Int} (h0 : 0 ≤ f) (h1 : f ≤ 31) : flagsB f = ((hasB f 3) && !(hasB f 8 && !hasB f 4) && (!hasB f 16 || hasB f 2)) := by
 obtain ⟨n, rfl⟩ : ∃ n : Nat, f = n := ⟨f.toNat, by omega⟩
 have h := List.all_eq_true.1 flags_all n (List.mem_range.2 (by omega))
 exact eq_of_beq h
theorem has_all : (List.range 32).all (fun n => (hasB (n : Int) 8 == decide ((n : Int) / 8 % 2 = 1)) && (hasB (n : Int) 4 == decide ((n : Int) / 4 % 2 = 1)) && (hasB (n : Int) 16 == decide ((n : Int) / 16 % 2 = 1)) && (bits .and .i64 n 3 == (n : Int) % 4) && (hasB (n : Int) 1 == decide ((n : Int) % 2 = 1)) && (hasB (n : Int) 2 == decide ((n : Int) / 2 % 2 = 1))) = true := by kernel_rfl
theorem has_in {f : Int} (h0 : 0 ≤ f) (h1 : f ≤ 31) : hasB f 8 = decide (f / 8 % 2 = 1) ∧ hasB f 4 = decide (f / 4 % 2 = 1) ∧ hasB f 16 = decide (f / 16 % 2 = 1) ∧ bits .and .i64 f 3 = f % 4 ∧ hasB f 1 = decide (f % 2 = 1) ∧ hasB f 2 = decide (f / 2 % 2 = 1) := by
 obtain ⟨n, rfl⟩ : ∃ n : Nat, f = n := ⟨f.toNat, by omega⟩
 have h := List.all_eq_true.1 has_all n (List.mem_range.2 (by omega))
 simp only [Bool.and_eq_true, beq_iff_eq] at h
 obtain ⟨⟨⟨⟨⟨h1, h2⟩, h3⟩, h4⟩, h5⟩, h6⟩ := h
 exact ⟨h1, h2, h3, h4, h5, h6⟩
theorem flags_lo {f : Int} (h : f < 0 ∨ 31 < f) : flagsB f = false := by
 unfold flagsB
 rcases h with h | h
 ·rw [decide_eq_false (show ¬ 0 ≤ f by omega)]; rfl
 ·rw [decide_eq_false (show ¬ f ≤ 31 by omega)]; simp
theorem flags_any (f : Int) (w : World) : Calls Tryz.prog 58 #[.int .i64 f] w fun e w' => e = .returned (.bool (flagsB f)) ∧ Below w.heap.size w w' := by
 by_cases h0 : f < 0
 ·have HR := Lib.hid (flags_lo (f := f) (.inl h0))
  go_enter Tryz.func58, Tryz.ntmps58
  go_wp2
  go_ret
  exact ⟨by rw [HR.out]; rfl, (Below.refl _ _).alloc (Nat.le_refl _) _⟩
 ·by_cases h1 : 31 < f
  ·have HR := Lib.hid (flags_lo (f := f) (.inr h1))
   go_enter Tryz.func58, Tryz.ntmps58
   go_wp2
   go_ret
   exact ⟨by rw [HR.out]; rfl, (Below.refl _ _).alloc (Nat.le_refl _) _⟩
  ·have HR := Lib.hid (flags_in (f := f) (by omega) (by omega))
   unfold hasB at HR
   go_enter Tryz.func58, Tryz.ntmps58
   go_wp2
   all_goals
    go_ret
    refine ⟨?_, (Below.refl _ _).alloc (Nat.le_refl _) _⟩
    rw [HR.out]
    simp_all
end Go.Proofs.YtpkhglfhpggceaaGreatDoor
