/- The table of package fds and the reference's hold the same: what each call does to both. Plain. -/
import Derived.Test.YtcjgmkjjogemhaaRef
import Derived.Test.YtcjgmkjjogemhaaWorks
namespace Go.Proofs.Ytcjgmkjjogemhaa
open Go.RowKit

def Sim (T : Nat → Option FileT) (I : Nat → Bool) (F : Nat → Int × Int × Int) : Prop :=
  ∀ i, i < 8 → (T i = none ∧ I i = false) ∨ ∃ x, T i = some x ∧ I i = true ∧ F i = x.2

variable {T : Nat → Option FileT} {I : Nat → Bool} {F : Nat → Int × Int × Int}
theorem Sim.start : Sim (fun _ => none) (fun _ => false) F := fun _ _ => .inl ⟨rfl, rfl⟩
theorem Sim.present (h : Sim T I F) {k : Nat} (hk : k < 8) {x : FileT} (hx : T k = some x) : I k = true ∧ F k = x.2 := by
  rcases h k hk with ⟨h1, _⟩ | ⟨y, h1, h2, h3⟩
  · rw [hx] at h1; cases h1
  · rw [hx] at h1; injection h1 with h1; subst h1; exact ⟨h2, h3⟩
theorem Sim.absent (h : Sim T I F) {k : Nat} (hk : k < 8) (hx : T k = none) : I k = false := by
  rcases h k hk with ⟨_, h1⟩ | ⟨y, h1, _⟩
  · exact h1
  · rw [hx] at h1; cases h1
theorem Sim.look_none (h : Sim T I F) {fd : Int} (hl : look T fd = none) : rlook I fd = false := by
  unfold rlook
  split
  · rename_i hr
    refine h.absent (by omega) ?_
    unfold look at hl
    rw [if_pos hr] at hl
    exact hl
  · rfl
theorem Sim.opened (h : Sim T I F) (k B : Nat) (ino mode : Int) : Sim (put T k (Option.some (B, ino, 0, mode))) (put I k true) (put F k (ino, 0, mode)) := by
  intro i hi
  unfold put
  by_cases e : i = k
  · rw [if_pos e, if_pos e, if_pos e]; exact .inr ⟨_, rfl, rfl, rfl⟩
  · rw [if_neg e, if_neg e, if_neg e]; exact h i hi
theorem Sim.closed (h : Sim T I F) (k : Nat) : Sim (put T k Option.none) (put I k false) F := by
  intro i hi
  unfold put
  by_cases e : i = k
  · rw [if_pos e, if_pos e]; exact .inl ⟨rfl, rfl⟩
  · rw [if_neg e, if_neg e]; exact h i hi
theorem Sim.sought (h : Sim T I F) {k : Nat} (hk : k < 8) {x : FileT} (hx : T k = Option.some x) (pos : Int) : Sim (put T k (Option.some (x.1, x.2.1, pos, x.2.2.2))) I (put F k ((F k).1, pos, (F k).2.2)) := by
  obtain ⟨h1, h2⟩ := h.present hk hx
  intro i hi
  unfold put
  by_cases e : i = k
  · rw [if_pos e, if_pos e, e]; exact .inr ⟨_, rfl, h1, by rw [h2]⟩
  · rw [if_neg e, if_neg e]; exact h i hi
theorem Sim.copied {T' : Nat → Option FileT} (h : Sim T I F) (hc : ∀ i, i < 8 → (T' i).map (·.2) = (T i).map (·.2)) : Sim T' I F := by
  intro i hi
  have hc := hc i hi
  rcases h i hi with ⟨h1, h2⟩ | ⟨x, h1, h2, h3⟩
  · rw [h1] at hc
    cases hT : T' i with
    | none => exact .inl ⟨rfl, h2⟩
    | some y => rw [hT] at hc; cases hc
  · rw [h1] at hc
    cases hT : T' i with
    | none => rw [hT] at hc; cases hc
    | some y => rw [hT] at hc; simp at hc; exact .inr ⟨y, rfl, h2, by rw [h3, hc]⟩
theorem Sim.used (h : Sim T I F) : usedTo T 8 = rusedTo I 8 := by
  unfold usedTo rusedTo
  congr 1
  refine List.filter_congr fun i hi => ?_
  rcases h i (List.mem_range.1 hi) with ⟨h1, h2⟩ | ⟨x, h1, h2, _⟩
  · rw [h1, h2]; rfl
  · rw [h1, h2]; rfl
theorem Sim.counted (h : Sim T I F) (ino : Int) : countTo T ino (usedTo T 8).length = rcountTo I F ino 8 := by
  unfold countTo rcountTo
  rw [List.take_length]
  unfold usedTo
  rw [List.filter_map, List.length_map, List.filter_filter]
  congr 1
  refine List.filter_congr fun i hi => ?_
  have hi8 := List.mem_range.1 hi
  have e : (hasIno T ino ∘ fun (i : Nat) => (i : Int)) i = hasIno T ino (i : Int) := rfl
  rw [e]
  unfold hasIno
  rw [look_nat hi8]
  rcases h i hi8 with ⟨h1, h2⟩ | ⟨x, h1, h2, h3⟩
  · rw [h1, h2]; rfl
  · rw [h1, h2, h3]; simp
end Go.Proofs.Ytcjgmkjjogemhaa
