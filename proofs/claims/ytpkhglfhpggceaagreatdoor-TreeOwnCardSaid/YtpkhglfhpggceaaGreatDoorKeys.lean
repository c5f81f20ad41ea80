/- A directory's names by rising texts: slices.Sorted(maps.Keys(..)). -/
import Derived.Test.YtpkhglfhpggceaaGreatDoorHeld
namespace Go.Proofs.YtpkhglfhpggceaaGreatDoor
open Go.RowKit
set_option linter.unusedVariables false
set_option linter.unusedSimpArgs false
theorem keys_any (b : Nat) (w : World) : Calls Tryz.prog 49 #[.map (some b)] w fun e w' => e = .returned (.func (.func 94) #[] #[.pointer (some ⟨w.heap.size, 0, none⟩)]) ∧ w' = w.alloc (.cells #[.map (some b)] 72) :=
 callsIn_wide.1 (Tryz.maps_Keys_49 (some b) w)
theorem enc_keys (l : Names) : (l.map fun p => p.1.data.toList).map encStr = (l.map (·.1)).map Value.string := by
 rw [List.map_map, List.map_map]
 refine List.map_congr_left fun p _ => ?_
 show encStr p.1.data.toList = .string p.1
 unfold encStr
 obtain ⟨⟨d⟩, n⟩ := p
 simp
def SortedPost (l : Names) (w : World) (W : World) (e : Ending) (w' : World) : Prop :=
 ∃ v, e = .returned v ∧ Texts w.heap.size w' v (l.map (·.1)) ∧ Below w.heap.size w w'
theorem sorted_any (b n : Nat) (l : Names) (w : World) (h : MapS w b n l) (hl : l.length ≤ 1000000) :
  Calls Tryz.prog 48 #[.func (.func 94) #[] #[.pointer (some ⟨w.heap.size, 0, none⟩)]] (w.alloc (.cells #[.map (some b)] 72)) (SortedPost l w (w.alloc (.cells #[.map (some b)] 72))) := by
 obtain ⟨hr, hz, hsh, D, hown, hrd, hsz⟩ := h
 refine (callsIn_wide.1 (Tryz.slices_Sorted_keys_48_49 b n D raw w hown (by rw [hsz]; unfold maxLen; omega) (by rw [hsz]; omega))).mono ?_
 rintro e w' ⟨v, ss, rfl, hp, ho, -, hb⟩
 have hk := MapS.keys hr hz hown hrd hp
 rw [hk, enc_keys] at ho
 exact ⟨v, rfl, (Texts.of_own ho).mono (by simp), below_a hb⟩
end Go.Proofs.YtpkhglfhpggceaaGreatDoor
