/- An argument of texts, opened: whatever slice of strings comes in reads as a list of texts. -/
import Derived.Test.YtcjgmkjjogemhaaDoorLaid
import Derived.Test.YtcjgmkjjogemhaaDoorTexts
import Derived.SliceStrings
namespace Go.Proofs.YtcjgmkjjogemhaaDoor
open Go.ChangeShapes Go.WideShapes Go.ChangeAt Go.RowKit

theorem texts_open {H : Type} {enc : TypeId × Value → H} {W : World} {base b0 : Nat} {spare : Nat → Bool} {held : Bool} {v : Value} {d : DataW H} {p : List MemPlace}
    (hv : Value.okWide Tryd.prog W .any b0 22 v) (h : DataW.Trod enc Tryd.prog W base spare held 22 v d p) :
    ∃ l, Texts 0 W v l ∧ ∀ u ∈ l, u.size ≤ 9223372036854775807 := by
  obtain ⟨A, n, c, rfl⟩ := okWide_slice Tryd.underlying22 hv
  obtain ⟨fuel, hf⟩ := h
  rcases open_strings Tryd.underlying22 Tryd.underlying9 (by kernel_rfl) hf with ⟨hcs, _⟩ | ⟨a, len, cap, ss, hcs, _, hl, hm, hmm, _, hi, hz⟩
  · simp [Value.cells] at hcs
    obtain ⟨rfl, rfl, rfl⟩ := hcs
    exact ⟨[], Texts.nil _ _, fun u hu => by cases hu⟩
  · simp [Value.cells] at hcs
    obtain ⟨rfl, rfl, rfl⟩ := hcs
    have hnm : n ≤ ss.length := by rw [hmm]; split <;> omega
    have hlen : (ss.take n).length = n := by simp; omega
    refine ⟨ss.take n, ⟨some a, c, by rw [hlen], by omega, hm, fun i u hu => ?_⟩, fun u hu => by have := hz u (List.mem_of_mem_take hu); unfold maxLen at this; omega⟩
    rw [List.getElem?_take] at hu
    split at hu
    case isTrue hin =>
      have h0 := hi 0 (by omega)
      have hb := World.block_lt_of_cell? W _ h0
      have hsp : a.spot = none := by
        unfold World.cell? Addr.add at h0
        rw [if_pos rfl] at h0
        cases hs : a.spot with
        | none => rfl
        | some x => rw [hs] at h0; simp at h0; split at h0 <;> cases h0
      have hat : a = ⟨a.block, a.off, none⟩ := by cases a; simp_all
      have hc := hi i (by omega)
      rw [List.getD_eq_getElem?_getD, hu] at hc
      refine ⟨a.block, a.off, by rw [← hat], Nat.zero_le _, by unfold Addr.add at hb; rwa [if_pos rfl] at hb, ?_⟩
      have e1 : a.add i = ⟨a.block, a.off + i, none⟩ := by
        unfold Addr.add
        split
        · rename_i h; subst h; rw [hat]; rfl
        · rfl
      rw [← e1]
      exact hc
    case isFalse => cases hu
end Go.Proofs.YtcjgmkjjogemhaaDoor
