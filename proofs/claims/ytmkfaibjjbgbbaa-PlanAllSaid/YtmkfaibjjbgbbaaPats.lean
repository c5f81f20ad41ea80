/- A list of patches among the inputs, as it lies. -/
import Derived.Test.YtmkfaibjjbgbbaaMade
namespace Go.Proofs.Ytmkfaibjjbgbbaa
open Go.ChangeShapes Go.WideShapes Go.ChangeAt Go.RowKit Go.Deep
set_option linter.unusedVariables false

section
variable {H : Type} {enc : TypeId × Value → H} {W : World} {base : Nat} {spare : Nat → Bool} {held : Bool}
instance : Inhabited PtD := ⟨⟨⟨0, 0, 0, [], 0, [], 0, 0, false⟩, .slice none 0 0, .slice none 0 0⟩⟩
set_option maxRecDepth 100000 in
theorem pats_open {b0 : Nat} {v : Value} {d : DataW H} {p : List MemPlace} (hv : Value.okWide Try.prog W .any b0 50 v) (h : DataW.Trod enc Try.prog W base spare held 50 v d p) :
    ∃ A n c l, v = .slice A n c ∧ PatsR W A n l ∧ n ≤ c ∧ c ≤ 9223372036854775807 := by
  obtain ⟨A, n, c, rfl⟩ := okWide_slice Try.underlying50 hv
  obtain ⟨fuel, hf⟩ := h
  rcases open_slice Try.underlying50 hf with ⟨hcs, _⟩ | ⟨a, len, cap, m, k, D, Pl, hcs, _, hl, hm, hmm, _, hi⟩
  · simp [Value.cells] at hcs
    obtain ⟨rfl, rfl, rfl⟩ := hcs
    exact ⟨_, _, _, [], rfl, ⟨rfl, fun i x hx => by simp at hx⟩, Nat.le_refl _, by omega⟩
  · simp [Value.cells] at hcs
    obtain ⟨rfl, rfl, rfl⟩ := hcs
    have hnm : n ≤ m := by rw [hmm]; split <;> omega
    have hel0 : ∀ i, i < n → ∃ x : PtD, (∀ (j : Nat) (u : Value), (x.p.cells x.vd x.vn)[j]? = some u → W.cell? (a.add (i * 9 + j)) = some u) ∧ Row W x.vd (bytes x.p.data) ∧ Row W x.vn (ints x.p.needs) := by
      intro i hin
      obtain ⟨cs', hc, ht⟩ := hi i (by omega)
      rw [cells30] at hc
      obtain ⟨_, hcl, hat⟩ := World.cells?_some hc
      match cs', hcl with
      | [u0, u1, u2, u3, u4, u5, u6, u7, u8], _ =>
        obtain ⟨b, ⟨f0, f1, f2, f3, f4, f5, f6, f7, f8⟩, hd, hn⟩ := patch_open ht
        subst f0 f1 f2 f3 f4 f5 f6 f7 f8
        refine ⟨b, fun j u hu => ?_, hd, hn⟩
        have hj : j < 9 := by
          rcases Nat.lt_or_ge j 9 with h | h
          · exact h
          · rw [Array.getElem?_eq_none (by unfold Pt.cells; simpa using h)] at hu; cases hu
        have := hat j hj
        rw [Go.Deep.add_add] at this
        rw [this]
        unfold Pt.cells at hu
        rw [← hu]
        simp
    obtain ⟨f, hf⟩ := choose_lt hel0
    refine ⟨some a, n, c, (List.range n).map f, rfl, ⟨by simp, fun i x hx => ?_⟩, hl, by unfold maxLen at hm; omega⟩
    have hin : i < n := by
      rcases Nat.lt_or_ge i n with h | h
      · exact h
      · rw [List.getElem?_eq_none (by simpa using h)] at hx; cases hx
    rw [List.getElem?_map, List.getElem?_range hin] at hx
    simp at hx
    subst hx
    have h00 := (hf 0 (by omega)).1 0 _ rfl
    have hs : a.spot = none := by simpa [Addr.add] using World.cell?_spot h00
    have hb : a.block < W.heap.size := by simpa [Addr.add] using World.block_lt_of_cell? W _ h00
    obtain ⟨b, o, sp⟩ := a
    simp only at hs hb
    subst hs
    have hadd : ∀ j, (⟨b, o, none⟩ : Addr).add j = ⟨b, o + j, none⟩ := by intro j; unfold Addr.add; split <;> simp_all
    obtain ⟨c0, c1, c2⟩ := hf i hin
    exact ⟨⟨b, o, rfl, hb, fun j u hu => by have := c0 j u hu; rw [hadd, ← Nat.add_assoc] at this; exact this⟩, c1, c2⟩
end
end Go.Proofs.Ytmkfaibjjbgbbaa
