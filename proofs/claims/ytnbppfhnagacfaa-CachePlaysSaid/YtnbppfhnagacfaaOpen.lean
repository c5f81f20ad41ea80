/- What a list of acts among the inputs is, as it lies. -/
import Derived.Test.YtnbppfhnagacfaaRows
import Derived.Test.YtnbppfhnagacfaaActs
import Derived.ProofKit
import Derived.OpenShut
import Derived.ChangeOld
import Derived.Deep.Slices
import Derived.Deep.Strs
import Derived.Lib.SmallJoins
namespace Go.Proofs.Ytnbppfhnagacfaa
open Go.ChangeShapes Go.WideShapes Go.ChangeAt Go.RowKit Go.Deep
set_option linter.unusedVariables false

theorem laidOut : laidOutB Try.prog = true := by kernel_rfl
theorem cells35 : Try.prog.cellsOf 35 = 66 := by kernel_rfl
theorem cells3 : Try.prog.cellsOf 3 = 1 := by kernel_rfl
theorem cells5 : Try.prog.cellsOf 5 = 1 := by kernel_rfl
theorem cells32 : Try.prog.cellsOf 32 = 64 := by kernel_rfl
theorem cells8 : ∀ (l : List Value), (∀ (i : Nat) (v : Value), l[i]? = some v → ∃ n, v = .int .u8 n) → ∃ b : List Int, l = bytes b
  | [], _ => ⟨[], rfl⟩
  | v :: l, h => by
    obtain ⟨n, rfl⟩ := h 0 v rfl
    obtain ⟨b, rfl⟩ := cells8 l fun i v hv => h (i + 1) v (by simpa using hv)
    exact ⟨n :: b, rfl⟩

section
variable {H : Type} {enc : TypeId × Value → H} {W : World} {base : Nat} {spare : Nat → Bool} {held : Bool}
theorem block_trod {fuel : Nat} {cs : List Value} {x : DataW H × List MemPlace} (h : DataW.trod enc Try.prog W base spare held fuel 32 cs = some x) : ∃ b : List Int, cs = bytes b ∧ b.length = 64 := by
  obtain ⟨xs, m, -, -, hl, hx, hi⟩ := DataW.trod_array Try.underlying32 h
  rw [cells32] at hl
  obtain ⟨b, hb⟩ := cells8 cs fun i v hv => by
    have hlt : i < 64 := by
      have := (List.getElem?_eq_some_iff.1 hv).1
      omega
    have h1 := hi i hlt
    rw [cells5, Nat.mul_one, List.getElem?_eq_getElem (by omega)] at h1
    obtain ⟨q, e, _, _⟩ := DataW.trod_int Try.underlying5 h1
    have h2 : ((cs.drop i).take 1)[0]? = some (.int .u8 q) := by rw [e]; rfl
    rw [List.getElem?_take_of_lt (by omega), List.getElem?_drop, Nat.add_zero, hv] at h2
    exact ⟨q, Option.some.inj h2⟩
  refine ⟨b, hb, ?_⟩
  rw [← bytes_len, ← hb]
  exact hl
instance : Inhabited ActD := ⟨⟨0, 0, []⟩⟩
set_option maxRecDepth 100000 in
theorem acts_open {b0 : Nat} {v : Value} {d : DataW H} {p : List MemPlace} (hv : Value.okWide Try.prog W .any b0 22 v) (h : DataW.Trod enc Try.prog W base spare held 22 v d p) :
    ∃ A n c l, v = .slice A n c ∧ ActsR W A n l ∧ n ≤ c ∧ c ≤ 9223372036854775807 := by
  obtain ⟨A, n, c, rfl⟩ := okWide_slice Try.underlying22 hv
  obtain ⟨fuel, hf⟩ := h
  rcases open_slice Try.underlying22 hf with ⟨hcs, _⟩ | ⟨a, len, cap, m, k, D, Pl, hcs, _, hl, hm, hmm, _, hi⟩
  · simp [Value.cells] at hcs
    obtain ⟨rfl, rfl, rfl⟩ := hcs
    exact ⟨_, _, _, [], rfl, ⟨rfl, fun i x hx => by simp at hx⟩, Nat.le_refl _, by omega⟩
  · simp [Value.cells] at hcs
    obtain ⟨rfl, rfl, rfl⟩ := hcs
    have hnm : n ≤ m := by rw [hmm]; split <;> omega
    have hel0 : ∀ i, i < n → ∃ x : ActD, (∀ (j : Nat) (u : Value), x.cells[j]? = some u → W.cell? (a.add (i * 66 + j)) = some u) ∧ x.b.length = 64 ∧ (key x.at_).wf = true := by
      intro i hin
      obtain ⟨cs', hc, ht⟩ := hi i (by omega)
      rw [cells35] at hc
      obtain ⟨_, hcl, hat⟩ := World.cells?_some hc
      obtain ⟨y0, y1, y2, k', _, _, h0, h1, h2⟩ := trod_struct3 Try.underlying35 ht
      simp only [cells3, cells32] at h0 h1 h2
      obtain ⟨q0, e0, _, _⟩ := DataW.trod_int Try.underlying3 h0
      obtain ⟨q1, e1, _, ew1⟩ := DataW.trod_int Try.underlying3 h1
      obtain ⟨b, e2, hb⟩ := block_trod h2
      refine ⟨⟨q0, q1, b⟩, fun j u hu => ?_, hb, ew1⟩
      have hcs : cs' = (ActD.mk q0 q1 b).cells := by
        have s0 : cs' = (cs'.drop 0).take 1 ++ ((cs'.drop 1).take 1 ++ (cs'.drop 2).take 64) := by
          apply List.ext_getElem?
          intro q
          rcases Nat.lt_or_ge q 66 with hq | hq
          · match q, hq with
            | 0, _ => rw [List.getElem?_append_left (by simp; omega), List.getElem?_take_of_lt (by omega), List.getElem?_drop]
            | 1, _ => rw [List.getElem?_append_right (by simp; omega), List.getElem?_append_left (by simp; omega), List.getElem?_take_of_lt (by simp; omega), List.getElem?_drop]; congr 1; simp; omega
            | q + 2, hq => rw [List.getElem?_append_right (by simp; omega), List.getElem?_append_right (by simp; omega), List.getElem?_take_of_lt (by simp; omega), List.getElem?_drop]; congr 1; simp; omega
          · rw [List.getElem?_eq_none (by omega), List.getElem?_eq_none (by simp; omega)]
        rw [s0, e0, e1, e2]
        rfl
      have hj : j < 66 := by
        have := (List.getElem?_eq_some_iff.1 hu).1
        rw [ActD.len _ hb] at this
        exact this
      have := hat j hj
      rw [Go.Deep.add_add] at this
      rw [this, hcs]
      exact hu
    obtain ⟨f, hf⟩ := choose_lt hel0
    refine ⟨some a, n, c, (List.range n).map f, rfl, ⟨by simp, fun i x hx => ?_⟩, hl, by unfold maxLen at hm; omega⟩
    have hin : i < n := by
      rcases Nat.lt_or_ge i n with h | h
      · exact h
      · rw [List.getElem?_eq_none (by simpa using h)] at hx; cases hx
    rw [List.getElem?_map, List.getElem?_range hin] at hx
    simp at hx
    subst hx
    have h00 := (hf 0 (by omega)).1 0 _ rfl
    have hs : a.spot = none := by simpa [Addr.add] using World.cell?_spot h00
    have hb : a.block < W.heap.size := by simpa [Addr.add] using World.block_lt_of_cell? W _ h00
    obtain ⟨b, o, sp⟩ := a
    simp only at hs hb
    subst hs
    have hadd : ∀ j, (⟨b, o, none⟩ : Addr).add j = ⟨b, o + j, none⟩ := by intro j; unfold Addr.add; split <;> simp_all
    obtain ⟨c0, c1, c2⟩ := hf i hin
    exact ⟨c1, c2, b, o, rfl, hb, fun j u hu => by have := c0 j u hu; rw [hadd, ← Nat.add_assoc] at this; exact this⟩
end
end Go.Proofs.Ytnbppfhnagacfaa
