/- What a list of acts, of patches, of ints among the inputs is, as it lies. -/
import Derived.Test.YtmkfaibjjbgbbaaRows
import Derived.Test.YtmkfaibjjbgbbaaGoesWalk
import Derived.ProofKit
import Derived.OpenShut
import Derived.ChangeOld
import Derived.Deep.Slices
import Derived.Deep.Strs
import Derived.Lib.SmallJoins
namespace Go.Proofs.Ytmkfaibjjbgbbaa
open Go.ChangeShapes Go.WideShapes Go.ChangeAt Go.RowKit Go.Deep
set_option linter.unusedVariables false

theorem laidOut : laidOutB Try.prog = true := by kernel_rfl
theorem cells32 : Try.prog.cellsOf 32 = 12 := by kernel_rfl
theorem cells30 : Try.prog.cellsOf 30 = 9 := by kernel_rfl
theorem cells3 : Try.prog.cellsOf 3 = 1 := by kernel_rfl
theorem cells4 : Try.prog.cellsOf 4 = 1 := by kernel_rfl
theorem cells5 : Try.prog.cellsOf 5 = 1 := by kernel_rfl
theorem cells27 : Try.prog.cellsOf 27 = 1 := by kernel_rfl
theorem cells28 : Try.prog.cellsOf 28 = 1 := by kernel_rfl

section
variable {H : Type} {enc : TypeId × Value → H} {W : World} {base : Nat} {spare : Nat → Bool} {held : Bool}

/-- A slice of numbers. -/
theorem row_open {T e : TypeId} {k : IntKind} {fuel : Nat} {v : Value} {x : DataW H × List MemPlace} (ht : Try.prog.underlying T = some (.slice e)) (he : Try.prog.underlying e = some (.int k)) (hc : Try.prog.cellsOf e = 1)
    (h : DataW.trod enc Try.prog W base spare held fuel T [v] = some x) : ∃ zs : List Int, Row W v (zs.map (Value.int k)) ∧ ∀ z ∈ zs, (Lit.int k z).wf = true := by
  rcases open_ints ht he hc h with ⟨hcs, _⟩ | ⟨a, len, cap, zs, hcs, _, hl, hm, hz, _, hcell, hwf⟩
  · injection hcs with hv _
    exact ⟨[], ⟨none, 0, by rw [hv]; rfl, Nat.le_refl _, Nat.zero_le _, (fun _ => rfl), (fun ad h => by cases h)⟩, (fun z h => by cases h)⟩
  · injection hcs with hv _
    have hlz : len ≤ zs.length := by rw [hz]; split <;> omega
    refine ⟨zs.take len, ⟨some a, cap, by rw [hv]; simp; omega, by simp; omega, hm, (fun h => by cases h), fun ad hA i u hu => ?_⟩, fun z hzm => hwf z (List.mem_of_mem_take hzm)⟩
    cases hA
    rw [List.map_take] at hu
    have hi : i < len := by
      rcases Nat.lt_or_ge i len with h | h
      · exact h
      · rw [List.getElem?_eq_none (by simp; omega)] at hu; cases hu
    rw [List.getElem?_take_of_lt hi] at hu
    have hc2 := hcell i (by omega)
    rw [List.getElem?_map] at hu
    have hzi : zs[i]? = some (zs.getD i 0) := by
      rw [List.getD_eq_getElem?_getD, List.getElem?_eq_getElem (by omega)]
      rfl
    rw [hzi] at hu
    have hu' : Value.int k (zs.getD i 0) = u := by simpa using hu
    rw [← hu']
    exact ⟨by have := World.block_lt_of_cell? W _ hc2; rwa [add_block] at this, hc2⟩

/-- A patch's nine cells. -/
structure PtD where
  p : Pt
  vd : Value
  vn : Value
theorem patch_open {fuel : Nat} {u0 u1 u2 u3 u4 u5 u6 u7 u8 : Value} {x : DataW H × List MemPlace}
    (h : DataW.trod enc Try.prog W base spare held fuel 30 [u0, u1, u2, u3, u4, u5, u6, u7, u8] = some x) :
    ∃ a : PtD, (u0 = .int .i64 a.p.id ∧ u1 = .int .i64 a.p.sec ∧ u2 = .int .i64 a.p.off ∧ u3 = a.vd ∧ u4 = .int .i64 a.p.kind ∧ u5 = a.vn ∧ u6 = .int .i64 a.p.owner ∧ u7 = .int .i64 a.p.child ∧ u8 = .bool a.p.written) ∧ Row W a.vd (bytes a.p.data) ∧ Row W a.vn (ints a.p.needs) := by
  obtain ⟨xs, n, _, _, _, hlen, hf⟩ := DataW.trod_struct Try.underlying30 h
  have h0 : DataW.trod enc Try.prog W base spare held n 3 (([u0, u1, u2, u3, u4, u5, u6, u7, u8].drop 0).take (Try.prog.cellsOf 3)) = xs[0]? := hf 0 _ rfl
  have h1 : DataW.trod enc Try.prog W base spare held n 3 (([u0, u1, u2, u3, u4, u5, u6, u7, u8].drop 1).take (Try.prog.cellsOf 3)) = xs[1]? := hf 1 _ rfl
  have h2 : DataW.trod enc Try.prog W base spare held n 3 (([u0, u1, u2, u3, u4, u5, u6, u7, u8].drop 2).take (Try.prog.cellsOf 3)) = xs[2]? := hf 2 _ rfl
  have h3 : DataW.trod enc Try.prog W base spare held n 27 (([u0, u1, u2, u3, u4, u5, u6, u7, u8].drop 3).take (Try.prog.cellsOf 27)) = xs[3]? := hf 3 _ rfl
  have h4 : DataW.trod enc Try.prog W base spare held n 3 (([u0, u1, u2, u3, u4, u5, u6, u7, u8].drop 4).take (Try.prog.cellsOf 3)) = xs[4]? := hf 4 _ rfl
  have h5 : DataW.trod enc Try.prog W base spare held n 28 (([u0, u1, u2, u3, u4, u5, u6, u7, u8].drop 5).take (Try.prog.cellsOf 28)) = xs[5]? := hf 5 _ rfl
  have h6 : DataW.trod enc Try.prog W base spare held n 3 (([u0, u1, u2, u3, u4, u5, u6, u7, u8].drop 6).take (Try.prog.cellsOf 3)) = xs[6]? := hf 6 _ rfl
  have h7 : DataW.trod enc Try.prog W base spare held n 3 (([u0, u1, u2, u3, u4, u5, u6, u7, u8].drop 7).take (Try.prog.cellsOf 3)) = xs[7]? := hf 7 _ rfl
  have h8 : DataW.trod enc Try.prog W base spare held n 4 (([u0, u1, u2, u3, u4, u5, u6, u7, u8].drop 8).take (Try.prog.cellsOf 4)) = xs[8]? := hf 8 _ rfl
  match xs, hlen with
  | [y0, y1, y2, y3, y4, y5, y6, y7, y8], _ =>
    rw [cells3] at h0 h1 h2 h4 h6 h7
    rw [cells27] at h3
    rw [cells28] at h5
    rw [cells4] at h8
    obtain ⟨q0, e0, _, _⟩ := DataW.trod_int Try.underlying3 (x := y0) (by simpa using h0)
    obtain ⟨q1, e1, _, _⟩ := DataW.trod_int Try.underlying3 (x := y1) (by simpa using h1)
    obtain ⟨q2, e2, _, _⟩ := DataW.trod_int Try.underlying3 (x := y2) (by simpa using h2)
    obtain ⟨q4, e4, _, _⟩ := DataW.trod_int Try.underlying3 (x := y4) (by simpa using h4)
    obtain ⟨q6, e6, _, _⟩ := DataW.trod_int Try.underlying3 (x := y6) (by simpa using h6)
    obtain ⟨q7, e7, _, _⟩ := DataW.trod_int Try.underlying3 (x := y7) (by simpa using h7)
    obtain ⟨q8, e8, _⟩ := DataW.trod_bool Try.underlying4 (x := y8) (by simpa using h8)
    obtain ⟨ds, hds, _⟩ := row_open Try.underlying27 Try.underlying5 cells5 (v := u3) (x := y3) (by simpa using h3)
    obtain ⟨ns, hns, _⟩ := row_open Try.underlying28 Try.underlying3 cells3 (v := u5) (x := y5) (by simpa using h5)
    simp at e0 e1 e2 e4 e6 e7 e8
    exact ⟨⟨⟨q0, q1, q2, ds, q4, ns, q6, q7, q8⟩, u3, u5⟩, ⟨e0, e1, e2, rfl, e4, rfl, e6, e7, e8⟩, hds, hns⟩

instance : Inhabited ActD := ⟨⟨0, 0, ⟨0, 0, 0, [], 0, [], 0, 0, false⟩, .slice none 0 0, .slice none 0 0, false⟩⟩
set_option maxRecDepth 100000 in
theorem acts_open {b0 : Nat} {v : Value} {d : DataW H} {p : List MemPlace} (hv : Value.okWide Try.prog W .any b0 22 v) (h : DataW.Trod enc Try.prog W base spare held 22 v d p) :
    ∃ A n c l, v = .slice A n c ∧ ActsR W A n l ∧ n ≤ c ∧ c ≤ 9223372036854775807 := by
  obtain ⟨A, n, c, rfl⟩ := okWide_slice Try.underlying22 hv
  obtain ⟨fuel, hf⟩ := h
  rcases open_slice Try.underlying22 hf with ⟨hcs, _⟩ | ⟨a, len, cap, m, k, D, Pl, hcs, _, hl, hm, hmm, _, hi⟩
  · simp [Value.cells] at hcs
    obtain ⟨rfl, rfl, rfl⟩ := hcs
    exact ⟨_, _, _, [], rfl, ⟨rfl, fun i x hx => by simp at hx⟩, Nat.le_refl _, by omega⟩
  · simp [Value.cells] at hcs
    obtain ⟨rfl, rfl, rfl⟩ := hcs
    have hnm : n ≤ m := by rw [hmm]; split <;> omega
    have hel0 : ∀ i, i < n → ∃ x : ActD, (∀ (j : Nat) (u : Value), x.cells[j]? = some u → W.cell? (a.add (i * 12 + j)) = some u) ∧ Row W x.vd (bytes x.p.data) ∧ Row W x.vn (ints x.p.needs) := by
      intro i hin
      obtain ⟨cs', hc, ht⟩ := hi i (by omega)
      rw [cells32] at hc
      obtain ⟨_, hcl, hat⟩ := World.cells?_some hc
      obtain ⟨y0, y1, y2, y3, k', _, _, h0, h1, h2, h3⟩ := Go.Joins.trod_struct4 Try.underlying32 ht
      simp only [cells3, cells4, cells30] at h0 h1 h2 h3
      match cs', hcl with
      | [u0, u1, u2, u3, u4, u5, u6, u7, u8, u9, u10, u11], _ =>
        obtain ⟨q0, e0, _, _⟩ := DataW.trod_int Try.underlying3 h0
        obtain ⟨q1, e1, _, _⟩ := DataW.trod_int Try.underlying3 h1
        obtain ⟨q3, e3, _⟩ := DataW.trod_bool Try.underlying4 h3
        obtain ⟨b, ⟨f0, f1, f2, f3, f4, f5, f6, f7, f8⟩, hd, hn⟩ := patch_open (u0 := u2) (u1 := u3) (u2 := u4) (u3 := u5) (u4 := u6) (u5 := u7) (u6 := u8) (u7 := u9) (u8 := u10) (by simpa using h2)
        simp at e0 e1 e3
        subst e0 e1 e3 f0 f1 f2 f3 f4 f5 f6 f7 f8
        refine ⟨⟨q0, q1, b.p, b.vd, b.vn, q3⟩, fun j u hu => ?_, hd, hn⟩
        have hj : j < 12 := by
          rcases Nat.lt_or_ge j 12 with h | h
          · exact h
          · rw [Array.getElem?_eq_none (by unfold ActD.cells; simpa using h)] at hu; cases hu
        have := hat j hj
        rw [Go.Deep.add_add] at this
        rw [this]
        unfold ActD.cells at hu
        rw [← hu]
        simp
    obtain ⟨f, hf⟩ := choose_lt hel0
    refine ⟨some a, n, c, (List.range n).map f, rfl, ⟨by simp, fun i x hx => ?_⟩, hl, by unfold maxLen at hm; omega⟩
    have hin : i < n := by
      rcases Nat.lt_or_ge i n with h | h
      · exact h
      · rw [List.getElem?_eq_none (by simpa using h)] at hx; cases hx
    rw [List.getElem?_map, List.getElem?_range hin] at hx
    simp at hx
    subst hx
    have h00 := (hf 0 (by omega)).1 0 _ rfl
    have hs : a.spot = none := by simpa [Addr.add] using World.cell?_spot h00
    have hb : a.block < W.heap.size := by simpa [Addr.add] using World.block_lt_of_cell? W _ h00
    obtain ⟨b, o, sp⟩ := a
    simp only at hs hb
    subst hs
    have hadd : ∀ j, (⟨b, o, none⟩ : Addr).add j = ⟨b, o + j, none⟩ := by intro j; unfold Addr.add; split <;> simp_all
    obtain ⟨c0, c1, c2⟩ := hf i hin
    exact ⟨⟨b, o, rfl, hb, fun j u hu => by have := c0 j u hu; rw [hadd, ← Nat.add_assoc] at this; exact this⟩, c1, c2⟩
end
end Go.Proofs.Ytmkfaibjjbgbbaa
