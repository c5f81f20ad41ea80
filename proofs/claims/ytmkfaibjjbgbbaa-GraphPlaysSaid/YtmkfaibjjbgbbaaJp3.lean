/- What a list of acts, of patches, of ints among the inputs is, as it lies. made of package scupperlaw16. do of package scupperlaw14. -/
import Derived.Test.YtmkfaibjjbgbbaaRows
import Derived.Test.YtmkfaibjjbgbbaaJp2
import Derived.ProofKit
import Derived.OpenShut
import Derived.ChangeOld
import Derived.Deep.Slices
import Derived.Deep.Strs
import Derived.Lib.SmallJoins
import Derived.Test.YtmkfaibjjbgbbaaRwrite
import Derived.Test.YtmkfaibjjbgbbaaJp1
namespace Go.Proofs.Ytmkfaibjjbgbbaa
open Go.ChangeShapes Go.WideShapes Go.ChangeAt Go.RowKit Go.Deep
set_option linter.unusedVariables false

theorem laidOut : laidOutB Try.prog = true := by kernel_rfl
theorem cells32 : Try.prog.cellsOf 32 = 12 := by kernel_rfl
theorem cells30 : Try.prog.cellsOf 30 = 9 := by kernel_rfl
theorem cells3 : Try.prog.cellsOf 3 = 1 := by kernel_rfl
theorem cells4 : Try.prog.cellsOf 4 = 1 := by kernel_rfl
theorem cells5 : Try.prog.cellsOf 5 = 1 := by kernel_rfl
theorem cells27 : Try.prog.cellsOf 27 = 1 := by kernel_rfl
theorem cells28 : Try.prog.cellsOf 28 = 1 := by kernel_rfl

section
variable {H : Type} {enc : TypeId × Value → H} {W : World} {base : Nat} {spare : Nat → Bool} {held : Bool}

/-- A slice of numbers. -/
theorem row_open {T e : TypeId} {k : IntKind} {fuel : Nat} {v : Value} {x : DataW H × List MemPlace} (ht : Try.prog.underlying T = some (.slice e)) (he : Try.prog.underlying e = some (.int k)) (hc : Try.prog.cellsOf e = 1)
    (h : DataW.trod enc Try.prog W base spare held fuel T [v] = some x) : ∃ zs : List Int, Row W v (zs.map (Value.int k)) ∧ ∀ z ∈ zs, (Lit.int k z).wf = true := by
  rcases open_ints ht he hc h with ⟨hcs, _⟩ | ⟨a, len, cap, zs, hcs, _, hl, hm, hz, _, hcell, hwf⟩
  · injection hcs with hv _
    exact ⟨[], ⟨none, 0, by rw [hv]; rfl, Nat.le_refl _, Nat.zero_le _, (fun _ => rfl), (fun ad h => by cases h)⟩, (fun z h => by cases h)⟩
  · injection hcs with hv _
    have hlz : len ≤ zs.length := by rw [hz]; split <;> omega
    refine ⟨zs.take len, ⟨some a, cap, by rw [hv]; simp; omega, by simp; omega, hm, (fun h => by cases h), fun ad hA i u hu => ?_⟩, fun z hzm => hwf z (List.mem_of_mem_take hzm)⟩
    cases hA
    rw [List.map_take] at hu
    have hi : i < len := by
      rcases Nat.lt_or_ge i len with h | h
      · exact h
      · rw [List.getElem?_eq_none (by simp; omega)] at hu; cases hu
    rw [List.getElem?_take_of_lt hi] at hu
    have hc2 := hcell i (by omega)
    rw [List.getElem?_map] at hu
    have hzi : zs[i]? = some (zs.getD i 0) := by
      rw [List.getD_eq_getElem?_getD, List.getElem?_eq_getElem (by omega)]
      rfl
    rw [hzi] at hu
    have hu' : Value.int k (zs.getD i 0) = u := by simpa using hu
    rw [← hu']
    exact ⟨by have := World.block_lt_of_cell? W _ hc2; rwa [add_block] at this, hc2⟩

/-- A patch's nine cells. -/
structure PtD where
  p : Pt
  vd : Value
  vn : Value
theorem patch_open {fuel : Nat} {u0 u1 u2 u3 u4 u5 u6 u7 u8 : Value} {x : DataW H × List MemPlace}
    (h : DataW.trod enc Try.prog W base spare held fuel 30 [u0, u1, u2, u3, u4, u5, u6, u7, u8] = some x) :
    ∃ a : PtD, (u0 = .int .i64 a.p.id ∧ u1 = .int .i64 a.p.sec ∧ u2 = .int .i64 a.p.off ∧ u3 = a.vd ∧ u4 = .int .i64 a.p.kind ∧ u5 = a.vn ∧ u6 = .int .i64 a.p.owner ∧ u7 = .int .i64 a.p.child ∧ u8 = .bool a.p.written) ∧ Row W a.vd (bytes a.p.data) ∧ Row W a.vn (ints a.p.needs) := by
  obtain ⟨xs, n, _, _, _, hlen, hf⟩ := DataW.trod_struct Try.underlying30 h
  have h0 : DataW.trod enc Try.prog W base spare held n 3 (([u0, u1, u2, u3, u4, u5, u6, u7, u8].drop 0).take (Try.prog.cellsOf 3)) = xs[0]? := hf 0 _ rfl
  have h1 : DataW.trod enc Try.prog W base spare held n 3 (([u0, u1, u2, u3, u4, u5, u6, u7, u8].drop 1).take (Try.prog.cellsOf 3)) = xs[1]? := hf 1 _ rfl
  have h2 : DataW.trod enc Try.prog W base spare held n 3 (([u0, u1, u2, u3, u4, u5, u6, u7, u8].drop 2).take (Try.prog.cellsOf 3)) = xs[2]? := hf 2 _ rfl
  have h3 : DataW.trod enc Try.prog W base spare held n 27 (([u0, u1, u2, u3, u4, u5, u6, u7, u8].drop 3).take (Try.prog.cellsOf 27)) = xs[3]? := hf 3 _ rfl
  have h4 : DataW.trod enc Try.prog W base spare held n 3 (([u0, u1, u2, u3, u4, u5, u6, u7, u8].drop 4).take (Try.prog.cellsOf 3)) = xs[4]? := hf 4 _ rfl
  have h5 : DataW.trod enc Try.prog W base spare held n 28 (([u0, u1, u2, u3, u4, u5, u6, u7, u8].drop 5).take (Try.prog.cellsOf 28)) = xs[5]? := hf 5 _ rfl
  have h6 : DataW.trod enc Try.prog W base spare held n 3 (([u0, u1, u2, u3, u4, u5, u6, u7, u8].drop 6).take (Try.prog.cellsOf 3)) = xs[6]? := hf 6 _ rfl
  have h7 : DataW.trod enc Try.prog W base spare held n 3 (([u0, u1, u2, u3, u4, u5, u6, u7, u8].drop 7).take (Try.prog.cellsOf 3)) = xs[7]? := hf 7 _ rfl
  have h8 : DataW.trod enc Try.prog W base spare held n 4 (([u0, u1, u2, u3, u4, u5, u6, u7, u8].drop 8).take (Try.prog.cellsOf 4)) = xs[8]? := hf 8 _ rfl
  match xs, hlen with
  | [y0, y1, y2, y3, y4, y5, y6, y7, y8], _ =>
    rw [cells3] at h0 h1 h2 h4 h6 h7
    rw [cells27] at h3
    rw [cells28] at h5
    rw [cells4] at h8
    obtain ⟨q0, e0, _, _⟩ := DataW.trod_int Try.underlying3 (x := y0) (by simpa using h0)
    obtain ⟨q1, e1, _, _⟩ := DataW.trod_int Try.underlying3 (x := y1) (by simpa using h1)
    obtain ⟨q2, e2, _, _⟩ := DataW.trod_int Try.underlying3 (x := y2) (by simpa using h2)
    obtain ⟨q4, e4, _, _⟩ := DataW.trod_int Try.underlying3 (x := y4) (by simpa using h4)
    obtain ⟨q6, e6, _, _⟩ := DataW.trod_int Try.underlying3 (x := y6) (by simpa using h6)
    obtain ⟨q7, e7, _, _⟩ := DataW.trod_int Try.underlying3 (x := y7) (by simpa using h7)
    obtain ⟨q8, e8, _⟩ := DataW.trod_bool Try.underlying4 (x := y8) (by simpa using h8)
    obtain ⟨ds, hds, _⟩ := row_open Try.underlying27 Try.underlying5 cells5 (v := u3) (x := y3) (by simpa using h3)
    obtain ⟨ns, hns, _⟩ := row_open Try.underlying28 Try.underlying3 cells3 (v := u5) (x := y5) (by simpa using h5)
    simp at e0 e1 e2 e4 e6 e7 e8
    exact ⟨⟨⟨q0, q1, q2, ds, q4, ns, q6, q7, q8⟩, u3, u5⟩, ⟨e0, e1, e2, rfl, e4, rfl, e6, e7, e8⟩, hds, hns⟩

instance : Inhabited ActD := ⟨⟨0, 0, ⟨0, 0, 0, [], 0, [], 0, 0, false⟩, .slice none 0 0, .slice none 0 0, false⟩⟩
set_option maxRecDepth 100000 in
theorem acts_open {b0 : Nat} {v : Value} {d : DataW H} {p : List MemPlace} (hv : Value.okWide Try.prog W .any b0 22 v) (h : DataW.Trod enc Try.prog W base spare held 22 v d p) :
    ∃ A n c l, v = .slice A n c ∧ ActsR W A n l ∧ n ≤ c ∧ c ≤ 9223372036854775807 := by
  obtain ⟨A, n, c, rfl⟩ := okWide_slice Try.underlying22 hv
  obtain ⟨fuel, hf⟩ := h
  rcases open_slice Try.underlying22 hf with ⟨hcs, _⟩ | ⟨a, len, cap, m, k, D, Pl, hcs, _, hl, hm, hmm, _, hi⟩
  · simp [Value.cells] at hcs
    obtain ⟨rfl, rfl, rfl⟩ := hcs
    exact ⟨_, _, _, [], rfl, ⟨rfl, fun i x hx => by simp at hx⟩, Nat.le_refl _, by omega⟩
  · simp [Value.cells] at hcs
    obtain ⟨rfl, rfl, rfl⟩ := hcs
    have hnm : n ≤ m := by rw [hmm]; split <;> omega
    have hel0 : ∀ i, i < n → ∃ x : ActD, (∀ (j : Nat) (u : Value), x.cells[j]? = some u → W.cell? (a.add (i * 12 + j)) = some u) ∧ Row W x.vd (bytes x.p.data) ∧ Row W x.vn (ints x.p.needs) := by
      intro i hin
      obtain ⟨cs', hc, ht⟩ := hi i (by omega)
      rw [cells32] at hc
      obtain ⟨_, hcl, hat⟩ := World.cells?_some hc
      obtain ⟨y0, y1, y2, y3, k', _, _, h0, h1, h2, h3⟩ := Go.Joins.trod_struct4 Try.underlying32 ht
      simp only [cells3, cells4, cells30] at h0 h1 h2 h3
      match cs', hcl with
      | [u0, u1, u2, u3, u4, u5, u6, u7, u8, u9, u10, u11], _ =>
        obtain ⟨q0, e0, _, _⟩ := DataW.trod_int Try.underlying3 h0
        obtain ⟨q1, e1, _, _⟩ := DataW.trod_int Try.underlying3 h1
        obtain ⟨q3, e3, _⟩ := DataW.trod_bool Try.underlying4 h3
        obtain ⟨b, ⟨f0, f1, f2, f3, f4, f5, f6, f7, f8⟩, hd, hn⟩ := patch_open (u0 := u2) (u1 := u3) (u2 := u4) (u3 := u5) (u4 := u6) (u5 := u7) (u6 := u8) (u7 := u9) (u8 := u10) (by simpa using h2)
        simp at e0 e1 e3
        subst e0 e1 e3 f0 f1 f2 f3 f4 f5 f6 f7 f8
        refine ⟨⟨q0, q1, b.p, b.vd, b.vn, q3⟩, fun j u hu => ?_, hd, hn⟩
        have hj : j < 12 := by
          rcases Nat.lt_or_ge j 12 with h | h
          · exact h
          · rw [Array.getElem?_eq_none (by unfold ActD.cells; simpa using h)] at hu; cases hu
        have := hat j hj
        rw [Go.Deep.add_add] at this
        rw [this]
        unfold ActD.cells at hu
        rw [← hu]
        simp
    obtain ⟨f, hf⟩ := choose_lt hel0
    refine ⟨some a, n, c, (List.range n).map f, rfl, ⟨by simp, fun i x hx => ?_⟩, hl, by unfold maxLen at hm; omega⟩
    have hin : i < n := by
      rcases Nat.lt_or_ge i n with h | h
      · exact h
      · rw [List.getElem?_eq_none (by simpa using h)] at hx; cases hx
    rw [List.getElem?_map, List.getElem?_range hin] at hx
    simp at hx
    subst hx
    have h00 := (hf 0 (by omega)).1 0 _ rfl
    have hs : a.spot = none := by simpa [Addr.add] using World.cell?_spot h00
    have hb : a.block < W.heap.size := by simpa [Addr.add] using World.block_lt_of_cell? W _ h00
    obtain ⟨b, o, sp⟩ := a
    simp only at hs hb
    subst hs
    have hadd : ∀ j, (⟨b, o, none⟩ : Addr).add j = ⟨b, o + j, none⟩ := by intro j; unfold Addr.add; split <;> simp_all
    obtain ⟨c0, c1, c2⟩ := hf i hin
    exact ⟨⟨b, o, rfl, hb, fun j u hu => by have := c0 j u hu; rw [hadd, ← Nat.add_assoc] at this; exact this⟩, c1, c2⟩
end
end Go.Proofs.Ytmkfaibjjbgbbaa
namespace Go.Proofs.Ytmkfaibjjbgbbaa
open Go.RowKit
set_option linter.unusedVariables false
attribute [local go_sem ↓] Go.wp_at_zero Go.wp_at_succ

/-- A list of patches as it lies among the inputs. -/
def PatsR (w : World) (A : Option Addr) (n : Nat) (l : List PtD) : Prop :=
  l.length = n ∧ ∀ (i : Nat) (a : PtD), l[i]? = some a → (∃ g o, A = some ⟨g, o, none⟩ ∧ g < w.heap.size ∧ ∀ (j : Nat) (u : Value), (a.p.cells a.vd a.vn)[j]? = some u → w.cell? ⟨g, o + i * 9 + j, none⟩ = some u) ∧ Row w a.vd (bytes a.p.data) ∧ Row w a.vn (ints a.p.needs)

def intoF (last k : Int) : Int := 1 + amongF k last
def mkPt (p : Pt) (last : Int) : Pt := if 0 < last then { p.few with needs := p.few.needs.map (intoF last) } else p.few
theorem mkPt_len (p : Pt) (last : Int) : (mkPt p last).data.length ≤ 70 ∧ (mkPt p last).needs.length ≤ 6 := by
  unfold mkPt Pt.few
  split <;> simp <;> omega
theorem few_same {p : Pt} (h1 : p.data.length ≤ 70) (h2 : p.needs.length ≤ 6) : p.few = p := by
  unfold Pt.few
  rw [List.take_of_length_le h1, List.take_of_length_le h2]

theorem RG.turn {S : Nat → Prop} {w w' : World} {b : Nat} {x : G} (h : RG w b x) (hT : Turn S w w') (hS : ∀ j t cs, S j → Blk w j t cs → t ≠ 91 ∧ t ≠ 3 ∧ t ≠ 5 ∧ t ≠ 30) : RG w' b x := by
  obtain ⟨v, h1, h2⟩ := h
  exact ⟨v, h1.turn hT (fun e => (hS _ _ _ e h1).1 rfl), h2.move fun g t cs ht k => k.turn hT (fun e => by
    obtain ⟨-, a, b, c⟩ := hS _ _ _ e k
    rcases ht with rfl | rfl | rfl
    · exact a rfl
    · exact b rfl
    · exact c rfl)⟩
theorem Gr.turnT {w w' : World} {g mb n : Nat} {x : G} {S : Nat → Prop} (h : Gr w g mb n x) (hT : Turn S w w') (hS : ∀ j, S j → ∃ cs, Blk w j 91 cs) : Gr w' g mb n x := by
  obtain ⟨hg, f, hm, hh⟩ := h
  refine ⟨hg.turn hT (fun e => by obtain ⟨cs, h'⟩ := hS _ e; exact absurd rfl (hg.ne_ h' (by decide))), f, hm.turn hT (fun e => by obtain ⟨cs, h'⟩ := hS _ e; exact hm.not_blk h' rfl), hh.move fun k t cs ht kk => kk.turn hT fun e => ?_⟩
  obtain ⟨cs', h'⟩ := hS _ e
  exact absurd rfl (kk.ne_ h' (by rcases ht with rfl | rfl <;> decide))
/-- What a write of package graph turns is no list and no graph of the reference. -/
theorem Gr.none_of {w : World} {g mb n : Nat} {x : G} (h : Gr w g mb n x) : ∀ j t cs, (j = g ∨ j = mb) → Blk w j t cs → t ≠ 91 ∧ t ≠ 3 ∧ t ≠ 5 ∧ t ≠ 30 := by
  intro j t cs hj hb
  obtain ⟨hg, f, hm, hh⟩ := h
  rcases hj with rfl | rfl
  · have : t = 79 := by
      have e : j ≠ j ∨ t = 79 := by
        by_cases ht : t = 79
        · exact .inr ht
        · exact .inl (hb.ne_ hg ht)
      exact e.resolve_left (fun h => h rfl)
    subst this
    exact ⟨by decide, by decide, by decide, by decide⟩
  · exact absurd rfl (hm.not_blk hb)
theorem add_needs {x : G} (h : ∀ q ∈ x.l, q.needs.length ≤ 1000) {p : Pt} (hp : p.needs.length ≤ 1000) : ∀ q ∈ (addG x p).2.2.l, q.needs.length ≤ 1000 := by
  unfold addG
  split
  · intro q hq
    rcases List.mem_append.1 hq with hq | hq
    · exact h q hq
    · rw [List.mem_singleton.1 hq]; exact hp
  · exact h
theorem Young.fine {x : G} (h : Young x) (hn : ∀ q ∈ x.l, q.needs.length ≤ 1000) (hl : x.l.length ≤ 1000) : Fine x :=
  ⟨h.rise, hl, fun p hp => ⟨(h.all p hp).2.1, (h.all p hp).2.2.1, (h.all p hp).2.2.2.1, hn p hp⟩⟩
theorem Fine.mark {x : G} (h : Fine x) (k : Int) : Fine (mark x k) := h.like (mark_rise h.rise k) (un_mark x k)
theorem write_fine {x : G} (h : Fine x) (id : Int) : Fine (writeG x [id]).2 ∧ (writeG x [id]).2.l.length = x.l.length ∧ (writeG x [id]).2.last = x.last := by
  have key : (writeG x [id]).2 = x ∨ (writeG x [id]).2 = mark x id := by
    show (if (wr1 x id).1 = 0 then writeG (wr1 x id).2 [] else ((wr1 x id).1, x)).2 = x ∨ (if (wr1 x id).1 = 0 then writeG (wr1 x id).2 [] else ((wr1 x id).1, x)).2 = _
    unfold wr1
    cases hf : x.find id with
    | none => left; rfl
    | some p =>
      dsimp only
      split
      · left; rfl
      · right; rfl
  rcases key with e | e
  · rw [e]; exact ⟨h, rfl, rfl⟩
  · rw [e]; exact ⟨h.mark id, mark_len x id, rfl⟩

theorem Row.at_int {w : World} {B : Option Addr} {n d : Nat} {ids : List Int} (h : Row w (.slice B n d) (ints ids)) : ∀ (k : Nat) (y : Int), ids[k]? = some y → ∃ g o, B = some ⟨g, o, none⟩ ∧ g < w.heap.size ∧ w.cell? ⟨g, o + k, none⟩ = some (.int .i64 y) := by
  intro k y hy
  obtain ⟨A, c, e, h1, h2, h0, h3⟩ := h
  injection e with e1 e2 e3
  subst e1
  have hk : k < ids.length := by
    rcases Nat.lt_or_ge k ids.length with h | h
    · exact h
    · rw [List.getElem?_eq_none h] at hy; cases hy
  rw [ints_len] at h1
  cases B with
  | none => have := h0 rfl; omega
  | some ad =>
    obtain ⟨z, hz⟩ : ∃ z, ids[0]? = some z := ⟨_, List.getElem?_eq_getElem (by omega)⟩
    have h00 := (h3 ad rfl 0 _ (ints_at hz)).2
    have hs : ad.spot = none := by simpa [Addr.add] using World.cell?_spot h00
    obtain ⟨b, o, sp⟩ := ad
    simp only at hs
    subst hs
    obtain ⟨h4, h5⟩ := h3 _ rfl k _ (ints_at hy)
    rw [add_at] at h5
    exact ⟨b, o, rfl, h4, h5⟩

set_option maxHeartbeats 4000000 in
set_option maxRecDepth 100000 in
theorem made_any (A : Option Addr) (n c : Nat) (l : List PtD) (v : Value) (ids : List Int) (w : World) (hA : PatsR w A n l) (hn : n ≤ c) (hc : c ≤ 9223372036854775807) (hv : Row w v (ints ids)) (hk : ∀ k ∈ ids, (key k).wf = true) :
    Calls Try.prog 32 #[.slice A n c, v] w fun e w' => ∃ g mb b nb x, e = .returned (.tuple #[.pointer (some ⟨g, 0, none⟩), .pointer (some ⟨b, 0, none⟩)]) ∧ Gr w' g mb nb x ∧ RG w' b x ∧ Fine x ∧ Due x ∧ x.l.length ≤ 30 ∧ nb ≤ 100 ∧ Below w.heap.size w w' ∧ w.heap.size ≤ g ∧ w.heap.size ≤ mb ∧ w.heap.size ≤ b := by
  have HA := Lib.hid hA
  have HV := Lib.hid hv
  have HK := Lib.hid hk
  clear hA hv hk
  obtain ⟨B, d, rfl, v1, v2, -, -⟩ := HV.out
  rw [ints_len] at v1 HV ⊢
  unfold maxLen at v2
  go_enter Try.func32, Try.ntmps32
  go_wp2_with fail
  refine (new_any w).mono ?_
  rintro e w1 ⟨g, mb, rfl, hG1, hb1, hgn, hmn⟩
  have HB1 := Lib.hid hb1
  have HG1 := Lib.hid hG1
  have hs1 := hb1.size
  clear hG1 hb1
  go_wp2_with fail
  refine (rnew_any w1).mono ?_
  rintro e w2 ⟨b, rfl, hR2, hb2, hbn⟩
  have HB2 := Lib.hid (HB1.out.trans (hb2.mono hs1))
  have HG2 := Lib.hid (HG1.out.below hb2)
  have HR2 := Lib.hid hR2
  clear hR2 hb2
  go_wp2_with fail
  go_loopw [8] (fun i wr => ∃ k : Nat, k ≤ n ∧ k ≤ 30 ∧ i = .int .i64 k ∧ ∃ x : G, Hid (Young x ∧ x.l.length ≤ k ∧ ∀ q ∈ x.l, q.needs.length ≤ 1000) ∧ x.last ≤ k ∧ Gr wr g mb k x ∧ RG wr b x ∧ Below w.heap.size w wr) (fun i _ => n - (intOf i).toNat)
  case atStart => exact ⟨0, Nat.zero_le _, by omega, rfl, G.none, ⟨Young.none, Nat.le_refl _, fun q h => by cases h⟩, by decide, HG2.out, HR2.out, HB2.out⟩
  case round =>
    rename World => wo
    obtain ⟨k, hk, hk30, rfl, x, hY, hlast, hG, hR, hbel⟩ := hrel
    have HG := Lib.hid hG
    have HR := Lib.hid hR
    have HB := Lib.hid hbel
    have hsz := hbel.size
    have hl0 := hY.out.1.last.1
    by_cases hlt : k < n ∧ k < 30
    · obtain ⟨hlt, hlt30⟩ := hlt
      obtain ⟨a, ha⟩ : ∃ a, l[k]? = some a := ⟨_, List.getElem?_eq_getElem (by rw [HA.out.1]; exact hlt)⟩
      obtain ⟨⟨gb, o, eA, hgb, hcs⟩, hrd, hrn⟩ := HA.out.2 k a ha
      subst eA
      have HC := Lib.hid fun (j : Nat) (u : Value) (h : (a.p.cells a.vd a.vn)[j]? = some u) => (hbel.cell (p := ⟨gb, o + k * 9 + j, none⟩) hgb).trans (hcs j u h)
      have c0 : wo.cell? ⟨gb, o + k * 9, none⟩ = some (.int .i64 a.p.id) := HC.out 0 _ rfl
      have c1 : wo.cell? ⟨gb, o + k * 9 + 1, none⟩ = some (.int .i64 a.p.sec) := HC.out 1 _ rfl
      have c2 : wo.cell? ⟨gb, o + k * 9 + 2, none⟩ = some (.int .i64 a.p.off) := HC.out 2 _ rfl
      have c3 : wo.cell? ⟨gb, o + k * 9 + 3, none⟩ = some (a.vd) := HC.out 3 _ rfl
      have c4 : wo.cell? ⟨gb, o + k * 9 + 4, none⟩ = some (.int .i64 a.p.kind) := HC.out 4 _ rfl
      have c5 : wo.cell? ⟨gb, o + k * 9 + 5, none⟩ = some (a.vn) := HC.out 5 _ rfl
      have c6 : wo.cell? ⟨gb, o + k * 9 + 6, none⟩ = some (.int .i64 a.p.owner) := HC.out 6 _ rfl
      have c7 : wo.cell? ⟨gb, o + k * 9 + 7, none⟩ = some (.int .i64 a.p.child) := HC.out 7 _ rfl
      have c8 : wo.cell? ⟨gb, o + k * 9 + 8, none⟩ = some (.bool a.p.written) := HC.out 8 _ rfl
      have i1 : (0 : Int) ≤ (k : Int) := by omega
      have i2 : (k : Int) < (n : Int) := by omega
      have hFew := few_any a.vd a.vn a.p wo (hrd.below hbel) (hrn.below hbel)
      have hq6 : a.p.few.needs.length ≤ 6 := by unfold Pt.few; simp; omega
      have HQ := Lib.hid (show mkPt a.p x.last = if 0 < x.last then { a.p.few with needs := a.p.few.needs.map (intoF x.last) } else a.p.few from rfl)
      have HQl := Lib.hid (mkPt_len a.p x.last)
      have HFew := Lib.hid hFew
      clear hG hR hbel ha hgb hcs hrd hrn HC hFew
      obtain ⟨⟨pid, psec, poff, pdata, pkind, pneeds, pown, pch, pwr⟩, vd, vn⟩ := a
      simp only at c0 c1 c2 c3 c4 c5 c6 c7 c8 HFew HQ HQl hq6
      generalize Pt.few ⟨pid, psec, poff, pdata, pkind, pneeds, pown, pch, pwr⟩ = q at *
      generalize mkPt ⟨pid, psec, poff, pdata, pkind, pneeds, pown, pch, pwr⟩ x.last = pn at *
      unfold Pt.val at HFew
      simp only at HFew
      go_wp2_with fail
      refine HFew.out.mono ?_
      rintro e w3 ⟨ud, un, rfl, hu, hun, hap, hb3⟩
      obtain ⟨A1, m1, k1, rfl⟩ := owns_shape hu
      obtain ⟨A2, m2, k2, rfl⟩ := owns_shape hun
      obtain rfl : m2 = q.needs.length := by
        obtain ⟨A', c', e, _⟩ := hun.arr.len
        injection e with _ e _
        rw [ints_len] at e
        exact e
      have hs3 := hb3.size
      have HU3 := Lib.hid hu
      have HN3 := Lib.hid hun
      have HAp := Lib.hid hap
      have HB3 := Lib.hid hb3
      have HB3s := hb3.size
      clear hu hun hap hb3 HFew c0 c1 c2 c3 c4 c5 c6 c7 c8
      go_wp2_with fail
      obtain ⟨w4, hw4⟩ : ∃ w4, w4 = w3.alloc (.cells #[.int .i64 q.id, .int .i64 q.sec, .int .i64 q.off, .slice A1 m1 k1, .int .i64 q.kind, .slice A2 q.needs.length k2, .int .i64 q.owner, .int .i64 q.child, .bool q.written] 30) := ⟨_, rfl⟩
      rw [← hw4]
      obtain ⟨b9, hb9⟩ : ∃ b9, b9 = w3.heap.size := ⟨_, rfl⟩
      have HX4 := Lib.hid (show Blk w4 b9 30 #[.int .i64 q.id, .int .i64 q.sec, .int .i64 q.off, .slice A1 m1 k1, .int .i64 q.kind, .slice A2 q.needs.length k2, .int .i64 q.owner, .int .i64 q.child, .bool q.written] from by rw [hw4, hb9]; exact Blk.new _ _ _)
      have HB4 := Lib.hid (show Below wo.heap.size wo w4 from by rw [hw4]; exact HB3.out.alloc HB3.out.size _)
      have HU4 := Lib.hid (show w4.ownsRow wo.heap.size 5 1 (.slice A1 m1 k1) q.data.length (bytes q.data) from by rw [hw4]; exact World.ownsRow.alloc HU3.out _)
      have HN4 := Lib.hid (show Built wo.heap.size w4 (.slice A2 q.needs.length k2) q.needs from by rw [hw4]; exact World.ownsRow.alloc HN3.out _)
      have hlo : ∀ j, (Value.slice A2 q.needs.length k2).ownBlock = some j → wo.heap.size ≤ j ∧ j < b9 := fun j hj => by
        have h1 := HN3.out.own j hj
        rw [hb9]; exact h1
      have HLo := Lib.hid hlo
      have hs4 : w3.heap.size < w4.heap.size := by rw [hw4]; simp
      have hb9o : wo.heap.size ≤ b9 := by rw [hb9]; exact HB3s
      rw [← hb9]
      rw [← hb9] at hs4
      clear hw4 hb9 HU3 HN3 HB3 hlo
      go_loopw [10] (fun i W => ∃ j : Nat, j ≤ q.needs.length ∧ i = .int .i64 j ∧ Turn (fun j => (Value.slice A2 q.needs.length k2).ownBlock = some j) w4 W ∧ Built wo.heap.size W (.slice A2 q.needs.length k2) (mixF (intoF x.last) j q.needs) ∧ Hid (j = 0 ∨ 0 < x.last)) (fun i _ => q.needs.length - (intOf i).toNat)
      case atStart => exact ⟨0, Nat.zero_le _, rfl, Turn.refl _ _, by rw [mix_zero]; exact HN4.out, .inl rfl⟩
      case round =>
        obtain ⟨j, hj, rfl, hT, hO, hC⟩ := hrel
        have HT := Lib.hid hT
        have HO := Lib.hid hO
        have hX := HX4.out.turn hT (fun e => by have := (HLo.out _ e).2; omega)
        have hW : Below wo.heap.size wo wr := HB4.out.trans (hT.below (B := wo.heap.size) HB4.out.size (fun i hi e => by have := (HLo.out _ e).1; omega))
        have HW := Lib.hid hW
        obtain ⟨rv, hRb, -⟩ := HR.out.below hW
        have y0 := hRb.cell 0
        have x5 := hX.cell 5
        simp at y0 x5
        have hsz2 := hT.size
        have lb : b < wr.heap.size := hRb.lt
        have l9 : b9 < wr.heap.size := hX.lt
        by_cases hc : j < q.needs.length ∧ 0 < x.last
        · obtain ⟨hlt, hlast0⟩ := hc
          obtain ⟨y, hy⟩ : ∃ y, q.needs[j]? = some y := ⟨_, List.getElem?_eq_getElem hlt⟩
          obtain ⟨gn, c3, e, hgl, hgw⟩ := World.ownsRow.form hO (by rw [mix_len]; omega)
          injection e with eB e1 e2
          subst eB e2
          clear e1
          have hO' : wr.ownsRow wo.heap.size 3 1 (.slice (some ⟨gn, 0, none⟩) q.needs.length k2) q.needs.length (ints (mixF (intoF x.last) j q.needs)) := by
            have h := hO
            unfold Built at h
            rw [mix_len] at h
            exact h
          have hcg : wr.cell? ⟨gn, j, none⟩ = some (.int .i64 y) := (World.ownsRow.cellAt hO' j (by omega)).trans (ints_at (mix_at _ hy))
          have hfg := World.ownsRow.frozenAt hO' j
          obtain ⟨hst, hgr⟩ := World.ownsRow.stored hO' j (.int .i64 (intoF x.last y))
          have hbd := among_bd y x.last (by omega)
          have HBn := Lib.hid (show IntKind.i64.wrap (1 + amongF y x.last) = intoF x.last y from IntWalk.i64_in _ (by omega) |>.trans rfl)
          have HST := Lib.hid (show Built wo.heap.size (wr.setCell ⟨gn, j, none⟩ (.int .i64 (intoF x.last y))) (.slice (some ⟨gn, 0, none⟩) q.needs.length k2) (mixF (intoF x.last) (j + 1) q.needs) from by
            unfold Built
            rw [mix_len, ← mix_on _ hy]
            have := hst
            unfold ints at this ⊢
            rwa [← List.map_set] at this)
          have HTT := Lib.hid ((HT.out.setCell (p := ⟨gn, j, none⟩) (fun _ => rfl) (.int .i64 (intoF x.last y))))
          have HMl := Lib.hid fun (W : World) => among_any y x.last W (by omega) (by omega)
          clear hX hT hO hO' hst hgr hy hW hRb
          go_wp2_with fail
          go_region_with (go_at_call 12; refine (HMl.out _).mono ?_; rintro e wx ⟨rfl, rfl⟩)
          all_goals
            rw [HBn.out]
            go_wp2
            go_roundw
            case rel => exact ⟨j + 1, by omega, by go_num, HTT.out.drew, HST.out, by unfold Hid; exact .inr (by simpa using hlast0)⟩
            case measure => simp [intOf]; omega
        · have HUk := Lib.hid (owns_keep HU4.out (fun jj hj' => HT.out.block jj (World.ownsRow.lt HU4.out jj hj').2 (fun e => HAp.out jj hj' e)))
          have HEnd := Lib.hid (show mixF (intoF x.last) j q.needs = pn.needs ∧ pn.id = q.id ∧ pn.sec = q.sec ∧ pn.off = q.off ∧ pn.data = q.data ∧ pn.kind = q.kind ∧ pn.owner = q.owner ∧ pn.child = q.child ∧ pn.written = q.written from by
            rw [HQ.out]
            by_cases hcc : 0 < x.last
            · rw [if_pos hcc]
              have : j = q.needs.length := by
                rcases Nat.lt_or_ge j q.needs.length with h | h
                · exact absurd ⟨h, hcc⟩ hc
                · omega
              subst this
              exact ⟨mix_all _ _, rfl, rfl, rfl, rfl, rfl, rfl, rfl, rfl⟩
            · rw [if_neg hcc]
              obtain rfl : j = 0 := (hC.out).resolve_right hcc
              exact ⟨mix_zero _ _, rfl, rfl, rfl, rfl, rfl, rfl, rfl, rfl⟩)
          have hVal := Lib.hid (show (Value.agg #[.int .i64 q.id, .int .i64 q.sec, .int .i64 q.off, .slice A1 m1 k1, .int .i64 q.kind, .slice A2 q.needs.length k2, .int .i64 q.owner, .int .i64 q.child, .bool q.written]) = pn.val (.slice A1 m1 k1) (.slice A2 q.needs.length k2) from by
            obtain ⟨-, e1, e2, e3, e4, e5, e6, e7, e8⟩ := HEnd.out
            unfold Pt.val
            rw [e1, e2, e3, e5, e6, e7, e8])
          have HPV := Lib.hid (show PtV wr (pn.val (.slice A1 m1 k1) (.slice A2 q.needs.length k2)) pn from by
            obtain ⟨e0, e1, e2, e3, e4, e5, e6, e7, e8⟩ := HEnd.out
            refine PtV.of_own (b := wo.heap.size) ?_ ?_
            · rw [e4]; exact HUk.out
            · rw [← e0]; exact HO.out)
          have HF2 := Lib.hid (show Calls Try.prog 48 #[.agg #[.int .i64 q.id, .int .i64 q.sec, .int .i64 q.off, .slice A1 m1 k1, .int .i64 q.kind, .slice A2 q.needs.length k2, .int .i64 q.owner, .int .i64 q.child, .bool q.written]] wr _ from by
            rw [hVal.out]
            exact few_any _ _ pn wr (Row.of_arr HPV.out.parts'.1) (Row.of_arr HPV.out.parts'.2))
          rw [few_same HQl.out.1 HQl.out.2] at HF2
          have hcx := hX.cell
          have y0 := hcx 0
          have y1 := hcx 1
          have y2 := hcx 2
          have y3 := hcx 3
          have y4 := hcx 4
          have y6 := hcx 6
          have y7 := hcx 7
          have y8 := hcx 8
          simp at y0 y1 y2 y3 y4 y6 y7 y8
          have yb : wr.cell? ⟨b, 0, none⟩ = some (.int .i64 x.last) := by
            have h := hRb.cell 0
            simpa using h
          have HX := Lib.hid hX
          have hcases : (¬ j < q.needs.length) ∨ (j < q.needs.length ∧ ¬ 0 < x.last) := by
            by_cases h1 : j < q.needs.length
            · exact .inr ⟨h1, fun h => hc ⟨h1, h⟩⟩
            · exact .inl h1
          have HGw := Lib.hid (HG.out.below hW)
          have HRw := Lib.hid (HR.out.below hW)
          have HBw := Lib.hid (HB.out.trans (hW.mono hsz))
          have hgo : g < wo.heap.size ∧ mb < wo.heap.size ∧ b < wo.heap.size := ⟨HG.out.lt, HG.out.ltm, HR.out.lt⟩
          obtain ⟨hgo1, hgo2, hgo3⟩ := hgo
          clear hc hcx hX hW hRb hT hO HX4 HB4 HU4 HN4 HT HO HW HEnd HQ HG HR HB
          rcases hcases with hge | ⟨hlt2, hge⟩
          all_goals
            go_wp2_with fail
            refine HF2.out.mono ?_
            rintro e w5 ⟨ud, un, rfl, hu, hun, -, hb5⟩
            have HV5 := Lib.hid (PtV.of_own hu hun)
            have hs5 := hb5.size
            have HG5 := Lib.hid (HGw.out.below hb5)
            have HR5 := Lib.hid (HRw.out.below hb5)
            have HX5 := Lib.hid (HX.out.below hb5 l9)
            have HP5 := Lib.hid (HPV.out.below hb5)
            have HB5 := Lib.hid (HBw.out.trans (hb5.mono HBw.out.size))
            clear hu hun hb5 HF2 y0 y1 y2 y3 y4 y6 y7 y8 yb
            have HAdd := Lib.hid (add_any g mb k x _ pn _ HG5.out HV5.out (by have := HQl.out.1; omega) (by have := HQl.out.2; omega) hl0 (by omega) (by omega) (fun p hp => (hY.out.1.all p hp).2.2.2.2))
            go_wp2_with fail
            refine HAdd.out.mono ?_
            rintro e w6 ⟨rfl, hG6, hT6⟩
            have HG6 := Lib.hid hG6
            have HR6 := Lib.hid (HR5.out.turn hT6 HG5.out.none_of)
            have hX6 := HX5.out.turn hT6 (by omega)
            have HP6 := Lib.hid (HP5.out.move (fun jj t cs ht kk => kk.turn hT6 (fun e => by
              obtain ⟨-, a, b, -⟩ := HG5.out.none_of jj t cs e kk
              rcases ht with rfl | rfl
              · exact a rfl
              · exact b rfl)))
            have HB6 := Lib.hid (below_turn HB5.out hT6 (fun i hi e => by omega))
            have hs6 := hT6.size
            have HR2' := Lib.hid (show Calls Try.prog 62 #[.pointer (some ⟨b, 0, none⟩), .agg #[.int .i64 q.id, .int .i64 q.sec, .int .i64 q.off, .slice A1 m1 k1, .int .i64 q.kind, .slice A2 q.needs.length k2, .int .i64 q.owner, .int .i64 q.child, .bool q.written]] w6 _ from by
              rw [hVal.out]
              exact radd_any b x _ pn w6 HR6.out HP6.out (by have := HQl.out.1; omega) (by have := HQl.out.2; omega) hl0 (by omega) (by have := hY.out.2.1; omega))
            have hcx := hX6.cell
            have y0 := hcx 0
            have y1 := hcx 1
            have y2 := hcx 2
            have y3 := hcx 3
            have y4 := hcx 4
            have y5 := hcx 5
            have y6 := hcx 6
            have y7 := hcx 7
            have y8 := hcx 8
            simp at y0 y1 y2 y3 y4 y5 y6 y7 y8
            have l96 := hX6.lt
            have HY6 := Lib.hid (show Young (addG x pn).2.2 ∧ (addG x pn).2.2.l.length ≤ k + 1 ∧ (∀ q ∈ (addG x pn).2.2.l, q.needs.length ≤ 1000) ∧ (addG x pn).2.2.last ≤ (k : Int) + 1 from by
              obtain ⟨a1, a2, a3, -, -⟩ := hY.out.1.add pn (by omega)
              have h1 := hY.out.2.1
              exact ⟨a1, by omega, add_needs hY.out.2.2 (by have := HQl.out.2; omega), by omega⟩)
            clear hG6 hT6 hX6 hcx HAdd HV5 HG5 HR5 HX5 HP5 HB5
            generalize addG x pn = r at *
            obtain ⟨rid, rer, x'⟩ := r
            simp only at HG6 HY6 HR2'
            go_wp2_with fail
            refine HR2'.out.mono ?_
            rintro e w7 ⟨rfl, hR7, hT7⟩
            have HR7 := Lib.hid hR7
            have HG7 := Lib.hid (HG6.out.turnT hT7 (fun jj e => by obtain ⟨rv, h1, -⟩ := HR6.out; rw [e]; exact ⟨_, h1⟩))
            have HB7 := Lib.hid (below_turn HB6.out hT7 (fun i hi e => by omega))
            clear hR7 hT7 HR2' HG6 HR6 HP6 HB6 y0 y1 y2 y3 y4 y5 y6 y7 y8
            go_wp2_with fail
            go_roundw
            case rel => exact ⟨k + 1, by omega, by omega, by go_num, x', ⟨HY6.out.1, HY6.out.2.1, HY6.out.2.2.1⟩, by have := HY6.out.2.2.2; omega, HG7.out, HR7.out, HB7.out⟩
            case measure => simp [intOf]; omega
    · have hcases : (¬ k < n) ∨ (k < n ∧ ¬ k < 30) := by
        by_cases h : k < n
        · exact .inr ⟨h, fun h2 => hlt ⟨h, h2⟩⟩
        · exact .inl h
      clear hlt
      have HF0 := Lib.hid (show Fine x ∧ Due x from ⟨hY.out.1.fine hY.out.2.2 (by have := hY.out.2.1; omega), fun p hp hw => by rw [(hY.out.1.all p hp).1] at hw; cases hw⟩)
      have hxl : x.l.length ≤ 30 := by have := hY.out.2.1; omega
      clear hY hG hR hbel
      rcases hcases with hge | ⟨hlt, hge⟩
      all_goals
        go_wp2_with fail
        go_loopw [11] (fun i wr => ∃ j : Nat, j ≤ ids.length ∧ j ≤ 4 ∧ i = .int .i64 j ∧ ∃ (y : G) (nb : Nat), Hid (Fine y ∧ Due y) ∧ y.l.length ≤ 30 ∧ nb ≤ 30 + j ∧ Gr wr g mb nb y ∧ RG wr b y ∧ Below w.heap.size w wr) (fun i _ => ids.length - (intOf i).toNat)
        case atStart => exact ⟨0, Nat.zero_le _, by omega, rfl, x, k, HF0, hxl, by omega, HG.out, HR.out, HB.out⟩
        case round =>
          clear HG HR HB HF0 hxl hlast hl0 hsz
          rename World => wp
          obtain ⟨j, hj, hj4, rfl, y, nb, hF, hyl, hnb, hG, hR, hbel⟩ := hrel
          have HG := Lib.hid hG
          have HR := Lib.hid hR
          have HB := Lib.hid hbel
          have hsz := hbel.size
          by_cases hlt : j < ids.length ∧ j < 4
          · obtain ⟨hlt, hlt4⟩ := hlt
            obtain ⟨id, hid⟩ : ∃ id, ids[j]? = some id := ⟨_, List.getElem?_eq_getElem hlt⟩
            obtain ⟨gv, ov, rfl, hgv, hcv⟩ := HV.out.at_int j id hid
            have c1 : wp.cell? ⟨gv, ov + j, none⟩ = some (.int .i64 id) := (hbel.cell (p := ⟨gv, ov + j, none⟩) hgv).trans hcv
            have hkw := HK.out id (List.mem_of_getElem? hid)
            have HW := Lib.hid (write_any g mb nb y _ [id] (wp.alloc (.cells #[.int .i64 id] 3)) (hG.alloc _) hF.out.1.rise (by omega) (fun p hp => (hF.out.1.all p hp).1) (Arr.one wp 3 (.int .i64 id)) (fun z hz => by rw [List.mem_singleton.1 hz]; exact hkw) (by simp) (by omega))
            have HRa := Lib.hid (hR.below ((Below.refl _ _).alloc (Nat.le_refl _) (.cells #[.int .i64 id] 3)))
            have HGa := Lib.hid (hG.alloc (.cells #[.int .i64 id] 3))
            have HBa := Lib.hid (hbel.alloc hsz (.cells #[.int .i64 id] 3))
            obtain ⟨f1, f2, f3⟩ := write_fine hF.out.1 id
            have HF2 := Lib.hid (show Fine (writeG y [id]).2 ∧ Due (writeG y [id]).2 from ⟨f1, (Clean.writeG [id] y hF.out.1.rise hF.out.2.clean).due⟩)
            have hmb : w.heap.size ≤ mb := by omega
            have hgvb : gv ≠ mb ∧ gv ≠ b ∧ gv < wp.heap.size := ⟨by omega, by omega, by omega⟩
            obtain ⟨hgm, hgb2, hgw⟩ := hgvb
            have HC1 := Lib.hid (show ∀ W, Turn (fun j => j = mb) (wp.alloc (.cells #[.int .i64 id] 3)) W → W.cell? ⟨gv, ov + j, none⟩ = some (.int .i64 id) from fun W hT => (World.cell?_of_block (a := ⟨gv, ov + j, none⟩) (hT.block gv (by simp; omega) hgm)).trans ((World.cell?_of_block (a := ⟨gv, ov + j, none⟩) (Below.heap_alloc wp _ gv hgw)).trans c1))
            clear hG hR hbel hid hcv f1 f3
            go_wp2_with fail
            refine HW.out.mono ?_
            rintro e w6 ⟨rfl, hG6, hT6⟩
            have HG6 := Lib.hid hG6
            have HR6 := Lib.hid (HRa.out.turn hT6 (fun jj t cs e kk => HGa.out.none_of jj t cs (.inr e) kk))
            have HB6 := Lib.hid (below_turn HBa.out hT6 (fun i hi e => by omega))
            have c2 := HC1.out w6 hT6
            have HRw := Lib.hid (rwrite_any b y _ [id] (w6.alloc (.cells #[.int .i64 id] 3)) (HR6.out.below ((Below.refl _ _).alloc (Nat.le_refl _) _)) hF.out.1.rise (fun p hp => ⟨(hF.out.1.all p hp).1.1, (hF.out.1.all p hp).2.2.2⟩) (by omega) (Arr.one w6 3 (.int .i64 id)) (by simp))
            have hR6 := HR6.out
            clear hG6 hT6 HW HRa HGa HBa HC1
            go_wp2_with fail
            refine HRw.out.mono ?_
            rintro e w7 ⟨rfl, hR7, hT7⟩
            have HR7 := Lib.hid hR7
            have HG7 := Lib.hid ((HG6.out.alloc (.cells #[.int .i64 id] 3)).turnT hT7 (fun jj e => by obtain ⟨rv, h1, -⟩ := hR6; rw [e]; exact ⟨_, h1.alloc _⟩))
            have HB7 := Lib.hid (below_turn (HB6.out.alloc HB6.out.size _) hT7 (fun i hi e => by omega))
            clear hR7 hT7 hR6 HRw
            generalize (writeG y [id]).2 = y2 at *
            go_wp2_with fail
            go_roundw
            case rel => exact ⟨j + 1, by omega, by omega, by go_num, y2, nb + 1, HF2, by omega, by omega, HG7.out, HR7.out, HB7.out⟩
            case measure => simp [intOf]; omega
          · have hcases2 : (¬ j < ids.length) ∨ (j < ids.length ∧ ¬ j < 4) := by
              by_cases h : j < ids.length
              · exact .inr ⟨h, fun h2 => hlt ⟨h, h2⟩⟩
              · exact .inl h
            clear hlt hG hR hbel
            rcases hcases2 with hge3 | ⟨hlt3, hge3⟩
            all_goals
              go_wp2_with fail
              go_ret2
              exact ⟨_, _, _, nb, y, rfl, HG.out, HR.out, hF.out.1, hF.out.2, hyl, by omega, HB.out, by omega, by omega, by omega⟩
end Go.Proofs.Ytmkfaibjjbgbbaa
namespace Go.Proofs.Ytmkfaibjjbgbbaa
open Go.RowKit
set_option linter.unusedVariables false
attribute [local go_sem ↓] Go.wp_at_zero Go.wp_at_succ

/-- A graph behind k acts. -/
structure Live (x : G) (k : Nat) : Prop where
  last : 0 ≤ x.last ∧ x.last ≤ k
  rise : Rise x.l
  len : x.l.length ≤ k
  all : ∀ p ∈ x.l, (p.fit ∧ (key p.sec).wf = true ∧ (∀ k ∈ p.needs, k < p.id) ∧ p.needs.length ≤ 1000) ∧ 0 ≤ p.sec ∧ p.id ≤ x.last
theorem Live.none : Live G.none 0 := ⟨⟨by decide, by decide⟩, List.Pairwise.nil, Nat.le_refl _, fun p h => by cases h⟩
theorem Live.mono {x : G} {k m : Nat} (h : Live x k) (hm : k ≤ m) : Live x m := ⟨⟨h.last.1, by have := h.last.2; omega⟩, h.rise, Nat.le_trans h.len hm, h.all⟩
theorem Live.fine {x : G} {k : Nat} (h : Live x k) (hk : k ≤ 1000) : Fine x := ⟨h.rise, Nat.le_trans h.len hk, fun p hp => (h.all p hp).1⟩
theorem Live.sub {x y : G} {k : Nat} (h : Live x k) (hs : y.l.Sublist x.l) (hl : y.last = x.last) : Live y k :=
  ⟨by rw [hl]; exact h.last, h.rise.sublist hs, Nat.le_trans hs.length_le h.len, fun p hp => by rw [hl]; exact h.all p (hs.subset hp)⟩
theorem Live.settle {x : G} {k : Nat} (h : Live x k) (q : Pt → Bool) : Live (settleG x q) k := h.sub (List.filter_sublist) rfl
theorem Live.mark {x : G} {k : Nat} (h : Live x k) (id : Int) : Live (mark x id) k := by
  refine ⟨h.last, mark_rise h.rise id, by rw [mark_len]; exact h.len, fun p hp => ?_⟩
  obtain ⟨r, hr, rfl⟩ := List.mem_map.1 hp
  have := h.all r hr
  split <;> exact this
theorem Live.write {k : Nat} : ∀ (L : List Int) (x : G), Live x k → Live (writeG x L).2 k := by
  intro L
  induction L with
  | nil => exact fun x h => h
  | cons id r ih =>
    intro x h
    have key : Live (wr1 x id).2 k := by
      unfold wr1
      cases x.find id with
      | none => exact h
      | some p =>
        dsimp only
        split
        · exact h
        · exact h.mark id
    show Live (if (wr1 x id).1 = 0 then writeG (wr1 x id).2 r else ((wr1 x id).1, x)).2 k
    split
    · exact ih _ key
    · exact h
theorem Live.add {x : G} {k : Nat} (h : Live x k) (p : Pt) (hk : k < 1000) (hn : p.needs.length ≤ 1000) : Live (addG x p).2.2 (k + 1) := by
  unfold addG
  cases hr : rightB p x.last with
  | false => exact h.mono (by omega)
  | true =>
    rw [if_pos rfl]
    obtain ⟨⟨l0, l1⟩, hri, hlen, ha⟩ := h
    refine ⟨⟨by show 0 ≤ x.last + 1; omega, by show x.last + 1 ≤ ((k + 1 : Nat) : Int); omega⟩, ?_, by show (x.l ++ [p.as (x.last + 1)]).length ≤ _; simp; omega, fun q hq => ?_⟩
    · show Rise (x.l ++ [p.as (x.last + 1)])
      rw [show Rise (x.l ++ [p.as (x.last + 1)]) ↔ _ from List.pairwise_append]
      refine ⟨hri, List.pairwise_singleton _ _, fun q hq r hr => ?_⟩
      rw [List.mem_singleton.1 hr]
      have := (ha q hq).2.2
      show q.id < x.last + 1
      omega
    · rcases List.mem_append.1 hq with hq | hq
      · obtain ⟨a1, a2, a3⟩ := ha q hq
        exact ⟨a1, a2, by show q.id ≤ x.last + 1; omega⟩
      · rw [List.mem_singleton.1 hq]
        unfold rightB at hr
        rw [Bool.and_eq_true, List.all_eq_true] at hr
        obtain ⟨f1, f2, f3, f4⟩ := shape_facts hr.1
        have hk : ∀ k ∈ p.needs, 1 ≤ k ∧ k ≤ x.last := fun k hk => by
          have := hr.2 k hk
          unfold needOk at this
          simp at this
          omega
        exact ⟨⟨⟨⟨f2, by show p.off ≤ 1000; omega, by show p.data.length ≤ 1000; omega⟩, ⟨by show 0 ≤ x.last + 1; omega, by show x.last + 1 ≤ 1000000; omega⟩, fun k hk' => key_wf (by have := hk k hk'; omega) (by have := hk k hk'; omega)⟩,
          key_wf (by show _ ≤ p.sec; omega) (by show p.sec ≤ _; omega), fun k hk' => by have := (hk k hk').2; show k < x.last + 1; omega, hn⟩, by show 0 ≤ p.sec; omega, Int.le_refl _⟩

theorem RG.turnG {w w' : World} {b g mb nn : Nat} {x y : G} {S : Nat → Prop} (h : RG w b x) (hG : Gr w g mb nn y) (hT : Turn S w w') (hS : ∀ j, S j → j = g ∨ j = mb) : RG w' b x :=
  h.turn hT fun j t cs hj hb => hG.none_of j t cs (hS j hj) hb
theorem Gr.turnR {w w' : World} {g mb n b : Nat} {x y : G} (h : Gr w g mb n x) (hR : RG w b y) (hT : Turn (fun j => j = b) w w') : Gr w' g mb n x :=
  h.turnT hT fun j e => by obtain ⟨rv, h1, -⟩ := hR; rw [e]; exact ⟨_, h1⟩
theorem Gr.apartR {w : World} {g mb n b : Nat} {x y : G} (h : Gr w g mb n x) (hR : RG w b y) : b ≠ g ∧ b ≠ mb := by
  obtain ⟨rv, h1, -⟩ := hR
  obtain ⟨hg, f, hm, hh⟩ := h
  exact ⟨h1.ne_ hg (by decide), fun e => hm.not_blk h1 e.symm⟩

theorem Gr.mbne {w : World} {g mb n i t : Nat} {x : G} {cs : Array Value} (h : Gr w g mb n x) (k : Blk w i t cs) : ¬ i = mb := by
  obtain ⟨hg, f, hm, hh⟩ := h
  exact fun e => hm.not_blk k e.symm
theorem readyG_len (x : G) (s : Int) : (readyG x s).length ≤ x.l.length := by
  have h1 := rdy_len (x := x) (openL x s) ([], [])
  have h2 := List.length_filter_le (openQ s) x.l
  have e : (readyG x s).length = (rdy x (openL x s)).1.length := by unfold readyG; rw [List.length_map]
  have e2 : rdy x (openL x s) = (openL x s).foldl (rdyStep x) ([], []) := rfl
  rw [← e2] at h1
  simp at h1
  unfold openL at h1
  rw [e]
  unfold openL
  omega

/-- What do has made of both graphs. -/
def Done (g mb nn b k : Nat) (w w' : World) : Prop := ∃ (x' : G) (nn' : Nat), Live x' (k + 1) ∧ nn' ≤ nn + 1000 ∧ Gr w' g mb nn' x' ∧ RG w' b x' ∧ Turn (fun j => j = g ∨ j = mb ∨ j = b) w w'

set_option maxHeartbeats 8000000 in
set_option maxRecDepth 100000 in
theorem do_any (g mb nn b k : Nat) (x : G) (d n : Int) (p : Pt) (vd vn : Value) (near : Bool) (w : World) (hG : Gr w g mb nn x) (hR : RG w b x) (hL : Live x k) (hk : k < 100) (hnn : nn ≤ 500000) (w00 : World) (hd : Row w00 vd (bytes p.data)) (hn : Row w00 vn (ints p.needs)) (hB0 : Below w00.heap.size w00 w) (hg0 : w00.heap.size ≤ g ∧ w00.heap.size ≤ mb ∧ w00.heap.size ≤ b)
    (hn0 : (key n).wf = true) (hn1 : n ≤ 1152921504606846976) :
    Calls Try.prog 22 #[.pointer (some ⟨g, 0, none⟩), .pointer (some ⟨b, 0, none⟩), actV d n p vd vn near] w fun e w' => e = .returned (.bool true) ∧ Done g mb nn b k w w' := by
  have HL := Lib.hid hL
  have hF := hL.fine (by omega)
  have HFn := Lib.hid hF
  have hxl := hF.len
  have hl0 := hL.last.1
  have hl1 := hL.last.2
  obtain ⟨VA, VC, rfl, v1, v2, v3, v4⟩ := hd
  obtain ⟨NA, NC, rfl, m1, m2, m3, m4⟩ := hn
  have HD0 := Lib.hid (show Row w00 (.slice VA (bytes p.data).length VC) (bytes p.data) from ⟨_, _, rfl, v1, v2, v3, v4⟩)
  have HN0 := Lib.hid (show Row w00 (.slice NA (ints p.needs).length NC) (ints p.needs) from ⟨_, _, rfl, m1, m2, m3, m4⟩)
  obtain ⟨VM, hVM⟩ : ∃ m, m = (bytes p.data).length := ⟨_, rfl⟩
  obtain ⟨NM, hNM⟩ : ∃ m, m = (ints p.needs).length := ⟨_, rfl⟩
  rw [← hVM] at HD0 ⊢
  rw [← hNM] at HN0 ⊢
  have hbd := among_bd d 14 (by omega)
  have HAm := Lib.hid fun (W : World) => among_any d 14 W (by omega) (by omega)
  obtain ⟨w1, hw1⟩ : ∃ w1, w1 = w.alloc (.cells #[.int .i64 d, .int .i64 n, .int .i64 p.id, .int .i64 p.sec, .int .i64 p.off, .slice VA VM VC, .int .i64 p.kind, .slice NA NM NC, .int .i64 p.owner, .int .i64 p.child, .bool p.written, .bool near] 32) := ⟨_, rfl⟩
  have hX : Blk w1 w.heap.size 32 #[.int .i64 d, .int .i64 n, .int .i64 p.id, .int .i64 p.sec, .int .i64 p.off, .slice VA VM VC, .int .i64 p.kind, .slice NA NM NC, .int .i64 p.owner, .int .i64 p.child, .bool p.written, .bool near] := by rw [hw1]; exact Blk.new _ _ _
  have hb1 : Below w.heap.size w w1 := by rw [hw1]; exact (Below.refl _ _).alloc (Nat.le_refl _) _
  have HG1 := Lib.hid (hG.below hb1)
  have HR1 := Lib.hid (hR.below hb1)
  have HRow := Lib.hid fun (W : World) (h : Turn (fun j => j = g ∨ j = mb ∨ j = b) w1 W) => show Row W (.slice VA VM VC) (bytes p.data) ∧ Row W (.slice NA NM NC) (ints p.needs) from by
    have hbe : Below w00.heap.size w00 W := (hB0.trans (hb1.mono hB0.size)).trans (h.below (B := w00.heap.size) (Nat.le_trans hB0.size hb1.size) (fun i hi e => by omega))
    exact ⟨HD0.out.below hbe, HN0.out.below hbe⟩
  have HB1 := Lib.hid hb1
  have HX1 := Lib.hid hX
  have hg := hG.lt
  have hmb := hG.ltm
  have hbl := hR.lt
  have HAp := Lib.hid (hG.apartR hR)
  obtain ⟨b5, hb5⟩ : ∃ b5, b5 = w.heap.size := ⟨_, rfl⟩
  rw [← hb5] at HX1
  have hb5g : b5 ≠ g ∧ b5 ≠ mb ∧ b5 ≠ b ∧ b5 < w1.heap.size := ⟨by omega, by omega, by omega, HX1.out.lt⟩
  obtain ⟨q1, q2, q3, q4⟩ := hb5g
  have hc := HX1.out.cell
  have c0 := hc 0
  have c1 := hc 1
  simp at c0 c1
  have HK := Lib.hid hn0
  clear hG hR hL hF hX hb1 hB0 hg0 v1 v2 v3 v4 m1 m2 m3 m4 hn0 hVM hNM hc
  have hwn : -9223372036854775808 ≤ n := by
    have h := HK.out
    have e1 : IntKind.i64.min = -9223372036854775808 := by decide
    have h2 : (decide (IntKind.i64.min ≤ n) && decide (n ≤ IntKind.i64.max)) = true := h
    rw [e1] at h2
    simp at h2
    exact h2.1
  have HFin := Lib.hid fun (W : World) (x' : G) (nn' : Nat) (h1 : Live x' (k + 1)) (h2 : nn' ≤ nn + 1000) (h3 : Gr W g mb nn' x') (h4 : RG W b x') (h5 : Turn (fun j => j = g ∨ j = mb ∨ j = b) w1 W) => show Done g mb nn b k w W from
    ⟨x', nn', h1, h2, h3, h4, (Turn.of_below (S := fun j => j = g ∨ j = mb ∨ j = b) HB1.out).trans h5 (fun i hi e => e)⟩
  clear HB1 HD0 HN0
  unfold actV
  go_enter Try.func22, Try.ntmps22
  go_wp2_with fail
  rw [← hw1, ← hb5]
  clear hw1 hb5
  refine (HAm.out _).mono ?_
  rintro e wz ⟨rfl, hwz⟩
  rw [hwz]
  clear hwz wz
  generalize amongF d 14 = K at *
  have hcases : K < 7 ∨ (7 ≤ K ∧ K < 10) ∨ K = 10 ∨ K = 11 ∨ 11 < K := by omega
  rcases hcases with h7 | ⟨h7, h10⟩ | h10 | h11 | h11
  · -- Add
    have t0 : decide (K < 7) = true := by simp; omega
    have hp0 := near_len p near x.last
    have HLv := Lib.hid (show Live (addG x (p.near near x.last)).2.2 (k + 1) from HL.out.add _ (by omega) hp0.2)
    have HPt := Lib.hid fun (W : World) (h : Turn (fun j => j = g ∨ j = mb ∨ j = b) w1 W) => patch_any d n near (.slice VA VM VC) (.slice NA NM NC) p x.last W (HRow.out W h).1 (HRow.out W h).2 ⟨hl0, by omega⟩
    have HAd := Lib.hid fun (W : World) (v : Value) (h : Gr W g mb nn x) (hv : PtV W v (p.near near x.last)) => add_any g mb nn x v _ W h hv hp0.1 hp0.2 hl0 (by omega) (by omega) (fun q hq => (HL.out.all q hq).2.2)
    have HRa := Lib.hid fun (W : World) (v : Value) (h : RG W b x) (hv : PtV W v (p.near near x.last)) => radd_any b x v _ W h hv hp0.1 hp0.2 hl0 (by omega) hxl
    have HSS := Lib.hid fun (W : World) (h : Turn (fun j => j = g ∨ j = mb) w1 W) => show W.cell? ⟨b, 0, none⟩ = some (.int .i64 x.last) ∧ W.cell? ⟨b5, 0, none⟩ = some (.int .i64 d) ∧ W.cell? ⟨b5, 1, none⟩ = some (.int .i64 n) ∧ W.cell? ⟨b5, 2, none⟩ = some (.int .i64 p.id) ∧ W.cell? ⟨b5, 3, none⟩ = some (.int .i64 p.sec) ∧ W.cell? ⟨b5, 4, none⟩ = some (.int .i64 p.off) ∧ W.cell? ⟨b5, 5, none⟩ = some (.slice VA VM VC) ∧ W.cell? ⟨b5, 6, none⟩ = some (.int .i64 p.kind) ∧ W.cell? ⟨b5, 7, none⟩ = some (.slice NA NM NC) ∧ W.cell? ⟨b5, 8, none⟩ = some (.int .i64 p.owner) ∧ W.cell? ⟨b5, 9, none⟩ = some (.int .i64 p.child) ∧ W.cell? ⟨b5, 10, none⟩ = some (.bool p.written) ∧ W.cell? ⟨b5, 11, none⟩ = some (.bool near) from by
      have hx := (HX1.out.turn h (by omega)).cell
      obtain ⟨rv, hr, -⟩ := HR1.out
      have hap := HAp.out
      exact ⟨(hr.turn h (fun e => by rcases e with e | e; exact hap.1 e; exact hap.2 e)).cell 0, hx 0, hx 1, hx 2, hx 3, hx 4, hx 5, hx 6, hx 7, hx 8, hx 9, hx 10, hx 11⟩
    have HUp := Lib.hid fun (W : World) (h : Turn (fun j => j = g ∨ j = mb) w1 W) => show Turn (fun j => j = g ∨ j = mb ∨ j = b) w1 W from h.mono (fun i hi e => e.elim .inl (fun e => .inr (.inl e)))
    clear h7 hp0
    generalize p.near near x.last = q at *
    unfold actV at HPt
    have hT0 : Turn (fun j => j = g ∨ j = mb) w1 w1.drew := (Turn.refl _ _).drew
    go_wp2_with fail
    go_region_held3 (fun W => W.cell? ⟨b, 0, none⟩ = some (.int .i64 x.last) ∧ W.cell? ⟨b5, 0, none⟩ = some (.int .i64 d) ∧ W.cell? ⟨b5, 1, none⟩ = some (.int .i64 n) ∧ W.cell? ⟨b5, 2, none⟩ = some (.int .i64 p.id) ∧ W.cell? ⟨b5, 3, none⟩ = some (.int .i64 p.sec) ∧ W.cell? ⟨b5, 4, none⟩ = some (.int .i64 p.off) ∧ W.cell? ⟨b5, 5, none⟩ = some (.slice VA VM VC) ∧ W.cell? ⟨b5, 6, none⟩ = some (.int .i64 p.kind) ∧ W.cell? ⟨b5, 7, none⟩ = some (.slice NA NM NC) ∧ W.cell? ⟨b5, 8, none⟩ = some (.int .i64 p.owner) ∧ W.cell? ⟨b5, 9, none⟩ = some (.int .i64 p.child) ∧ W.cell? ⟨b5, 10, none⟩ = some (.bool p.written) ∧ W.cell? ⟨b5, 11, none⟩ = some (.bool near))
      (first | exact HSS.out _ HT3.out | exact HSS.out _ HT2.out | exact HSS.out _ hT0)
      (first
        | (go_at_call 14; refine (HPt.out _ (HUp.out _ hT0)).mono ?_; rintro e w2 ⟨ud, un, rfl, hu, hun, -, hb2⟩; have HV2 := Lib.hid (PtV.of_own hu hun); have HG2 := Lib.hid (HG1.out.drew.below hb2); have HR2 := Lib.hid (HR1.out.drew.below hb2); have HT2 := Lib.hid (hT0.trans (Turn.of_below (S := fun _ => False) hb2) (fun i hi e => e.elim)); clear hu hun hb2)
        | (go_at_call 13; refine (HAd.out _ _ HG2.out HV2.out).mono ?_; rintro e w3 ⟨rfl, hg3, ht3⟩; have HG3 := Lib.hid hg3; have HR3 := Lib.hid (HR2.out.turnG HG2.out ht3 (fun j e => e)); have HT3 := Lib.hid (HT2.out.trans ht3 (fun i hi e => e)); clear hg3 ht3))
    clear hT0 HV2 HG2 HR2 HT2
    have hT3 : Turn (fun j => j = g ∨ j = mb) w3 w3.drew := (Turn.refl _ _).drew
    have hTd := HT3.out.drew
    obtain ⟨z0, zx0, zx1, zx2, zx3, zx4, zx5, zx6, zx7, zx8, zx9, zx10, zx11⟩ := HSS.out _ HT3.out
    generalize addG x q = r at *
    obtain ⟨rid, rer, x'⟩ := r
    simp only at HG3 HLv HRa
    go_wp2_with fail
    go_region_with (first
        | (go_at_call 14; refine (HPt.out _ (HUp.out _ hTd)).mono ?_; rintro e w4 ⟨ud, un, rfl, hu, hun, -, hb4⟩; have HV4 := Lib.hid (PtV.of_own hu hun); have HG4 := Lib.hid (HG3.out.drew.below hb4); have HR4 := Lib.hid (HR3.out.drew.below hb4); have HT4 := Lib.hid (hTd.trans (Turn.of_below (S := fun _ => False) hb4) (fun i hi e => e.elim)); clear hu hun hb4)
        | (go_at_call 62; refine (HRa.out _ _ HR4.out HV4.out).mono ?_; rintro e w5 ⟨rfl, hr5, ht5⟩; have HR5 := Lib.hid hr5; have HG5 := Lib.hid (HG4.out.turnR HR4.out ht5); have HT5 := Lib.hid ((HUp.out _ HT4.out).trans ht5 (fun i hi e => .inr (.inr e))); clear hr5 ht5))
    all_goals
      clear HV4 HG4 HR4 HT4 hT3 hTd HRa HAd HPt z0 zx0 zx1 zx2 zx3 zx4 zx5 zx6 zx7 zx8 zx9 zx10 zx11
      go_wp2
      go_ret
      exact ⟨by first | rfl | simp, HFin.out w5 x' (nn + 1) HLv.out (by omega) HG5.out HR5.out HT5.out⟩
  · -- Write of what is ready
    have t0 : decide (K < 7) = false := by simp; omega
    have t1 : decide (K < 10) = true := by simp; omega
    have hrl := readyG_len x n
    have HRw := Lib.hid fun (id : Int) (h : id ∈ readyG x n) => HFn.out.ready_wf h
    have HLv := Lib.hid (HL.out.write (readyG x n) x)
    have HRr := Lib.hid (rready_any b x n w1 HR1.out HFn.out)
    have HRd := Lib.hid fun (W : World) (h : Gr W g mb nn x) => ready_any g mb nn x n W h HFn.out.rise (by omega) (fun p hp => (HFn.out.all p hp).1)
    have HWr := Lib.hid fun (W : World) (v : Value) (h : Gr W g mb nn x) (hv : Arr W 3 v (ints (readyG x n))) => write_any g mb nn x v (readyG x n) W h HFn.out.rise (by omega) (fun p hp => (HFn.out.all p hp).1) hv HRw.out (by omega) (by omega)
    have HRr2 := Lib.hid fun (W : World) (v : Value) (h : RG W b x) (hv : Arr W 3 v (ints (readyG x n))) => rwrite_any b x v (readyG x n) W h HFn.out.rise (fun p hp => ⟨(HFn.out.all p hp).1.1, (HFn.out.all p hp).2.2.2⟩) hxl hv (by omega)
    clear h7 h10
    generalize writeG x (readyG x n) = r at *
    generalize readyG x n = L at *
    obtain ⟨rer, x'⟩ := r
    simp only at HLv HWr HRr2
    go_wp2_with fail
    refine HRr.out.mono ?_
    rintro e w2 ⟨r1, rfl, hr, hb⟩
    have HG2 := Lib.hid (HG1.out.below hb)
    have HR2 := Lib.hid (HR1.out.below hb)
    have HA2 := Lib.hid hr.arr
    have HX2 := Lib.hid (HX1.out.below hb q4)
    have HT2 := Lib.hid (Turn.of_below (S := fun j => j = g ∨ j = mb ∨ j = b) hb)
    have e2 := HX2.out.cell 1
    simp at e2
    clear hr hb HRr
    go_wp2_with fail
    refine (HRd.out _ HG2.out).mono ?_
    rintro e w3 ⟨r2, rfl, hr, hb⟩
    have HG3 := Lib.hid (HG2.out.below hb)
    have HR3 := Lib.hid (HR2.out.below hb)
    have HA3 := Lib.hid (HA2.out.below hb)
    have HC3 := Lib.hid hr.arr
    have HT3 := Lib.hid (HT2.out.trans (Turn.of_below (S := fun _ => False) hb) (fun i hi e => e.elim))
    clear hr hb HRd HG2 HR2 HA2 HX2 HT2 e2
    go_wp2_with fail
    refine (sameInts_same _ _ _ _ HC3.out HA3.out).mono ?_
    rintro e w4 ⟨rfl, hb⟩
    have HG4 := Lib.hid (HG3.out.below hb)
    have HR4 := Lib.hid (HR3.out.below hb)
    have HA4 := Lib.hid (HA3.out.below hb)
    have HT4 := Lib.hid (HT3.out.trans (Turn.of_below (S := fun _ => False) hb) (fun i hi e => e.elim))
    clear hb HG3 HR3 HA3 HC3 HT3
    go_wp2_with fail
    refine (ints_copy _ _ _ (Row.of_arr HA4.out) ints_one (by rw [ints_len]; omega)).mono ?_
    rintro e w5 ⟨r3, rfl, hr, hb⟩
    have HG5 := Lib.hid (HG4.out.below hb)
    have HR5 := Lib.hid (HR4.out.below hb)
    have HA5 := Lib.hid (HA4.out.below hb)
    have HC5 := Lib.hid (Arr.of_own hr)
    have HT5 := Lib.hid (HT4.out.trans (Turn.of_below (S := fun _ => False) hb) (fun i hi e => e.elim))
    clear hr hb HG4 HR4 HA4 HT4
    go_wp2_with fail
    refine (HWr.out _ _ HG5.out HC5.out).mono ?_
    rintro e w6 ⟨rfl, hg6, ht6⟩
    have HG6 := Lib.hid hg6
    have HR6 := Lib.hid (HR5.out.turnG HG5.out ht6 (fun j e => .inr e))
    have HA6 := Lib.hid (HA5.out.turn ht6 (fun i cs kk e => HG5.out.mbne kk e))
    have HT6 := Lib.hid (HT5.out.trans ht6 (fun i hi e => .inr (.inl e)))
    clear hg6 ht6 HG5 HR5 HA5 HC5 HT5
    go_wp2_with fail
    refine (HRr2.out _ _ HR6.out HA6.out).mono ?_
    rintro e w7 ⟨rfl, hr7, ht7⟩
    have HG7 := Lib.hid (HG6.out.turnR HR6.out ht7)
    have HR7 := Lib.hid hr7
    have HT7 := Lib.hid (HT6.out.trans ht7 (fun i hi e => .inr (.inr e)))
    clear hr7 ht7 HG6 HR6 HA6 HT6 HWr HRr2
    go_wp2
    go_ret
    exact ⟨by first | rfl | simp, HFin.out w7 x' _ (HLv.out.mono (by omega)) (by omega) HG7.out HR7.out HT7.out⟩
  · -- Write of two
    have t0 : decide (K < 7) = false := by simp; omega
    have t1 : decide (K < 10) = false := by simp; omega
    have t2 : (K == 10) = true := by simp; omega
    have ew : IntKind.i64.wrap (n + 1) = n + 1 := IntWalk.i64_in _ (by omega) |>.trans rfl
    have HLv := Lib.hid (HL.out.write [n, n + 1] x)
    have HKs := Lib.hid (show ∀ id ∈ [n, n + 1], (key id).wf = true from fun id h => by
      rcases List.mem_cons.1 h with h | h
      · exact h ▸ HK.out
      · rw [List.mem_singleton.1 h]
        have e1 : IntKind.i64.min = -9223372036854775808 := by decide
        have e2 : IntKind.i64.max = 9223372036854775807 := by decide
        show (decide (IntKind.i64.min ≤ n + 1) && decide (n + 1 ≤ IntKind.i64.max)) = true
        rw [e1, e2, decide_eq_true (by omega), decide_eq_true (by omega)]
        rfl)
    have HWr := Lib.hid fun (W : World) (v : Value) (h : Gr W g mb nn x) (hv : Arr W 3 v (ints [n, n + 1])) => write_any g mb nn x v [n, n + 1] W h HFn.out.rise (by omega) (fun p hp => (HFn.out.all p hp).1) hv HKs.out (by simp) (by omega)
    have HRr2 := Lib.hid fun (W : World) (v : Value) (h : RG W b x) (hv : Arr W 3 v (ints [n, n + 1])) => rwrite_any b x v [n, n + 1] W h HFn.out.rise (fun p hp => ⟨(HFn.out.all p hp).1.1, (HFn.out.all p hp).2.2.2⟩) hxl hv (by simp)
    have HSS := Lib.hid fun (W : World) (h : Turn (fun j => j = g ∨ j = mb ∨ j = b) w1 W) => show W.cell? ⟨b5, 1, none⟩ = some (.int .i64 n) from (HX1.out.turn h (by omega)).cell 1
    have hTd : Turn (fun j => j = g ∨ j = mb ∨ j = b) w1 w1.drew := (Turn.refl _ _).drew
    generalize writeG x [n, n + 1] = r at *
    obtain ⟨rer, x'⟩ := r
    simp only at HLv HWr HRr2
    clear h10
    go_wp2_with fail
    go_region_held3 (fun W => W.cell? ⟨b5, 1, none⟩ = some (.int .i64 n))
      (first | exact HSS.out _ HT3.out | exact HSS.out _ (HT2.out.alloc _) | exact HSS.out _ HT2.out | exact HSS.out _ ((hTd.alloc _).alloc _) | exact HSS.out _ (hTd.alloc _) | exact HSS.out _ hTd)
      (first
        | (go_at_call 18; refine (HWr.out _ _ (by first | exact HG1.out.drew.alloc _ | exact (HG1.out.drew.alloc _).alloc _) (by first | exact Arr.two _ 3 _ _ | exact (Arr.two _ 3 _ _).alloc _ | exact Arr.two' _ _ 3 _ _)).mono ?_; rintro e w2 ⟨rfl, hg2, ht2⟩; have HG2 := Lib.hid hg2; have HR2 := Lib.hid (RG.turnG (y := x) (by first | exact HR1.out.drew.alloc _ | exact (HR1.out.drew.alloc _).alloc _) (by first | exact HG1.out.drew.alloc _ | exact (HG1.out.drew.alloc _).alloc _) ht2 (fun j e => .inr e)); have HT2 := Lib.hid (show Turn (fun j => j = g ∨ j = mb ∨ j = b) w1 w2 from (by first | exact (hTd.alloc _).trans ht2 (fun i hi e => .inr (.inl e)) | exact ((hTd.alloc _).alloc _).trans ht2 (fun i hi e => .inr (.inl e)))); (first | (have HAa := Lib.hid (Arr.turn ((Arr.two w1.drew 3 (.int .i64 n) (.int .i64 (n + 1))).alloc (.cells #[.int .i64 n, .int .i64 (n + 1)] 3)) ht2 (fun i cs kk e => ((HG1.out.drew.alloc _).alloc _).mbne kk e)); have HAb := Lib.hid (Arr.turn (Arr.two' w1.drew (.cells #[.int .i64 n, .int .i64 (n + 1)] 3) 3 (.int .i64 n) (.int .i64 (n + 1))) ht2 (fun i cs kk e => ((HG1.out.drew.alloc _).alloc _).mbne kk e))) | skip); clear hg2 ht2)
        | (go_at_call 64; refine (HRr2.out _ _ (by first | exact HR2.out | exact HR2.out.alloc _) (by first | exact HAa.out | exact HAb.out | exact Arr.two _ 3 _ _)).mono ?_; rintro e w3 ⟨rfl, hr3, ht3⟩; have HG3 := Lib.hid (Gr.turnR (y := x) (by first | exact HG2.out | exact HG2.out.alloc _) (by first | exact HR2.out | exact HR2.out.alloc _) ht3); have HR3 := Lib.hid hr3; have HT3 := Lib.hid (show Turn (fun j => j = g ∨ j = mb ∨ j = b) w1 w3 from (by first | exact HT2.out.trans ht3 (fun i hi e => .inr (.inr e)) | exact (HT2.out.alloc _).trans ht3 (fun i hi e => .inr (.inr e)))); clear hr3 ht3))
    all_goals
      clear HG2 HR2 HT2 HWr HRr2 hTd
      go_wp2
      go_ret
      exact ⟨by first | rfl | simp, HFin.out w3 x' _ (HLv.out.mono (by omega)) (by simp) HG3.out HR3.out HT3.out⟩
  · -- Settle
    have t0 : decide (K < 7) = false := by simp; omega
    have t1 : decide (K < 10) = false := by simp; omega
    have t2 : (K == 10) = false := by simp; omega
    have t3 : (K == 11) = true := by simp; omega
    have HEq := Lib.hid (settle_of_eq (fun p hp => (HL.out.all p hp).2.1) n)
    have hS1 := fun (W : World) (h : Gr W g mb nn x) => settleOf_any g mb nn x n W h HFn.out.rise (by omega) (fun p hp => (HFn.out.all p hp).1.2.1)
    rw [settle_count, ← HEq.out] at hS1
    have HS1 := Lib.hid hS1
    have HSt := Lib.hid fun (W : World) (h : RG W b x) => rsettleOf_any b x n W h hxl
    have HLv := Lib.hid (show Live (setOf x n) k from by rw [HEq.out]; exact HL.out.settle _)
    clear hS1
    generalize setOf x n = y at *
    generalize ((x.l.length : Int) - (y.l.length : Int)) = z at *
    have HSS := Lib.hid fun (W : World) (h : Turn (fun j => j = g ∨ j = mb ∨ j = b) w1 W) => show W.cell? ⟨b5, 1, none⟩ = some (.int .i64 n) from (HX1.out.turn h (by omega)).cell 1
    clear h11
    go_wp2_with fail
    go_region_held3 (fun W => W.cell? ⟨b5, 1, none⟩ = some (.int .i64 n))
      (first | exact HSS.out _ HT3.out | exact HSS.out _ HT2.out | exact HSS.out _ ((Turn.refl _ _).drew))
      (first
        | (go_at_call 25; refine (HS1.out _ HG1.out.drew).mono ?_; rintro e w2 ⟨rfl, hg2, ht2⟩; have HG2 := Lib.hid hg2; have HR2 := Lib.hid (HR1.out.drew.turnG HG1.out.drew ht2 (fun j e => .inr e)); have HT2 := Lib.hid (((Turn.refl (fun j => j = g ∨ j = mb ∨ j = b) w1).drew).trans ht2 (fun i hi e => .inr (.inl e))); clear hg2 ht2)
        | (go_at_call 65; refine (HSt.out _ HR2.out).mono ?_; rintro e w3 ⟨rfl, hr3, ht3⟩; have HG3 := Lib.hid (HG2.out.turnR HR2.out ht3); have HR3 := Lib.hid hr3; have HT3 := Lib.hid (HT2.out.trans ht3 (fun i hi e => .inr (.inr e))); clear hr3 ht3))
    go_wp2
    go_ret
    exact ⟨by first | rfl | simp, HFin.out w3 y nn (HLv.out.mono (by omega)) (by omega) HG3.out HR3.out HT3.out⟩
  · -- SettleAll
    have t0 : decide (K < 7) = false := by simp; omega
    have t1 : decide (K < 10) = false := by simp; omega
    have t2 : (K == 10) = false := by simp; omega
    have t3 : (K == 11) = false := by simp; omega
    have HS1 := Lib.hid (settleAll_any g mb nn x w1 HG1.out HFn.out.rise (by omega) (fun p hp => (HFn.out.all p hp).1.2.1))
    have HEq := Lib.hid (settle_all_eq x)
    have hct : ((idsOf x fun p => p.written).length : Int) = (x.l.length : Int) - ((settleG x (setQ (-1))).l.length : Int) := by
      have h := settle_count x fun _ => true
      rw [settle_all_eq, ← h]
      simp
    have HCt := Lib.hid hct
    clear hct
    go_wp2_with fail
    refine HS1.out.mono ?_
    rintro e w2 ⟨rfl, hg2, ht2⟩
    rw [HCt.out]
    rw [← HEq.out] at hg2
    have HG2 := Lib.hid hg2
    have HT2 := Lib.hid ht2
    have HR2 := Lib.hid (HR1.out.turnG HG1.out ht2 (fun j e => .inr e))
    clear hg2 ht2
    have HSt := Lib.hid (rsettleAll_any b x w2 HR2.out hxl)
    have HLv := Lib.hid (HL.out.settle (setQ (-1)))
    generalize settleG x (setQ (-1)) = y at *
    generalize ((x.l.length : Int) - (y.l.length : Int)) = z at *
    go_wp2_with fail
    refine HSt.out.mono ?_
    rintro e w3 ⟨rfl, hr3, ht3⟩
    have HG3 := Lib.hid (HG2.out.turnR HR2.out ht3)
    have HR3 := Lib.hid hr3
    have HT3 := Lib.hid ((HT2.out.mono (S' := fun j => j = g ∨ j = mb ∨ j = b) (fun i hi e => .inr (.inl e))).trans ht3 (fun i hi e => .inr (.inr e)))
    clear hr3 ht3
    go_wp2
    go_ret
    exact ⟨by first | rfl | simp, HFin.out w3 y nn (HLv.out.mono (by omega)) (by omega) HG3.out HR3.out HT3.out⟩
end Go.Proofs.Ytmkfaibjjbgbbaa
