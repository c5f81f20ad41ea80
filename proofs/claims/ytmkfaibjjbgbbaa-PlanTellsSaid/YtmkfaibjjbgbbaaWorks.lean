/- The chapter's example 'works' of scupperlaw14 answers true. -/
import Derived.Test.YtmkfaibjjbgbbaaSame
namespace Go.Proofs.Ytmkfaibjjbgbbaa
open Go.RowKit
set_option linter.unusedVariables false

def pa : Pt := ⟨0, 3, 0, [1], 0, [], 0, 0, false⟩
def pb : Pt := ⟨0, 4, 0, [1], 0, [1], 0, 0, false⟩
def g1 : G := ⟨1, [pa.as 1]⟩
def g2 : G := ⟨2, [pa.as 1, pb.as 2]⟩
def g3 : G := ⟨2, [(pa.as 1).done, pb.as 2]⟩
def g4 : G := ⟨2, [pb.as 2]⟩
theorem add_a : addG G.none pa = (1, 0, g1) := by rfl
theorem add_b : addG g1 pb = (2, 0, g2) := by rfl
theorem ready_a : readyG g2 4 = [] := by rfl
theorem write_a : writeG g2 [1] = (0, g3) := by rfl
theorem settle_a : settleG g3 (fun _ => true) = g4 := by rfl
theorem count_a : (idsOf g3 fun p => p.written).length = 1 := by rfl
theorem ready_b : readyG g4 4 = [2] := by rfl
theorem all_b : idsOf g4 (fun _ => true) = [2] := by rfl

theorem Arr.one (w : World) (t : TypeId) (v : Value) : Arr (w.alloc (.cells #[v] t)) t (.slice (some ⟨w.heap.size, 0, none⟩) 1 1) [v] := by
  refine .inr ⟨w.heap.size, 0, 1, #[v], rfl, Nat.le_refl _, by decide, Blk.new _ _ _, fun i u hu => ?_⟩
  rcases i with _ | i
  · simpa using hu
  · simp at hu
theorem rise_a : g1.l.Pairwise (fun p q => p.id < q.id) := by simp [g1]
theorem rise_b : g2.l.Pairwise (fun p q => p.id < q.id) := by simp [g2, pa, pb, Pt.as]
theorem rise_c : g3.l.Pairwise (fun p q => p.id < q.id) := by simp [g3, pa, pb, Pt.as, Pt.done]
theorem rise_d : g4.l.Pairwise (fun p q => p.id < q.id) := by simp [g4]
theorem fit_b : ∀ p ∈ g2.l, p.fit := by
  intro p hp
  simp only [g2, List.mem_cons, List.mem_nil_iff, or_false] at hp
  rcases hp with rfl | rfl
  · exact ⟨⟨by decide, by decide, by decide⟩, ⟨by decide, by decide⟩, fun id h => by cases h⟩
  · exact ⟨⟨by decide, by decide, by decide⟩, ⟨by decide, by decide⟩, fun id h => by
      simp only [pb, Pt.as, List.mem_cons, List.mem_nil_iff, or_false] at h
      subst h
      exact key_wf (by omega) (by omega)⟩
theorem fit_d : ∀ p ∈ g4.l, p.fit := fun p hp => fit_b p (by simp only [g4, List.mem_cons, List.mem_nil_iff, or_false] at hp; subst hp; simp [g2])

/-- What turned was all new: below nothing has. -/
theorem below_turn {w a b : World} {S : Nat → Prop} (h : Below w.heap.size w a) (T : Turn S a b) (hs : ∀ i, i < w.heap.size → ¬ S i) : Below w.heap.size w b :=
  h.trans (T.below h.size hs)

set_option maxHeartbeats 2000000 in
theorem works_any (w : World) : Calls Try.prog 10 #[] w fun e w' => e = .returned (.bool true) ∧ Below w.heap.size w w' := by
  go_enter Try.func10, Try.ntmps10
  go_wp2_with fail
  refine (new_any w).mono ?_
  rintro e w1 ⟨g, mb, rfl, hG1, hb1, hgn, hmn⟩
  have HG1 := Lib.hid hG1
  have HB1 := Lib.hid hb1
  have hgl := hG1.lt
  have hs : ∀ i, i < w.heap.size → ¬ (i = g ∨ i = mb) := fun i hi e => by omega
  have hs2 : ∀ i, i < w.heap.size → ¬ (i = mb) := fun i hi e => by omega
  clear hG1 hb1
  go_wp2_with fail
  refine (add_any g mb 0 G.none _ pa _ (HG1.out.alloc _) ⟨_, _, rfl, Arr.one w1 5 (.int .u8 1), Arr.nil _ _⟩ (by decide) (by decide) (by decide) (by decide) (by omega) (fun q hq => by cases hq)).mono ?_
  rintro e w2 ⟨rfl, hG2, hT2⟩
  rw [add_a] at hG2 ⊢
  have HG2 := Lib.hid hG2
  have HB2 := Lib.hid (below_turn (HB1.out.alloc HB1.out.size _) hT2 hs)
  clear hG2 hT2
  go_wp2_with fail
  refine (add_any g mb 1 g1 _ pb _ ((HG2.out.alloc _).alloc _) ⟨_, _, rfl, (Arr.one w2 5 (.int .u8 1)).alloc _, ?harr⟩ (by decide) (by decide) (by decide) (by decide) (by omega) (fun q hq => by simp [g1, pa, Pt.as] at hq; subst hq; decide)).mono ?_
  case harr =>
    have := Arr.one (w2.alloc (.cells #[.int .u8 1] 5)) 3 (.int .i64 1)
    show Arr _ _ _ [Value.int .i64 1]
    simpa using this
  rintro e w3 ⟨rfl, hG3, hT3⟩
  rw [add_b] at hG3 ⊢
  have HG3 := Lib.hid hG3
  have HB3 := Lib.hid (below_turn ((HB2.out.alloc HB2.out.size _).alloc (by have := HB2.out.size; simp; omega) _) hT3 hs)
  clear hG3 hT3
  go_wp2_with fail
  refine (ready_any g mb 2 g2 4 w3 HG3.out rise_b (by decide) fit_b).mono ?_
  rintro e w4 ⟨r4, rfl, hr4, hb4⟩
  rw [ready_a] at hr4
  obtain ⟨A4, c4, rfl, -, -⟩ := hr4.arr.len
  have HG4 := Lib.hid (HG3.out.below hb4)
  have HB4 := Lib.hid (HB3.out.trans (hb4.mono HB3.out.size))
  rw [ints_len]
  clear hr4 hb4
  rw [show ([] : List Int).length = 0 from rfl]
  go_wp2_with fail
  refine (write_any g mb 2 g2 _ [1] _ (HG4.out.alloc _) rise_b (by decide) fit_b (Arr.one w4 3 (.int .i64 1)) (fun id h => by simp at h; subst h; exact key_wf (by omega) (by omega)) (by decide) (by omega)).mono ?_
  rintro e w5 ⟨rfl, hG5, hT5⟩
  rw [write_a] at hG5 ⊢
  have HG5 := Lib.hid hG5
  have HB5 := Lib.hid (below_turn (HB4.out.alloc HB4.out.size _) hT5 hs2)
  clear hG5 hT5
  go_wp2_with fail
  refine (settleAll_any g mb 3 g3 w5 HG5.out rise_c (by decide) (fun p hp => by simp only [g3, List.mem_cons, List.mem_nil_iff, or_false] at hp; rcases hp with rfl | rfl <;> exact ⟨by decide, by decide⟩)).mono ?_
  rintro e w6 ⟨rfl, hG6, hT6⟩
  rw [settle_a] at hG6
  rw [count_a]
  have HG6 := Lib.hid hG6
  have HB6 := Lib.hid (below_turn HB5.out hT6 hs2)
  clear hG6 hT6
  go_wp2_with fail
  refine (ready_any g mb 3 g4 4 w6 HG6.out rise_d (by decide) fit_d).mono ?_
  rintro e w7 ⟨r7, rfl, hr7, hb7⟩
  rw [ready_b] at hr7
  have HR7 := Lib.hid hr7.arr
  have HG7 := Lib.hid (HG6.out.below hb7)
  have HB7 := Lib.hid (HB6.out.trans (hb7.mono HB6.out.size))
  clear hr7 hb7
  go_wp2_with fail
  refine (sameInts_any r7 _ [2] [2] _ (HR7.out.alloc _) (Arr.one w7 3 (.int .i64 2))).mono ?_
  rintro e w8 ⟨rfl, n8, rfl⟩
  rw [decide_eq_true rfl]
  go_wp2_with fail
  refine (alls_any g mb 3 g4 _ (by exact HG7.out.alloc _) rise_d (by decide)).mono ?_
  rintro e w9 ⟨r9, rfl, hr9, hb9⟩
  rw [all_b] at hr9
  have HR9 := Lib.hid hr9.arr
  have HB9 := Lib.hid ((show Below w.heap.size w ((w7.alloc (.cells #[.int .i64 2] 3)).drewN n8) from by
    have h := HB7.out.alloc HB7.out.size (.cells #[.int .i64 2] 3)
    exact ⟨h.os, h.tape, h.output, h.size, h.block⟩).trans (hb9.mono (by have := HB7.out.size; simp; omega)))
  clear hr9 hb9
  go_wp2_with fail
  refine (sameInts_any r9 _ [2] [2] _ (HR9.out.alloc _) (Arr.one w9 3 (.int .i64 2))).mono ?_
  rintro e w10 ⟨rfl, n10, rfl⟩
  rw [decide_eq_true rfl]
  have HB10 := Lib.hid (HB9.out.alloc HB9.out.size (.cells #[.int .i64 2] 3))
  go_wp2_with fail
  go_ret
  exact ⟨rfl, HB10.out.os, HB10.out.tape, HB10.out.output, HB10.out.size, HB10.out.block⟩
end Go.Proofs.Ytmkfaibjjbgbbaa
