/- The chapter's example 'works' of scupperlaw16 answers true. -/
import Derived.Test.YtmkfaibjjbgbbaaPlanE
namespace Go.Proofs.Ytmkfaibjjbgbbaa
open Go.RowKit
set_option linter.unusedVariables false
attribute [local go_sem ↓] Go.wp_at_zero Go.wp_at_succ

theorem secsG_is {x : G} {M : List Int} (h : secsRaw (liveL x) = M) (hM : M.Pairwise (· < ·)) : secsG x = M := by
  unfold secsG
  rw [h]
  exact sort_is (hM.imp fun h e => by omega) hM fun _ => Iff.rfl
def g5 : G := ⟨2, []⟩
theorem secs_g2 : secsG g2 = [3, 4] := secsG_is rfl (by simp)
theorem secs_g4 : secsG g4 = [4] := secsG_is rfl (by simp)
theorem next_g2 : planNext g2 [2] = some ([3], true) := by
  unfold planNext planSecs
  rw [secs_g2]
  rfl
theorem next_g4 : planNext g4 [2] = some ([4], true) := by
  unfold planNext planSecs
  rw [secs_g4]
  rfl
theorem next_g5 : planNext g5 [2] = none := rfl
theorem carry_g2 : carryG g2 [3] = g4 := rfl
theorem carry_g4 : carryG g4 [4] = g5 := rfl
theorem fine_g2 : Fine g2 := ⟨rise_b, by decide, fun p hp => by
  have hf := fit_b p hp
  simp only [g2, List.mem_cons, List.mem_nil_iff, or_false] at hp
  rcases hp with rfl | rfl
  · exact ⟨hf, key_wf (by decide) (by decide), (fun k hk => by cases hk), by decide⟩
  · exact ⟨hf, key_wf (by decide) (by decide), (fun k hk => by
      simp only [pb, Pt.as, List.mem_cons, List.mem_nil_iff, or_false] at hk
      subst hk
      decide), by decide⟩⟩
theorem batches_g2 : batchesG g2 [2] = [([3], true), ([4], true)] := by
  show batchesF [2] 3 g2 = _
  show (match planNext g2 [2] with | none => [] | some b => b :: batchesF [2] 2 (carryG g2 b.1)) = _
  rw [next_g2]
  show ([3], true) :: batchesF [2] 2 (carryG g2 [3]) = _
  rw [carry_g2]
  show ([3], true) :: (match planNext g4 [2] with | none => [] | some b => b :: batchesF [2] 1 (carryG g4 b.1)) = _
  rw [next_g4]
  show ([3], true) :: ([4], true) :: batchesF [2] 1 (carryG g4 [4]) = _
  rw [carry_g4, batches_off next_g5]

theorem Bats.at {B : Nat} {w : World} {v : Value} {bs : List (List Int × Bool)} (h : Bats B w v bs) (hb : 0 < bs.length) : ∃ g c, v = .slice (some ⟨g, 0, none⟩) bs.length c ∧ bs.length ≤ c ∧ c ≤ maxLen ∧ g < w.heap.size ∧ ∀ (k : Nat) (b : List Int × Bool), bs[k]? = some b → ∃ sv, Arr w 3 sv (ints b.1) ∧ w.cell? ⟨g, k * 2, none⟩ = some sv ∧ w.cell? ⟨g, k * 2 + 1, none⟩ = some (.bool b.2) := by
  obtain ⟨L, rfl, h1, h2⟩ := h
  rw [List.length_map] at hb ⊢
  rcases h1.2 with ⟨_, h0⟩ | ⟨g, cap, cur, hv, _, hg, hnc, hcm, hcs, ht⟩
  · omega
  · refine ⟨g, cap, hv, hnc, hcm, (Array.getElem?_eq_some_iff.1 hg).1, fun k b hk => ?_⟩
    rw [List.getElem?_map] at hk
    cases hL : L[k]? with
    | none => rw [hL] at hk; cases hk
    | some e =>
      rw [hL] at hk
      have hb2 : e.2 = b := by simpa using hk
      have hkl : k < L.length := by
        rcases Nat.lt_or_ge k L.length with h | h
        · exact h
        · rw [List.getElem?_eq_none h] at hL; cases hL
      have hcells : ∀ (L : List (Value × List Int × Bool)) (k : Nat) (e : Value × List Int × Bool), L[k]? = some e → (batCells L)[k * 2]? = some e.1 ∧ (batCells L)[k * 2 + 1]? = some (.bool e.2.2) := by
        intro L
        induction L with
        | nil => intro k e h; cases h
        | cons a L ih =>
          intro k e h
          have hc : batCells (a :: L) = a.1 :: .bool a.2.2 :: batCells L := rfl
          rw [hc]
          cases k with
          | zero => simp at h; subst h; exact ⟨rfl, rfl⟩
          | succ k =>
            have := ih k e (by simpa using h)
            rw [show (k + 1) * 2 = k * 2 + 1 + 1 by omega]
            simpa using this
      obtain ⟨c0, c1⟩ := hcells L k e hL
      have hbk : Blk w g 61 cur := hg
      refine ⟨e.1, ?_, ?_, ?_⟩
      · rw [← hb2]; exact h2 e (List.mem_of_getElem? hL)
      · rw [hbk.cell]
        rw [← ht, List.getElem?_take_of_lt (by omega)] at c0
        simpa using c0
      · rw [hbk.cell, ← hb2]
        rw [← ht, List.getElem?_take_of_lt (by omega)] at c1
        simpa using c1

set_option maxHeartbeats 2000000 in
set_option maxRecDepth 100000 in
theorem works16_any (w : World) : Calls Try.prog 31 #[] w fun e w' => e = .returned (.bool true) ∧ Below w.heap.size w w' := by
  go_enter Try.func31, Try.ntmps31
  go_wp2_with fail
  refine (new_any w).mono ?_
  rintro e w1 ⟨g, mb, rfl, hG1, hb1, hgn, hmn⟩
  have HG1 := Lib.hid hG1
  have HB1 := Lib.hid hb1
  have hgl := hG1.lt
  have hs : ∀ i, i < w.heap.size → ¬ (i = g ∨ i = mb) := fun i hi e => by omega
  clear hG1 hb1
  go_wp2_with fail
  refine (add_any g mb 0 G.none _ pa _ (HG1.out.alloc _) ⟨_, _, rfl, Arr.one w1 5 (.int .u8 1), Arr.nil _ _⟩ (by decide) (by decide) (by decide) (by decide) (by omega) (fun q hq => by cases hq)).mono ?_
  rintro e w2 ⟨rfl, hG2, hT2⟩
  rw [add_a] at hG2 ⊢
  have HG2 := Lib.hid hG2
  have HB2 := Lib.hid (below_turn (HB1.out.alloc HB1.out.size _) hT2 hs)
  clear hG2 hT2
  go_wp2_with fail
  refine (add_any g mb 1 g1 _ pb _ ((HG2.out.alloc _).alloc _) ⟨_, _, rfl, (Arr.one w2 5 (.int .u8 1)).alloc _, ?harr⟩ (by decide) (by decide) (by decide) (by decide) (by omega) (fun q hq => by simp [g1, pa, Pt.as] at hq; subst hq; decide)).mono ?_
  case harr =>
    have := Arr.one (w2.alloc (.cells #[.int .u8 1] 5)) 3 (.int .i64 1)
    show Arr _ _ _ [Value.int .i64 1]
    simpa using this
  rintro e w3 ⟨rfl, hG3, hT3⟩
  rw [add_b] at hG3 ⊢
  have HG3 := Lib.hid hG3
  have HB3 := Lib.hid (below_turn ((HB2.out.alloc HB2.out.size _).alloc (by have := HB2.out.size; simp; omega) _) hT3 hs)
  clear hG3 hT3
  go_wp2_with fail
  refine (batches_any g mb 2 g2 _ [2] _ (HG3.out.alloc _) fine_g2 (by decide) (Arr.one w3 3 (.int .i64 2)) (by decide) (fun id h => by simp at h; subst h; exact key_wf (by omega) (by omega))).mono ?_
  rintro e w4 ⟨r4, rfl, hr4, hb4⟩
  rw [batches_g2] at hr4
  obtain ⟨gl, c, rfl, hc1, hc2, hgl4, hat⟩ := hr4.at (by simp)
  obtain ⟨s0, ha0, h00, h01⟩ := hat 0 _ rfl
  obtain ⟨s1, ha1, h10, h11⟩ := hat 1 _ rfl
  have HG4 := Lib.hid ((HG3.out.alloc _).below hb4)
  have HB4 := Lib.hid ((HB3.out.alloc HB3.out.size _).trans (hb4.mono (by have := HB3.out.size; simp; omega)))
  have HA0 := Lib.hid ha0
  have HA1 := Lib.hid ha1
  obtain ⟨A0, k0, rfl, -, -⟩ := ha0.len
  obtain ⟨A1, k1, rfl, -, -⟩ := ha1.len
  simp at h00 h01 h10 h11
  clear hr4 hb4 hat ha0 ha1
  go_wp2_with fail
  refine (sameInts_any _ _ [3] [3] _ (HA0.out.alloc _) (Arr.one w4 3 (.int .i64 3))).mono ?_
  rintro e w5 ⟨rfl, n5, rfl⟩
  rw [decide_eq_true rfl]
  have HB5 := Lib.hid (show Below w.heap.size w ((w4.alloc (.cells #[.int .i64 3] 3)).drewN n5) from by
    have h := HB4.out.alloc HB4.out.size (.cells #[.int .i64 3] 3)
    exact ⟨h.os, h.tape, h.output, h.size, h.block⟩)
  have HG5 := Lib.hid ((HG4.out.alloc (.cells #[.int .i64 3] 3)).drewN n5)
  have HA5 := Lib.hid ((HA1.out.alloc (.cells #[.int .i64 3] 3)).drewN n5)
  obtain ⟨w5, hw5⟩ : ∃ w5, w5 = (w4.alloc (.cells #[.int .i64 3] 3)).drewN n5 := ⟨_, rfl⟩
  have h01' : w5.cell? ⟨gl, 1, none⟩ = some (.bool true) := by rw [hw5]; exact (((Below.refl w4.heap.size w4).alloc (Nat.le_refl _) _).cell (p := ⟨gl, 1, none⟩) hgl4).trans h01
  have h10' : w5.cell? ⟨gl, 2, none⟩ = some (.slice A1 (ints [4]).length k1) := by rw [hw5]; exact (((Below.refl w4.heap.size w4).alloc (Nat.le_refl _) _).cell (p := ⟨gl, 2, none⟩) hgl4).trans h10
  have h11' : w5.cell? ⟨gl, 3, none⟩ = some (.bool true) := by rw [hw5]; exact (((Below.refl w4.heap.size w4).alloc (Nat.le_refl _) _).cell (p := ⟨gl, 3, none⟩) hgl4).trans h11
  have hgl5 : gl < w5.heap.size := by rw [hw5]; simp; omega
  rw [← hw5] at HB5 HG5 HA5 ⊢
  clear hw5 h00 h01 h10 h11
  go_wp2_with fail
  refine (sameInts_any _ _ [4] [4] _ (HA5.out.alloc _) (Arr.one w5 3 (.int .i64 4))).mono ?_
  rintro e w6 ⟨rfl, n6, rfl⟩
  rw [decide_eq_true rfl]
  have HB6 := Lib.hid (show Below w.heap.size w ((w5.alloc (.cells #[.int .i64 4] 3)).drewN n6) from by
    have h := HB5.out.alloc HB5.out.size (.cells #[.int .i64 4] 3)
    exact ⟨h.os, h.tape, h.output, h.size, h.block⟩)
  have HG6 := Lib.hid ((HG5.out.alloc (.cells #[.int .i64 4] 3)).drewN n6)
  obtain ⟨w6, hw6⟩ : ∃ w6, w6 = (w5.alloc (.cells #[.int .i64 4] 3)).drewN n6 := ⟨_, rfl⟩
  have h11'' : w6.cell? ⟨gl, 3, none⟩ = some (.bool true) := by rw [hw6]; exact (((Below.refl w5.heap.size w5).alloc (Nat.le_refl _) _).cell (p := ⟨gl, 3, none⟩) hgl5).trans h11'
  have hgl6 : gl < w6.heap.size := by rw [hw6]; simp; omega
  rw [← hw6] at HB6 HG6 ⊢
  clear hw6 h01' h10' h11'
  go_wp2_with fail
  refine (alls_any g mb 2 g2 _ (by exact HG6.out) rise_b (by decide)).mono ?_
  rintro e w7 ⟨r7, rfl, hr7, hb7⟩
  obtain ⟨A7, k7, rfl, -, -⟩ := hr7.arr.len
  rw [ints_len, show (idsOf g2 fun _ => true).length = 2 from rfl]
  have HB7 := Lib.hid (HB6.out.trans (hb7.mono HB6.out.size))
  clear hr7 hb7
  go_wp2
  go_ret
  exact ⟨rfl, HB7.out⟩

set_option maxHeartbeats 2000000 in
set_option maxRecDepth 100000 in
theorem none_any (v : Value) (ids : List Int) (s : Int) (w : World) (hv : Row w v (ints ids)) :
    Calls Try.prog 9 #[v, .int .i64 s] w fun e w' => e = .returned (.bool true) ∧ Below w.heap.size w w' := by
  have HV := Lib.hid hv
  obtain ⟨A, c, rfl, h1, h2, h0, -⟩ := hv
  rw [ints_len] at h1 HV ⊢
  unfold maxLen at h2
  have m1 : (min (↑ids.length : Int) 8).toNat = min ids.length 8 := by omega
  have HI := Lib.hid fun (W : World) (h : Below w.heap.size w W) => show Calls Try.prog 33 #[.slice A (min (↑ids.length : Int) 8).toNat c] W fun e w' => ∃ r, e = .returned r ∧ Built W.heap.size w' r (ids.take 8) ∧ Below W.heap.size W w' from by
    have h3 := ((HV.out).take 8).1.below h
    rw [ints_take] at h3
    have := ints_copy (.slice A (min ids.length 8) c) (ints (ids.take 8)) W h3 ints_one (by rw [ints_len]; simp; omega)
    rw [m1]
    rw [ints_len] at this
    exact this
  clear m1 HV
  go_enter Try.func9, Try.ntmps9
  go_wp2_with fail
  refine (works16_any w).mono ?_
  rintro e w1 ⟨rfl, hb1⟩
  have HB1 := Lib.hid hb1
  clear hb1
  go_wp2_with fail
  refine (HI.out _ HB1.out).mono ?_
  rintro e w2 ⟨r, rfl, hr, hb2⟩
  have HB2 := Lib.hid (HB1.out.trans (hb2.mono HB1.out.size))
  clear hr hb2
  go_wp2_with fail
  refine (next_nil r w2).mono ?_
  rintro e w3 ⟨rfl, hb3⟩
  have HB3 := Lib.hid (HB2.out.trans (hb3.mono HB2.out.size))
  clear hb3
  unfold batV
  go_wp2_with fail
  refine (batches_nil r _).mono ?_
  rintro e w4 ⟨rfl, hb4⟩
  have HB4 := Lib.hid ((HB3.out.alloc HB3.out.size _).trans (hb4.mono (by have := HB3.out.size; simp; omega)))
  clear hb4
  go_wp2_with fail
  have hcn := carry_nil (.slice (some ⟨w4.heap.size, 0, none⟩) 1 1) [s] false (w4.alloc (.cells #[.int .i64 s] 3)) (Arr.one w4 3 (.int .i64 s))
  unfold batV at hcn
  refine hcn.mono ?_
  rintro e w5 ⟨A5, c5, rfl, hb5⟩
  have HB5 := Lib.hid ((HB4.out.alloc HB4.out.size _).trans (hb5.mono (by have := HB4.out.size; simp; omega)))
  clear hb5 hcn
  go_wp2_with fail
  refine (cost_nil w5).mono ?_
  rintro e w6 ⟨rfl, hb6⟩
  have HB6 := Lib.hid (HB5.out.trans (hb6.mono HB5.out.size))
  clear hb6
  go_wp2
  go_ret
  exact ⟨rfl, HB6.out⟩
end Go.Proofs.Ytmkfaibjjbgbbaa
