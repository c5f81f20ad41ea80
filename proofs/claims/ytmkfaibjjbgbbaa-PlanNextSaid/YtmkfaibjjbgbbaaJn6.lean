/- The chapter's example 'works' of scupperlaw16 answers true. PlanNext, the walk. PlanNext answers true for every input, and each argument reads behind the call as it read before. No condition. -/
import Derived.Test.YtmkfaibjjbgbbaaPlanE
import Derived.Test.YtmkfaibjjbgbbaaJn5
import Derived.Test.YtmkfaibjjbgbbaaJn1
namespace Go.Proofs.Ytmkfaibjjbgbbaa
open Go.RowKit
set_option linter.unusedVariables false
attribute [local go_sem ↓] Go.wp_at_zero Go.wp_at_succ

theorem secsG_is {x : G} {M : List Int} (h : secsRaw (liveL x) = M) (hM : M.Pairwise (· < ·)) : secsG x = M := by
  unfold secsG
  rw [h]
  exact sort_is (hM.imp fun h e => by omega) hM fun _ => Iff.rfl
def g5 : G := ⟨2, []⟩
theorem secs_g2 : secsG g2 = [3, 4] := secsG_is rfl (by simp)
theorem secs_g4 : secsG g4 = [4] := secsG_is rfl (by simp)
theorem next_g2 : planNext g2 [2] = some ([3], true) := by
  unfold planNext planSecs
  rw [secs_g2]
  rfl
theorem next_g4 : planNext g4 [2] = some ([4], true) := by
  unfold planNext planSecs
  rw [secs_g4]
  rfl
theorem next_g5 : planNext g5 [2] = none := rfl
theorem carry_g2 : carryG g2 [3] = g4 := rfl
theorem carry_g4 : carryG g4 [4] = g5 := rfl
theorem fine_g2 : Fine g2 := ⟨rise_b, by decide, fun p hp => by
  have hf := fit_b p hp
  simp only [g2, List.mem_cons, List.mem_nil_iff, or_false] at hp
  rcases hp with rfl | rfl
  · exact ⟨hf, key_wf (by decide) (by decide), (fun k hk => by cases hk), by decide⟩
  · exact ⟨hf, key_wf (by decide) (by decide), (fun k hk => by
      simp only [pb, Pt.as, List.mem_cons, List.mem_nil_iff, or_false] at hk
      subst hk
      decide), by decide⟩⟩
theorem batches_g2 : batchesG g2 [2] = [([3], true), ([4], true)] := by
  show batchesF [2] 3 g2 = _
  show (match planNext g2 [2] with | none => [] | some b => b :: batchesF [2] 2 (carryG g2 b.1)) = _
  rw [next_g2]
  show ([3], true) :: batchesF [2] 2 (carryG g2 [3]) = _
  rw [carry_g2]
  show ([3], true) :: (match planNext g4 [2] with | none => [] | some b => b :: batchesF [2] 1 (carryG g4 b.1)) = _
  rw [next_g4]
  show ([3], true) :: ([4], true) :: batchesF [2] 1 (carryG g4 [4]) = _
  rw [carry_g4, batches_off next_g5]

theorem Bats.at {B : Nat} {w : World} {v : Value} {bs : List (List Int × Bool)} (h : Bats B w v bs) (hb : 0 < bs.length) : ∃ g c, v = .slice (some ⟨g, 0, none⟩) bs.length c ∧ bs.length ≤ c ∧ c ≤ maxLen ∧ g < w.heap.size ∧ ∀ (k : Nat) (b : List Int × Bool), bs[k]? = some b → ∃ sv, Arr w 3 sv (ints b.1) ∧ w.cell? ⟨g, k * 2, none⟩ = some sv ∧ w.cell? ⟨g, k * 2 + 1, none⟩ = some (.bool b.2) := by
  obtain ⟨L, rfl, h1, h2⟩ := h
  rw [List.length_map] at hb ⊢
  rcases h1.2 with ⟨_, h0⟩ | ⟨g, cap, cur, hv, _, hg, hnc, hcm, hcs, ht⟩
  · omega
  · refine ⟨g, cap, hv, hnc, hcm, (Array.getElem?_eq_some_iff.1 hg).1, fun k b hk => ?_⟩
    rw [List.getElem?_map] at hk
    cases hL : L[k]? with
    | none => rw [hL] at hk; cases hk
    | some e =>
      rw [hL] at hk
      have hb2 : e.2 = b := by simpa using hk
      have hkl : k < L.length := by
        rcases Nat.lt_or_ge k L.length with h | h
        · exact h
        · rw [List.getElem?_eq_none h] at hL; cases hL
      have hcells : ∀ (L : List (Value × List Int × Bool)) (k : Nat) (e : Value × List Int × Bool), L[k]? = some e → (batCells L)[k * 2]? = some e.1 ∧ (batCells L)[k * 2 + 1]? = some (.bool e.2.2) := by
        intro L
        induction L with
        | nil => intro k e h; cases h
        | cons a L ih =>
          intro k e h
          have hc : batCells (a :: L) = a.1 :: .bool a.2.2 :: batCells L := rfl
          rw [hc]
          cases k with
          | zero => simp at h; subst h; exact ⟨rfl, rfl⟩
          | succ k =>
            have := ih k e (by simpa using h)
            rw [show (k + 1) * 2 = k * 2 + 1 + 1 by omega]
            simpa using this
      obtain ⟨c0, c1⟩ := hcells L k e hL
      have hbk : Blk w g 61 cur := hg
      refine ⟨e.1, ?_, ?_, ?_⟩
      · rw [← hb2]; exact h2 e (List.mem_of_getElem? hL)
      · rw [hbk.cell]
        rw [← ht, List.getElem?_take_of_lt (by omega)] at c0
        simpa using c0
      · rw [hbk.cell, ← hb2]
        rw [← ht, List.getElem?_take_of_lt (by omega)] at c1
        simpa using c1

set_option maxHeartbeats 2000000 in
set_option maxRecDepth 100000 in
theorem works16_any (w : World) : Calls Try.prog 31 #[] w fun e w' => e = .returned (.bool true) ∧ Below w.heap.size w w' := by
  go_enter Try.func31, Try.ntmps31
  go_wp2_with fail
  refine (new_any w).mono ?_
  rintro e w1 ⟨g, mb, rfl, hG1, hb1, hgn, hmn⟩
  have HG1 := Lib.hid hG1
  have HB1 := Lib.hid hb1
  have hgl := hG1.lt
  have hs : ∀ i, i < w.heap.size → ¬ (i = g ∨ i = mb) := fun i hi e => by omega
  clear hG1 hb1
  go_wp2_with fail
  refine (add_any g mb 0 G.none _ pa _ (HG1.out.alloc _) ⟨_, _, rfl, Arr.one w1 5 (.int .u8 1), Arr.nil _ _⟩ (by decide) (by decide) (by decide) (by decide) (by omega) (fun q hq => by cases hq)).mono ?_
  rintro e w2 ⟨rfl, hG2, hT2⟩
  rw [add_a] at hG2 ⊢
  have HG2 := Lib.hid hG2
  have HB2 := Lib.hid (below_turn (HB1.out.alloc HB1.out.size _) hT2 hs)
  clear hG2 hT2
  go_wp2_with fail
  refine (add_any g mb 1 g1 _ pb _ ((HG2.out.alloc _).alloc _) ⟨_, _, rfl, (Arr.one w2 5 (.int .u8 1)).alloc _, ?harr⟩ (by decide) (by decide) (by decide) (by decide) (by omega) (fun q hq => by simp [g1, pa, Pt.as] at hq; subst hq; decide)).mono ?_
  case harr =>
    have := Arr.one (w2.alloc (.cells #[.int .u8 1] 5)) 3 (.int .i64 1)
    show Arr _ _ _ [Value.int .i64 1]
    simpa using this
  rintro e w3 ⟨rfl, hG3, hT3⟩
  rw [add_b] at hG3 ⊢
  have HG3 := Lib.hid hG3
  have HB3 := Lib.hid (below_turn ((HB2.out.alloc HB2.out.size _).alloc (by have := HB2.out.size; simp; omega) _) hT3 hs)
  clear hG3 hT3
  go_wp2_with fail
  refine (batches_any g mb 2 g2 _ [2] _ (HG3.out.alloc _) fine_g2 (by decide) (Arr.one w3 3 (.int .i64 2)) (by decide) (fun id h => by simp at h; subst h; exact key_wf (by omega) (by omega))).mono ?_
  rintro e w4 ⟨r4, rfl, hr4, hb4⟩
  rw [batches_g2] at hr4
  obtain ⟨gl, c, rfl, hc1, hc2, hgl4, hat⟩ := hr4.at (by simp)
  obtain ⟨s0, ha0, h00, h01⟩ := hat 0 _ rfl
  obtain ⟨s1, ha1, h10, h11⟩ := hat 1 _ rfl
  have HG4 := Lib.hid ((HG3.out.alloc _).below hb4)
  have HB4 := Lib.hid ((HB3.out.alloc HB3.out.size _).trans (hb4.mono (by have := HB3.out.size; simp; omega)))
  have HA0 := Lib.hid ha0
  have HA1 := Lib.hid ha1
  obtain ⟨A0, k0, rfl, -, -⟩ := ha0.len
  obtain ⟨A1, k1, rfl, -, -⟩ := ha1.len
  simp at h00 h01 h10 h11
  clear hr4 hb4 hat ha0 ha1
  go_wp2_with fail
  refine (sameInts_any _ _ [3] [3] _ (HA0.out.alloc _) (Arr.one w4 3 (.int .i64 3))).mono ?_
  rintro e w5 ⟨rfl, n5, rfl⟩
  rw [decide_eq_true rfl]
  have HB5 := Lib.hid (show Below w.heap.size w ((w4.alloc (.cells #[.int .i64 3] 3)).drewN n5) from by
    have h := HB4.out.alloc HB4.out.size (.cells #[.int .i64 3] 3)
    exact ⟨h.os, h.tape, h.output, h.size, h.block⟩)
  have HG5 := Lib.hid ((HG4.out.alloc (.cells #[.int .i64 3] 3)).drewN n5)
  have HA5 := Lib.hid ((HA1.out.alloc (.cells #[.int .i64 3] 3)).drewN n5)
  obtain ⟨w5, hw5⟩ : ∃ w5, w5 = (w4.alloc (.cells #[.int .i64 3] 3)).drewN n5 := ⟨_, rfl⟩
  have h01' : w5.cell? ⟨gl, 1, none⟩ = some (.bool true) := by rw [hw5]; exact (((Below.refl w4.heap.size w4).alloc (Nat.le_refl _) _).cell (p := ⟨gl, 1, none⟩) hgl4).trans h01
  have h10' : w5.cell? ⟨gl, 2, none⟩ = some (.slice A1 (ints [4]).length k1) := by rw [hw5]; exact (((Below.refl w4.heap.size w4).alloc (Nat.le_refl _) _).cell (p := ⟨gl, 2, none⟩) hgl4).trans h10
  have h11' : w5.cell? ⟨gl, 3, none⟩ = some (.bool true) := by rw [hw5]; exact (((Below.refl w4.heap.size w4).alloc (Nat.le_refl _) _).cell (p := ⟨gl, 3, none⟩) hgl4).trans h11
  have hgl5 : gl < w5.heap.size := by rw [hw5]; simp; omega
  rw [← hw5] at HB5 HG5 HA5 ⊢
  clear hw5 h00 h01 h10 h11
  go_wp2_with fail
  refine (sameInts_any _ _ [4] [4] _ (HA5.out.alloc _) (Arr.one w5 3 (.int .i64 4))).mono ?_
  rintro e w6 ⟨rfl, n6, rfl⟩
  rw [decide_eq_true rfl]
  have HB6 := Lib.hid (show Below w.heap.size w ((w5.alloc (.cells #[.int .i64 4] 3)).drewN n6) from by
    have h := HB5.out.alloc HB5.out.size (.cells #[.int .i64 4] 3)
    exact ⟨h.os, h.tape, h.output, h.size, h.block⟩)
  have HG6 := Lib.hid ((HG5.out.alloc (.cells #[.int .i64 4] 3)).drewN n6)
  obtain ⟨w6, hw6⟩ : ∃ w6, w6 = (w5.alloc (.cells #[.int .i64 4] 3)).drewN n6 := ⟨_, rfl⟩
  have h11'' : w6.cell? ⟨gl, 3, none⟩ = some (.bool true) := by rw [hw6]; exact (((Below.refl w5.heap.size w5).alloc (Nat.le_refl _) _).cell (p := ⟨gl, 3, none⟩) hgl5).trans h11'
  have hgl6 : gl < w6.heap.size := by rw [hw6]; simp; omega
  rw [← hw6] at HB6 HG6 ⊢
  clear hw6 h01' h10' h11'
  go_wp2_with fail
  refine (alls_any g mb 2 g2 _ (by exact HG6.out) rise_b (by decide)).mono ?_
  rintro e w7 ⟨r7, rfl, hr7, hb7⟩
  obtain ⟨A7, k7, rfl, -, -⟩ := hr7.arr.len
  rw [ints_len, show (idsOf g2 fun _ => true).length = 2 from rfl]
  have HB7 := Lib.hid (HB6.out.trans (hb7.mono HB6.out.size))
  clear hr7 hb7
  go_wp2
  go_ret
  exact ⟨rfl, HB7.out⟩

set_option maxHeartbeats 2000000 in
set_option maxRecDepth 100000 in
theorem none_any (v : Value) (ids : List Int) (s : Int) (w : World) (hv : Row w v (ints ids)) :
    Calls Try.prog 9 #[v, .int .i64 s] w fun e w' => e = .returned (.bool true) ∧ Below w.heap.size w w' := by
  have HV := Lib.hid hv
  obtain ⟨A, c, rfl, h1, h2, h0, -⟩ := hv
  rw [ints_len] at h1 HV ⊢
  unfold maxLen at h2
  have m1 : (min (↑ids.length : Int) 8).toNat = min ids.length 8 := by omega
  have HI := Lib.hid fun (W : World) (h : Below w.heap.size w W) => show Calls Try.prog 33 #[.slice A (min (↑ids.length : Int) 8).toNat c] W fun e w' => ∃ r, e = .returned r ∧ Built W.heap.size w' r (ids.take 8) ∧ Below W.heap.size W w' from by
    have h3 := ((HV.out).take 8).1.below h
    rw [ints_take] at h3
    have := ints_copy (.slice A (min ids.length 8) c) (ints (ids.take 8)) W h3 ints_one (by rw [ints_len]; simp; omega)
    rw [m1]
    rw [ints_len] at this
    exact this
  clear m1 HV
  go_enter Try.func9, Try.ntmps9
  go_wp2_with fail
  refine (works16_any w).mono ?_
  rintro e w1 ⟨rfl, hb1⟩
  have HB1 := Lib.hid hb1
  clear hb1
  go_wp2_with fail
  refine (HI.out _ HB1.out).mono ?_
  rintro e w2 ⟨r, rfl, hr, hb2⟩
  have HB2 := Lib.hid (HB1.out.trans (hb2.mono HB1.out.size))
  clear hr hb2
  go_wp2_with fail
  refine (next_nil r w2).mono ?_
  rintro e w3 ⟨rfl, hb3⟩
  have HB3 := Lib.hid (HB2.out.trans (hb3.mono HB2.out.size))
  clear hb3
  unfold batV
  go_wp2_with fail
  refine (batches_nil r _).mono ?_
  rintro e w4 ⟨rfl, hb4⟩
  have HB4 := Lib.hid ((HB3.out.alloc HB3.out.size _).trans (hb4.mono (by have := HB3.out.size; simp; omega)))
  clear hb4
  go_wp2_with fail
  have hcn := carry_nil (.slice (some ⟨w4.heap.size, 0, none⟩) 1 1) [s] false (w4.alloc (.cells #[.int .i64 s] 3)) (Arr.one w4 3 (.int .i64 s))
  unfold batV at hcn
  refine hcn.mono ?_
  rintro e w5 ⟨A5, c5, rfl, hb5⟩
  have HB5 := Lib.hid ((HB4.out.alloc HB4.out.size _).trans (hb5.mono (by have := HB4.out.size; simp; omega)))
  clear hb5 hcn
  go_wp2_with fail
  refine (cost_nil w5).mono ?_
  rintro e w6 ⟨rfl, hb6⟩
  have HB6 := Lib.hid (HB5.out.trans (hb6.mono HB5.out.size))
  clear hb6
  go_wp2
  go_ret
  exact ⟨rfl, HB6.out⟩
end Go.Proofs.Ytmkfaibjjbgbbaa
namespace Go.Proofs.Ytmkfaibjjbgbbaa
open Go.RowKit
set_option linter.unusedVariables false
attribute [local go_sem ↓] Go.wp_at_zero Go.wp_at_succ

theorem next_ready {x : G} {I : List Int} {s : Int} (h : s ∈ ((planNext x I).map (·.1)).getD []) : ((readyG x s).length : Int) ≠ 0 := by
  unfold planNext at h
  split at h
  · simp at h
  · simp only [Option.map_some, Option.getD_some] at h
    have h2 := (List.mem_filter.1 h).2
    rw [List.any_eq_true] at h2
    obtain ⟨y, hy, -⟩ := h2
    have := List.length_pos_of_mem hy
    omega

set_option maxHeartbeats 8000000 in
set_option maxRecDepth 100000 in
theorem planNext_any (A : Option Addr) (n c : Nat) (l : List PtD) (v u : Value) (wids ids : List Int) (w : World) (hA : PatsR w A n l) (hn : n ≤ c) (hc : c ≤ 9223372036854775807) (hv : Row w v (ints wids)) (hk : ∀ k ∈ wids, (key k).wf = true) (hu : Row w u (ints ids)) (hku : ∀ k ∈ ids, (key k).wf = true) :
    Calls Try.prog 7 #[.slice A n c, v, u] w fun e w' => e = .returned (.bool true) ∧ Below w.heap.size w w' := by
  have HM := Lib.hid (made_any A n c l v wids w hA hn hc hv hk)
  have HV := Lib.hid hu
  obtain ⟨B, d, rfl, k1, k2, k0, -⟩ := hu
  obtain ⟨I, hI⟩ : ∃ I, I = ids.take 8 := ⟨_, rfl⟩
  have hIl : I.length ≤ 8 := by rw [hI]; simp; omega
  have HIk := Lib.hid (show ∀ k ∈ I, (key k).wf = true from fun k hk => hku k (List.mem_of_mem_take (by rw [← hI]; exact hk)))
  rw [ints_len] at k1 HV ⊢
  unfold maxLen at k2
  have m1 : (min (↑ids.length : Int) 8).toNat = min ids.length 8 := by omega
  have HIr := Lib.hid fun (W : World) (h : Below w.heap.size w W) => show Row W (.slice B (min (↑ids.length : Int) 8).toNat d) (ints I) from by
    have h3 := ((HV.out).take 8).1.below h
    rw [ints_take, ← hI] at h3
    rw [m1]
    exact h3
  have HI := Lib.hid fun (W : World) (h : Below w.heap.size w W) => show Calls Try.prog 33 #[.slice B (min (↑ids.length : Int) 8).toNat d] W fun e w' => ∃ r, e = .returned r ∧ Built W.heap.size w' r I ∧ Below W.heap.size W w' from by
    have := ints_copy _ (ints I) W (HIr.out W h) ints_one (by rw [ints_len]; omega)
    rw [ints_len] at this
    exact this
  clear m1 HV hA hv hk hku hI
  go_enter Try.func7, Try.ntmps7
  go_wp2_with fail
  refine HM.out.mono ?_
  rintro e w2 ⟨g, mb, b, nb, x, rfl, hG2, hR2, hF2, -, hxl, hnb, hb2, hg2, hmb2, -, -⟩
  have HG2 := Lib.hid hG2
  have HR2 := Lib.hid hR2
  have HF := Lib.hid hF2
  have HB2 := Lib.hid hb2
  clear hG2 hR2 hF2 hb2 HM
  go_wp2_with fail
  refine (HI.out _ HB2.out).mono ?_
  rintro e w3 ⟨r3, rfl, hr3, hb3⟩
  have HN3 := Lib.hid (next_some g mb nb x r3 I w3 (HG2.out.below hb3) HF.out hr3.arr (by omega) HIk.out)
  have HG3 := Lib.hid (HG2.out.below hb3)
  have HR3 := Lib.hid (HR2.out.below hb3)
  have HB3 := Lib.hid (HB2.out.trans (hb3.mono HB2.out.size))
  clear hr3 hb3 HG2 HR2 HB2
  have HRn := Lib.hid fun (W : World) (hR : RG W b x) (h : Below w.heap.size w W) => rnext_any b x _ I W hR HF.out (HIr.out W h)
  have HRdy := Lib.hid fun (s : Int) (h : s ∈ ((planNext x I).map (·.1)).getD []) => next_ready h
  have HPl := Lib.hid (show (((planNext x I).map (·.1)).getD []).length ≤ 1000 from by
    unfold planNext
    split
    · simp
    · simp only [Option.map_some, Option.getD_some]
      exact Nat.le_trans (List.length_filter_le _ _) (Nat.le_trans (secsG_len x) HF.out.len))
  generalize ((planNext x I).map (·.1)).getD [] = PL at *
  generalize ((planNext x I).map (·.2)).getD false = PF at *
  generalize (planNext x I).isSome = PI at *
  go_wp2_with fail
  refine HN3.out.mono ?_
  rintro e w4 ⟨sv, rfl, hS4, hb4⟩
  obtain ⟨S1, c1, rfl, hs1, hs1m, -⟩ := hS4.arr.ints_at
  unfold maxLen at hs1m
  have HS4 := Lib.hid hS4.arr
  have HG4 := Lib.hid (HG3.out.below hb4)
  have HR4 := Lib.hid (HR3.out.below hb4)
  have HB4 := Lib.hid (HB3.out.trans (hb4.mono HB3.out.size))
  clear hS4 hb4 HG3 HR3 HB3 HN3
  unfold batV
  go_wp2_with fail
  obtain ⟨w5, hw5⟩ : ∃ w5, w5 = w4.alloc (.cells #[.slice S1 PL.length c1, .bool PF] 61) := ⟨_, rfl⟩
  rw [← hw5]
  have hb5 : Below w4.heap.size w4 w5 := by rw [hw5]; exact (Below.refl _ _).alloc (Nat.le_refl _) _
  have HX5 := Lib.hid (show Blk w5 w4.heap.size 61 #[.slice S1 PL.length c1, .bool PF] from by rw [hw5]; exact Blk.new _ _ _)
  have HS5 := Lib.hid (HS4.out.below hb5)
  have HG5 := Lib.hid (HG4.out.below hb5)
  have HR5 := Lib.hid (HR4.out.below hb5)
  have HB5 := Lib.hid (HB4.out.trans (hb5.mono HB4.out.size))
  obtain ⟨b5, hb5e⟩ : ∃ b5, b5 = w4.heap.size := ⟨_, rfl⟩
  rw [← hb5e] at HX5 ⊢
  clear hw5 hb5 hb5e HS4 HG4 HR4 HB4
  refine (HRn.out _ HR5.out HB5.out).mono ?_
  rintro e w6 ⟨sv2, rfl, hS6, hb6⟩
  obtain ⟨S2, c2, rfl, hs2, hs2m⟩ := hS6.len
  rw [ints_len] at hS6 hs2 ⊢
  have HT6 := Lib.hid hS6
  have HS6 := Lib.hid (HS5.out.below hb6)
  have HX6 := Lib.hid (HX5.out.below hb6 HX5.out.lt)
  have HG6 := Lib.hid (HG5.out.below hb6)
  have HB6 := Lib.hid (HB5.out.trans (hb6.mono HB5.out.size))
  have hl6 : b5 < w6.heap.size := HX6.out.lt
  clear hS6 hb6 HS5 HX5 HG5 HR5 HB5 HRn
  unfold batV
  go_wp2_with fail
  obtain ⟨w7, hw7⟩ : ∃ w7, w7 = w6.alloc (.cells #[.slice S2 PL.length c2, .bool PF] 66) := ⟨_, rfl⟩
  rw [← hw7]
  have hb7 : Below w6.heap.size w6 w7 := by rw [hw7]; exact (Below.refl _ _).alloc (Nat.le_refl _) _
  have HY7 := Lib.hid (show Blk w7 w6.heap.size 66 #[.slice S2 PL.length c2, .bool PF] from by rw [hw7]; exact Blk.new _ _ _)
  have HX7 := Lib.hid (HX6.out.below hb7 hl6)
  have HS7 := Lib.hid (HS6.out.below hb7)
  have HT7 := Lib.hid (HT6.out.below hb7)
  have HG7 := Lib.hid (HG6.out.below hb7)
  have HB7 := Lib.hid (HB6.out.trans (hb7.mono HB6.out.size))
  obtain ⟨b7, hb7e⟩ : ∃ b7, b7 = w6.heap.size := ⟨_, rfl⟩
  rw [← hb7e] at HY7 ⊢
  have hl7 : b5 < w7.heap.size := HX7.out.lt
  have hk7 : b7 < w7.heap.size := HY7.out.lt
  clear hw7 hb7 hb7e HX6 HS6 HT6 HG6 HB6
  have HAt := Lib.hid (show ∀ (k : Nat) (y : Int), PL[k]? = some y → ∃ gb o, S1 = some ⟨gb, o, none⟩ ∧ gb < w7.heap.size ∧ w7.cell? ⟨gb, o + k, none⟩ = some (.int .i64 y) from by
    obtain ⟨S', c', e, -, -, h⟩ := HS7.out.ints_at
    injection e with e1 e2 e3
    subst e1
    exact h)
  go_loopw [13] (fun i wr => ∃ k : Nat, k ≤ PL.length ∧ i = .int .i64 k ∧ Below w7.heap.size w7 wr) (fun i _ => PL.length - (intOf i).toNat)
  case atStart => exact ⟨0, Nat.zero_le _, rfl, Below.refl _ _⟩
  case round =>
    obtain ⟨k, hk, rfl, hbel⟩ := hrel
    have HB := Lib.hid hbel
    have hsz := hbel.size
    have hX := HX7.out.below hbel hl7
    have hY := HY7.out.below hbel hk7
    have c0 := hX.cell 0
    have c1' := hX.cell 1
    have d0 := hY.cell 0
    have d1 := hY.cell 1
    simp at c0 c1' d0 d1
    by_cases hlt : k < PL.length
    · obtain ⟨s, hs⟩ : ∃ s, PL[k]? = some s := ⟨_, List.getElem?_eq_getElem hlt⟩
      obtain ⟨gb, o, rfl, hgb, hcy⟩ := HAt.out k s hs
      have hc1 : wr.cell? ⟨gb, o + k, none⟩ = some (.int .i64 s) := (hbel.cell (p := ⟨gb, o + k, none⟩) hgb).trans hcy
      have hne := HRdy.out s (List.mem_of_getElem? hs)
      have ht : (((readyG x s).length : Int) == 0) = false := by simpa using hne
      have HRd := Lib.hid (ready_any g mb nb x s wr (HG7.out.below hbel) HF.out.rise (by have := HF.out.len; omega) (fun p hp => (HF.out.all p hp).1))
      clear hbel hX hY hs hcy hne
      generalize readyG x s = R at *
      go_wp2_with fail
      refine HRd.out.mono ?_
      rintro e w9 ⟨r9, rfl, hr9, hb9⟩
      obtain ⟨A9, c9, rfl, -, -⟩ := hr9.arr.len
      have HB9 := Lib.hid (HB.out.trans (hb9.mono hsz))
      rw [ints_len]
      clear hr9 hb9 HRd c0 c1' d0 d1 hc1
      go_wp2
      go_roundw
      case rel => exact ⟨k + 1, by omega, by go_num, HB9.out⟩
      case measure => simp [intOf]; omega
    · obtain rfl : k = PL.length := by omega
      have HSm := Lib.hid (sameInts_same _ _ PL wr (HS7.out.below hbel) (HT7.out.below hbel))
      have HX := Lib.hid hX
      have HY := Lib.hid hY
      clear hbel hX hY
      go_wp2_with fail
      refine HSm.out.mono ?_
      rintro e w9 ⟨rfl, hb9⟩
      have hX := HX.out.below hb9 HX.out.lt
      have hY := HY.out.below hb9 HY.out.lt
      have HB9 := Lib.hid ((HB7.out.trans (HB.out.mono HB7.out.size)).trans (hb9.mono (by have := HB7.out.size; omega)))
      clear c0 c1' d0 d1
      have c1' := hX.cell 1
      have d1 := hY.cell 1
      simp at c1' d1
      clear hb9 hX hY
      go_wp2_with fail
      refine (works16_any _).mono ?_
      rintro e w10 ⟨rfl, hb10⟩
      have HB10 := Lib.hid (HB9.out.trans (hb10.mono HB9.out.size))
      clear hb10
      go_wp2
      go_ret
      exact ⟨by first | rfl | simp, HB10.out⟩
end Go.Proofs.Ytmkfaibjjbgbbaa
namespace Go.Proofs.Ytmkfaibjjbgbbaa.planNext
open Go.ChangeShapes Go.WideShapes Go.ChangeAt Go.RowKit
set_option linter.unusedVariables false

set_option maxRecDepth 100000 in
theorem lifted (os : Os) (started : os.Started) (H : Type) (enc : TypeId × Value → H) :
    ReturnsInHanded {} Try.checked os 7 .any (Rows.planNextSpec.pre6 enc Try.prog Try.f7 Rows.planNextRow.domain false) (Rows.planNextSpec.post enc Try.prog Try.f7 false true false false) := by
  refine returnsInHanded_of_change (C := Try.checked) (by kernel_rfl) started (by kernel_rfl) Try.func7
    (ChangeSpec.witness6 (enc := enc) (C := Try.checked) false ⟨#[], #[.slice none 0 0, .slice none 0 0, .slice none 0 0], []⟩ 8 (by kernel_rfl) (by kernel_rfl) (by kernel_rfl) (by kernel_rfl)) ?_
  intro W base args ds gs before hval0 hW hcnd _
  have hval : ∀ (j : Nat) t v, Try.f7.params[j]? = some t → args[j]? = some v → Value.okWide Try.prog W .any base t v := hval0
  have hW' := hW
  obtain ⟨p, q, hA0, hV, rfl, hfz, hnd⟩ := hW
  have hA : DataW.TrodAll enc Try.prog W 0 (fun _ => true) true Try.f7.params.toList args.toList ds p := hA0
  rw [Try.params7] at hA hval
  obtain ⟨v0, vs0, d0, ds0, p0, q0, hargs, rfl, rfl, h0, r0⟩ := trodAll_cons hA
  obtain ⟨v1, vs1, d1, ds1, p1, q1, rfl, rfl, rfl, h1, r1⟩ := trodAll_cons r0
  obtain ⟨v2, vs2, d2, ds2, p2, q2, rfl, rfl, rfl, h2, r2⟩ := trodAll_cons r1
  obtain ⟨rfl, rfl, rfl⟩ := trodAll_nil r2
  obtain rfl : args = #[v0, v1, v2] := by cases args; simp_all
  obtain ⟨rfl, rfl⟩ := trodVars_none hV
  have k0 := h0
  have k1 := h1
  have k2 := h2
  have lt0 : ∀ x ∈ p0, x.block < W.heap.size := by obtain ⟨m, hm⟩ := k0; exact DataW.trod_lt m _ _ _ hm
  have lt1 : ∀ x ∈ p1, x.block < W.heap.size := by obtain ⟨m, hm⟩ := k1; exact DataW.trod_lt m _ _ _ hm
  have lt2 : ∀ x ∈ p2, x.block < W.heap.size := by obtain ⟨m, hm⟩ := k2; exact DataW.trod_lt m _ _ _ hm
  obtain ⟨A, n, c, l, rfl, ha, hn, hc⟩ := pats_open (hval 0 50 v0 rfl rfl) h0
  obtain ⟨A1, n1, c1, rfl⟩ := okWide_slice Try.underlying28 (hval 1 28 v1 rfl rfl)
  obtain ⟨A2, n2, c2, rfl⟩ := okWide_slice Try.underlying28 (hval 2 28 v2 rfl rfl)
  obtain ⟨m1, hm1⟩ := h1
  obtain ⟨m2, hm2⟩ := h2
  obtain ⟨zs1, hrow1, hwf1⟩ := row_open Try.underlying28 Try.underlying3 cells3 (v := .slice A1 n1 c1) (by simpa [Value.cells] using hm1)
  obtain ⟨zs2, hrow2, hwf2⟩ := row_open Try.underlying28 Try.underlying3 cells3 (v := .slice A2 n2 c2) (by simpa [Value.cells] using hm2)
  clear hA0 hval0
  refine (planNext_any A n c l _ _ zs1 zs2 W ha hn hc hrow1 hwf1 hrow2 hwf2).mono fun e W' ⟨he, bel⟩ => ?_
  subst he
  have lo := laidOut
  exact ⟨_, rfl, _, _, _, [], _, [], hW', trodAll_mk1 (shut_bool Try.underlying4 _), (trodAll_cons_mk (Below.trod laidOut (by kernel_rfl) (of_decide_eq_true (by kernel_rfl)) k0 bel lt0) (trodAll_cons_mk (Below.trod laidOut (by kernel_rfl) (of_decide_eq_true (by kernel_rfl)) k1 bel lt1) (trodAll_cons_mk (Below.trod laidOut (by kernel_rfl) (of_decide_eq_true (by kernel_rfl)) k2 bel lt2) trodAll_mk0))), rfl, bel.frame _, fun h => by cases h⟩

theorem PlanNext_holds : Rows.PlanNextSaid :=
  OpenClaim.holds_of_wide 7 Try.f7 rfl rfl rfl rfl rfl rfl rfl ⟨rfl, rfl, rfl, rfl, rfl⟩ rfl rfl rfl rfl rfl (by kernel_rfl) Try.func7 (by kernel_rfl)
    (of_decide_eq_true (by kernel_rfl)) (by unfold Func.isWrapper; first | (rw [if_pos (by decide +kernel)]; kernel_rfl) | (rw [if_neg (by decide +kernel)]; exact ⟨rfl, rfl⟩))
    (fun os started H enc _ => lifted os started H enc)
#print axioms PlanNext_holds
end Go.Proofs.Ytmkfaibjjbgbbaa.planNext
