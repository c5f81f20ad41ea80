/- CachePlays, the walk. CachePlays answers true for every input, and each argument reads behind the call as it read before. No condition. -/
import Derived.Test.YtnbppfhnagacfaaJp8
import Derived.Test.YtnbppfhnagacfaaOpen
namespace Go.Proofs.Ytnbppfhnagacfaa
open Go.RowKit Go.Proofs.YtnbppfhnagacfaaW.PrintLast
set_option linter.unusedVariables false
set_option linter.unusedSimpArgs false
attribute [local go_sem ↓] Go.wp_at_zero Go.wp_at_succ

set_option maxRecDepth 100000 in
set_option maxHeartbeats 16000000 in
theorem plays_any (size : Int) (A : Option Addr) (n cc : Nat) (l : List ActD) (w : World) (hA : ActsR w A n l) (hnc : n ≤ cc) (hcc : cc ≤ 9223372036854775807) :
    Calls Try.prog 5 #[.int .i64 size, .slice A n cc] w fun r w' => r = .returned (.bool true) ∧ Below w.heap.size w w' := by
  have HA := Lib.hid hA
  clear hA
  go_enter Try.func5, Try.ntmps5
  go_wp2_with fail
  refine (snew_any w).mono ?_
  rintro r w1 ⟨g, rfl, hg1, hG1, hb1, hs1⟩
  have HG1 := Lib.hid hG1
  have HB1 := Lib.hid hb1
  have hgl := hG1.lt
  clear hG1 hb1
  go_wp2_with fail
  refine (rsnew_any w1).mono ?_
  rintro r w2 ⟨q, rfl, hq1, hQ2, hb2, hs2⟩
  have HQ2 := Lib.hid hQ2
  have HG2 := Lib.hid (HG1.out.below hb2 hgl)
  have HB2 := Lib.hid (HB1.out.trans (hb2.mono (by omega)))
  have hql := hQ2.lt
  clear hQ2 hb2 HG1 HB1
  go_wp2_with fail
  refine (newD_any 6 (some g) w2 (by decide) (by decide)).mono ?_
  rintro r w3 ⟨d, rfl, hD3, hb3⟩
  have HD3 := Lib.hid hD3
  have hs3 := hb3.size
  have HQ3 := Lib.hid (HQ2.out.below hb3 hql)
  have HG3 := Lib.hid (HG2.out.below hb3 HG2.out.lt)
  have HB3 := Lib.hid (HB2.out.trans (hb3.mono (by omega)))
  clear hD3 hb3 HQ2 HG2 HB2
  go_wp2_with fail
  refine (rdnew_any q w3 (by omega)).mono ?_
  rintro r w4 ⟨e, sv, wv, vs, rfl, hE4, hb4⟩
  have hs4 := hb4.size
  have HE4 := Lib.hid hE4
  have HD4 := Lib.hid (HD3.out.below hb4)
  have HQ4 := Lib.hid (HQ3.out.below hb4 HQ3.out.lt)
  have HG4 := Lib.hid (HG3.out.below hb4 HG3.out.lt)
  have HB4 := Lib.hid (HB3.out.trans (hb4.mono (by omega)))
  clear hE4 hb4 HQ3 HG3 HB3 HD3
  by_cases hsz : size < 1 ∨ 64 < size
  · go_wp2_with fail
    refine (newC_bad d size w4 hsz).mono ?_
    rintro r w5 ⟨rfl, rfl⟩
    go_wp2_with fail
    refine (rcnew_bad e size w5 hsz).mono ?_
    rintro r w6 ⟨rfl, rfl⟩
    have HWk := Lib.hid (works_any w6)
    go_wp2_with fail
    go_loopw [15] (fun v wr => v = .int .i64 0 ∧ wr = w6) (fun _ _ => 0)
    case atStart => exact ⟨rfl, by first | trivial | rfl⟩
    case round =>
      obtain ⟨rfl, hwr⟩ := hrel
      subst hwr
      by_cases hn0 : 0 < n
      · have hn0' : (0 : Int) < (n : Int) := by omega
        go_wp2_with fail
        refine HWk.out.mono ?_
        rintro r w7 ⟨rfl, hb7⟩
        have HF := Lib.hid (HB4.out.trans (hb7.mono (HB4.out.size)))
        clear hb7 HWk
        go_wp2
        go_ret
        exact ⟨rfl, HF.out⟩
      · obtain rfl : n = 0 := by omega
        go_wp2_with fail
        refine HWk.out.mono ?_
        rintro r w7 ⟨rfl, hb7⟩
        have HF := Lib.hid (HB4.out.trans (hb7.mono (HB4.out.size)))
        clear hb7 HWk
        go_wp2
        go_ret
        exact ⟨rfl, HF.out⟩
  · have hz1 : 1 ≤ size := by omega
    have hz2 : size ≤ 64 := by omega
    have hok : newS.ok := by
      refine ⟨⟨?_, ?_⟩, ?_, ?_⟩
      · show -9223372036854775808 ≤ (-1 : Int); decide
      · show (-1 : Int) ≤ 9223372036854775807; decide
      · show (0 : Int) ≤ 0; decide
      · show (0 : Int) ≤ 1000000000; decide
    clear hsz
    go_wp2_with fail
    refine (newC_any (s := some newS) size w4 HD4.out HG4.out (fun s h => by cases h; exact hok) (fun g' hg' => by
      obtain rfl := Option.some.inj hg'
      exact ⟨fun e => by rcases e with e | e; exact e; omega, HG4.out.lt⟩) hz1 hz2).mono ?_
    rintro r w5 ⟨c, rfl, hS5, hb5⟩
    have hs5 := hb5.size
    have HS5 := Lib.hid hS5
    have HE5 := Lib.hid (HE4.out.turn (S := fun _ => False) (Turn.of_below hb5) fun _ _ => id)
    have HQ5 := Lib.hid (HQ4.out.below hb5 HQ4.out.lt)
    have HB5 := Lib.hid (HB4.out.trans (hb5.mono (by omega)))
    clear hS5 hb5 HE4 HQ4 HB4 HD4 HG4
    go_wp2_with fail
    refine (rcnew_any (s := newS) size w5 HE5.out HQ5.out hok (fun e => by rcases e with e | e; exact e; omega) hz1 hz2).mono ?_
    rintro r w6 ⟨y, rfl, hR6, hb6⟩
    have hs6 := hb6.size
    obtain ⟨U, hUe⟩ : ∃ U : Nat → Prop, U = fun j => w2.heap.size ≤ j ∧ j < w6.heap.size := ⟨_, rfl⟩
    have HBo := Lib.hid (show Bo U w6 c d g y e q (freshC size (freshD 6) (some newS)) (freshC size (freshD 6) (some newS)) from by rw [hUe]; exact Bo.start HS5.out hR6 hs3 hs4 hs5 hb6 (by omega) (by omega) (by omega))
    have HB6 := Lib.hid (HB5.out.trans (hb6.mono (by omega)))
    have HI0 := Lib.hid (Inv.fresh hz1 hz2)
    have HU := Lib.hid (show (∀ j, U j → w.heap.size ≤ j ∧ j < w6.heap.size) ∧ w.heap.size ≤ g ∧ w.heap.size ≤ q from ⟨fun j hj => by rw [hUe] at hj; exact ⟨Nat.le_trans (by omega) hj.1, hj.2⟩, hg1, by omega⟩)
    clear hR6 hb6 HS5 HE5 HQ5 HB5 hok hz1 hz2 hUe
    generalize freshC size (freshD 6) (some newS) = a0 at *
    have HSz := Lib.hid HBo.out.sz
    go_wp2_with fail
    go_loopw [15] (fun v wr => ∃ k : Nat, k ≤ n ∧ k ≤ 80 ∧ v = .int .i64 k ∧ ∃ a : CA, Hid (Inv a k (70 * k)) ∧ Hid (Bo (grow U w6 wr) wr c d g y e q a a) ∧ Hid (BT U g q w6 wr)) (fun v _ => n - (intOf v).toNat)
    case atStart => exact ⟨0, Nat.zero_le _, by omega, rfl, a0, HI0, Lib.hid (HBo.out.grow_ (Turn.refl _ _)), Lib.hid (Turn.refl _ _)⟩
    case round =>
      clear HI0 HBo
      rename World => wr
      obtain ⟨k, hk, hk80, rfl, a, hI, hBo, hT⟩ := hrel
      have hsr := hT.out.size
      have HBr := Lib.hid (show Below w.heap.size w wr from HB6.out.trans (hT.out.below HB6.out.size fun i hi e => by
        have hg' := HU.out.2.1
        have hq' := HU.out.2.2
        rcases e with e | e | e
        · have := (HU.out.1 i e).1; omega
        · omega
        · omega))
      by_cases hlt : k < n ∧ k < 80
      · obtain ⟨hlt, hlt80⟩ := hlt
        obtain ⟨x, hx⟩ : ∃ x, l[k]? = some x := ⟨_, List.getElem?_eq_getElem (by rw [HA.out.1]; exact hlt)⟩
        obtain ⟨hxb, hxw, gb, o, eA, hgb, hrg⟩ := HA.out.2 k x hx
        subst eA
        have HRg := Lib.hid (show wr.rangeAt gb (o + k * 66) x.cells from fun j v hv => (HBr.out.cell (p := ⟨gb, o + k * 66 + j, none⟩) hgb).trans (hrg j v hv))
        have hi1 : (0 : Int) ≤ (k : Int) := by omega
        have hi2 : (k : Int) < (n : Int) := by omega
        have HDo := Lib.hid (do_any x wr hxb hxw hBo.out hI.out ⟨by omega, by omega⟩ (by omega))
        have HI := Lib.hid (show Inv (stepR a x) ((k + 1 : Nat) : Int) (70 * ((k + 1 : Nat) : Int)) from (hI.out.step (by omega) (by omega) x).more (by omega) (by omega))
        clear hx hrg
        generalize stepR a x = a' at *
        go_wp2_with (first | (refine wl_load35 HRg hxb _ rfl rfl rfl ?_))
        refine HDo.out.mono ?_
        rintro r w7 ⟨rfl, hB7, hT7⟩
        have hs7 := hT7.size
        have HB7 := Lib.hid (hB7.chain hsr hs7 (fun j hj => HSz.out.2.2.2.2.2.1 j hj) ⟨HSz.out.2.2.1, HSz.out.1⟩ ⟨HSz.out.2.2.2.1, HSz.out.2.1⟩)
        have HT7 := Lib.hid (BT.chain hT.out hT7)
        have HCt := Lib.hid HB7.out.counts
        clear hB7 hT7 HDo HRg
        go_wp2_with fail
        refine HCt.out.mono ?_
        rintro r w8 ⟨rfl, hb8⟩
        have HB8 := Lib.hid (HB7.out.bel hb8)
        have HT78 := Lib.hid hb8
        have hs8 := hb8.size
        have HKp := Lib.hid (show ∀ W, Below w8.heap.size w8 W → W.cell? ⟨y, 3, none⟩ = some (.int .i64 a'.hits) ∧ W.cell? ⟨y, 4, none⟩ = some (.int .i64 a'.misses) ∧ W.cell? ⟨q, 1, none⟩ = some (.int .i64 (supS a').used) from fun W hW => (HB8.out.bel hW).cells)
        have hol : a'.os.length ≤ 1000 := by have h1 := HI.out.ol; have h2 := HI.out.sz; omega
        clear hb8 HCt HB7
        go_upto_region 14 with (fail)
        have hB : Below w8.heap.size w8 w8.drew := (Below.refl _ _).drew
        refine start_ (n := 39) (S := fun w' => w'.cell? ⟨y, 3, none⟩ = some (.int .i64 a'.hits) ∧ w'.cell? ⟨y, 4, none⟩ = some (.int .i64 a'.misses) ∧ w'.cell? ⟨q, 1, none⟩ = some (.int .i64 (supS a').used)) (ds := []) #[false, false, false, false, false, false, false, false, false, false, false, false, false, false, false, false, false, false, false, false, false, false, false, false, false, false, false, false, false, false, false, false, false, false, false, false, false, false, false] (by kernel_rfl) rfl rfl ⟨(HKp.out _ hB).1, (HKp.out _ hB).2.1, (HKp.out _ hB).2.2⟩ (fun hHeld => ?_)
        refine pure_ (i := 0) (N := some 86) (v := ?_) (a' := ?_) #[true, false, false, false, false, false, false, false, false, false, false, false, false, false, false, false, false, false, false, false, false, false, false, false, false, false, false, false, false, false, false, false, false, false, false, false, false, false, false] rfl rfl (by kernel_rfl) (fun _ _ _ h => h) (Or.inl ⟨by rfl, ?_⟩) ?_ ?_
        rotate_left
        · intro w'
          go_simp
          with_reducible rfl
        rotate_left
        · simp only [Act.put, List.setIfInBounds_toArray, List.set_cons_zero, List.set_cons_succ, i64_w, i32_w]
          rfl
        refine pure_ (i := 1) (N := some 87) (v := ?_) (a' := ?_) #[true, true, false, false, false, false, false, false, false, false, false, false, false, false, false, false, false, false, false, false, false, false, false, false, false, false, false, false, false, false, false, false, false, false, false, false, false, false, false] rfl rfl (by kernel_rfl) (fun _ _ _ h => h) (Or.inl ⟨by rfl, ?_⟩) ?_ ?_
        rotate_left
        · intro w'
          go_simp
          with_reducible rfl
        rotate_left
        · simp only [Act.put, List.setIfInBounds_toArray, List.set_cons_zero, List.set_cons_succ, i64_w, i32_w]
          rfl
        refine pure_ (i := 2) (N := some 88) (v := ?_) (a' := ?_) #[true, true, true, false, false, false, false, false, false, false, false, false, false, false, false, false, false, false, false, false, false, false, false, false, false, false, false, false, false, false, false, false, false, false, false, false, false, false, false] rfl rfl (by kernel_rfl) (fun _ _ _ h => h) (Or.inl ⟨by rfl, ?_⟩) ?_ ?_
        rotate_left
        · intro w'
          go_simp
          with_reducible rfl
        rotate_left
        · simp only [Act.put, List.setIfInBounds_toArray, List.set_cons_zero, List.set_cons_succ, i64_w, i32_w]
          rfl
        refine pure_ (i := 3) (N := some 89) (v := ?_) (a' := ?_) #[true, true, true, true, false, false, false, false, false, false, false, false, false, false, false, false, false, false, false, false, false, false, false, false, false, false, false, false, false, false, false, false, false, false, false, false, false, false, false] rfl rfl (by kernel_rfl) (fun _ _ _ h => h) (Or.inl ⟨by rfl, ?_⟩) ?_ ?_
        rotate_left
        · intro w'
          go_simp
          with_reducible rfl
        rotate_left
        · simp only [Act.put, List.setIfInBounds_toArray, List.set_cons_zero, List.set_cons_succ, i64_w, i32_w]
          rfl
        refine take_ (i := 4) (N := some 90) (v := ?_) (a' := ?_) #[true, true, true, true, true, false, false, false, false, false, false, false, false, false, false, false, false, false, false, false, false, false, false, false, false, false, false, false, false, false, false, false, false, false, false, false, false, false, false] rfl rfl (by kernel_rfl) (fun _ _ _ h => h) (Or.inl ⟨by rfl, ?_⟩) hHeld ?_ ?_
        rotate_left
        · rintro w' ⟨s0, s1, s2⟩
          go_simp
          with_reducible rfl
        rotate_left
        · simp only [Act.put, List.setIfInBounds_toArray, List.set_cons_zero, List.set_cons_succ, i64_w, i32_w]
          rfl
        refine pure_ (i := 5) (N := some 91) (v := ?_) (a' := ?_) #[true, true, true, true, true, true, false, false, false, false, false, false, false, false, false, false, false, false, false, false, false, false, false, false, false, false, false, false, false, false, false, false, false, false, false, false, false, false, false] rfl rfl (by kernel_rfl) (fun _ _ _ h => h) (Or.inl ⟨by rfl, ?_⟩) ?_ ?_
        rotate_left
        · intro w'
          go_simp
          with_reducible rfl
        rotate_left
        · simp only [Act.put, List.setIfInBounds_toArray, List.set_cons_zero, List.set_cons_succ, i64_w, i32_w]
          rfl
        refine pure_ (i := 6) (N := some 92) (v := ?_) (a' := ?_) #[true, true, true, true, true, true, true, false, false, false, false, false, false, false, false, false, false, false, false, false, false, false, false, false, false, false, false, false, false, false, false, false, false, false, false, false, false, false, false] rfl rfl (by kernel_rfl) (fun _ _ _ h => h) (Or.inl ⟨by rfl, ?_⟩) ?_ ?_
        rotate_left
        · intro w'
          go_simp
          with_reducible rfl
        rotate_left
        · simp only [Act.put, List.setIfInBounds_toArray, List.set_cons_zero, List.set_cons_succ, i64_w, i32_w]
          rfl
        refine pure_ (i := 7) (N := some 93) (v := ?_) (a' := ?_) #[true, true, true, true, true, true, true, true, false, false, false, false, false, false, false, false, false, false, false, false, false, false, false, false, false, false, false, false, false, false, false, false, false, false, false, false, false, false, false] rfl rfl (by kernel_rfl) (fun _ _ _ h => h) (Or.inl ⟨by rfl, ?_⟩) ?_ ?_
        rotate_left
        · intro w'
          go_simp
          with_reducible rfl
        rotate_left
        · simp only [Act.put, List.setIfInBounds_toArray, List.set_cons_zero, List.set_cons_succ, i64_w, i32_w]
          rfl
        refine pure_ (i := 8) (N := some 94) (v := ?_) (a' := ?_) #[true, true, true, true, true, true, true, true, true, false, false, false, false, false, false, false, false, false, false, false, false, false, false, false, false, false, false, false, false, false, false, false, false, false, false, false, false, false, false] rfl rfl (by kernel_rfl) (fun _ _ _ h => h) (Or.inl ⟨by rfl, ?_⟩) ?_ ?_
        rotate_left
        · intro w'
          go_simp
          with_reducible rfl
        rotate_left
        · simp only [Act.put, List.setIfInBounds_toArray, List.set_cons_zero, List.set_cons_succ, i64_w, i32_w]
          rfl
        refine pure_ (i := 9) (N := some 95) (v := ?_) (a' := ?_) #[true, true, true, true, true, true, true, true, true, true, false, false, false, false, false, false, false, false, false, false, false, false, false, false, false, false, false, false, false, false, false, false, false, false, false, false, false, false, false] rfl rfl (by kernel_rfl) (fun _ _ _ h => h) (Or.inl ⟨by rfl, ?_⟩) ?_ ?_
        rotate_left
        · intro w'
          go_simp
          with_reducible rfl
        rotate_left
        · simp only [Act.put, List.setIfInBounds_toArray, List.set_cons_zero, List.set_cons_succ, i64_w, i32_w]
          rfl
        refine pure_ (i := 10) (N := some 96) (v := ?_) (a' := ?_) #[true, true, true, true, true, true, true, true, true, true, true, false, false, false, false, false, false, false, false, false, false, false, false, false, false, false, false, false, false, false, false, false, false, false, false, false, false, false, false] rfl rfl (by kernel_rfl) (fun _ _ _ h => h) (Or.inl ⟨by rfl, ?_⟩) ?_ ?_
        rotate_left
        · intro w'
          go_simp
          with_reducible rfl
        rotate_left
        · simp only [Act.put, List.setIfInBounds_toArray, List.set_cons_zero, List.set_cons_succ, i64_w, i32_w]
          rfl
        refine take_ (i := 11) (N := some 97) (v := ?_) (a' := ?_) #[true, true, true, true, true, true, true, true, true, true, true, true, false, false, false, false, false, false, false, false, false, false, false, false, false, false, false, false, false, false, false, false, false, false, false, false, false, false, false] rfl rfl (by kernel_rfl) (fun _ _ _ h => h) (Or.inl ⟨by rfl, ?_⟩) hHeld ?_ ?_
        rotate_left
        · rintro w' ⟨s0, s1, s2⟩
          go_simp
          with_reducible rfl
        rotate_left
        · simp only [Act.put, List.setIfInBounds_toArray, List.set_cons_zero, List.set_cons_succ, i64_w, i32_w]
          rfl
        refine pure_ (i := 12) (N := some 98) (v := ?_) (a' := ?_) #[true, true, true, true, true, true, true, true, true, true, true, true, true, false, false, false, false, false, false, false, false, false, false, false, false, false, false, false, false, false, false, false, false, false, false, false, false, false, false] rfl rfl (by kernel_rfl) (fun _ _ _ h => h) (Or.inl ⟨by rfl, ?_⟩) ?_ ?_
        rotate_left
        · intro w'
          go_simp
          with_reducible rfl
        rotate_left
        · simp only [Act.put, List.setIfInBounds_toArray, List.set_cons_zero, List.set_cons_succ, i64_w, i32_w]
          rfl
        refine pure_ (i := 13) (N := some 99) (v := ?_) (a' := ?_) #[true, true, true, true, true, true, true, true, true, true, true, true, true, true, false, false, false, false, false, false, false, false, false, false, false, false, false, false, false, false, false, false, false, false, false, false, false, false, false] rfl rfl (by kernel_rfl) (fun _ _ _ h => h) (Or.inl ⟨by rfl, ?_⟩) ?_ ?_
        rotate_left
        · intro w'
          go_simp
          with_reducible rfl
        rotate_left
        · simp only [Act.put, List.setIfInBounds_toArray, List.set_cons_zero, List.set_cons_succ, i64_w, i32_w]
          rfl
        refine pure_ (i := 14) (N := some 100) (v := ?_) (a' := ?_) #[true, true, true, true, true, true, true, true, true, true, true, true, true, true, true, false, false, false, false, false, false, false, false, false, false, false, false, false, false, false, false, false, false, false, false, false, false, false, false] rfl rfl (by kernel_rfl) (fun _ _ _ h => h) (Or.inl ⟨by rfl, ?_⟩) ?_ ?_
        rotate_left
        · intro w'
          go_simp
          with_reducible rfl
        rotate_left
        · simp only [Act.put, List.setIfInBounds_toArray, List.set_cons_zero, List.set_cons_succ, i64_w, i32_w]
          rfl
        refine pure_ (i := 15) (N := some 101) (v := ?_) (a' := ?_) #[true, true, true, true, true, true, true, true, true, true, true, true, true, true, true, true, false, false, false, false, false, false, false, false, false, false, false, false, false, false, false, false, false, false, false, false, false, false, false] rfl rfl (by kernel_rfl) (fun _ _ _ h => h) (Or.inl ⟨by rfl, ?_⟩) ?_ ?_
        rotate_left
        · intro w'
          go_simp
          with_reducible rfl
        rotate_left
        · simp only [Act.put, List.setIfInBounds_toArray, List.set_cons_zero, List.set_cons_succ, i64_w, i32_w]
          rfl
        refine pure_ (i := 17) (N := some 103) (v := ?_) (a' := ?_) #[true, true, true, true, true, true, true, true, true, true, true, true, true, true, true, true, false, true, false, false, false, false, false, false, false, false, false, false, false, false, false, false, false, false, false, false, false, false, false] rfl rfl (by kernel_rfl) (fun _ _ _ h => h) (Or.inl ⟨by rfl, ?_⟩) ?_ ?_
        rotate_left
        · intro w'
          go_simp
          with_reducible rfl
        rotate_left
        · simp only [Act.put, List.setIfInBounds_toArray, List.set_cons_zero, List.set_cons_succ, i64_w, i32_w]
          rfl
        refine one_ (i := 16) (N := some 102) #[true, true, true, true, true, true, true, true, true, true, true, true, true, true, true, true, true, true, false, false, false, false, false, false, false, false, false, false, false, false, false, false, false, false, false, false, false, false, false] rfl rfl (by kernel_rfl) (by decide) (fun K hK => ?_)
        refine goes_ Try.func17 (by kernel_rfl) rfl #[.pointer (some ⟨c, 0, none⟩)] (by rfl) rfl rfl (by simp only [List.map_toArray, List.map_cons, List.map_nil]; rfl) ?_
        with_reducible refine (((HB8.out.bel hB).held hol)).mono ?_
        rintro r W1 ⟨v1, rfl, hr1, hb⟩
        refine ⟨_, rfl, ?_⟩
        have hB : Below w8.heap.size w8 _ := hB.trans (hb.mono hB.size)
        clear hb
        refine hK.out _ _ ⟨(HKp.out _ hB).1, (HKp.out _ hB).2.1, (HKp.out _ hB).2.2⟩ (fun hHeld => ?_)
        clear hK K
        refine norm_ (a' := ?_) ?_ ?_
        rotate_left
        · show Act.put _ (some 102) _ = _
          simp only [Act.put, List.setIfInBounds_toArray, List.set_cons_zero, List.set_cons_succ, i64_w, i32_w]
          rfl
        refine one_ (i := 18) (N := some 104) #[true, true, true, true, true, true, true, true, true, true, true, true, true, true, true, true, true, true, true, false, false, false, false, false, false, false, false, false, false, false, false, false, false, false, false, false, false, false, false] rfl rfl (by kernel_rfl) (by decide) (fun K hK => ?_)
        refine goes_ Try.func28 (by kernel_rfl) rfl #[.pointer (some ⟨y, 0, none⟩)] (by rfl) rfl rfl (by simp only [List.map_toArray, List.map_cons, List.map_nil]; rfl) ?_
        with_reducible refine (((HB8.out.bel hB).rheld)).mono ?_
        rintro r W2 ⟨v2, rfl, hr2, hb⟩
        refine ⟨_, rfl, ?_⟩
        have hr1 := hr1.bel hb
        have hB : Below w8.heap.size w8 _ := hB.trans (hb.mono hB.size)
        clear hb
        refine hK.out _ _ ⟨(HKp.out _ hB).1, (HKp.out _ hB).2.1, (HKp.out _ hB).2.2⟩ (fun hHeld => ?_)
        clear hK K
        refine norm_ (a' := ?_) ?_ ?_
        rotate_left
        · show Act.put _ (some 104) _ = _
          simp only [Act.put, List.setIfInBounds_toArray, List.set_cons_zero, List.set_cons_succ, i64_w, i32_w]
          rfl
        refine one_ (i := 19) (N := some 105) #[true, true, true, true, true, true, true, true, true, true, true, true, true, true, true, true, true, true, true, true, false, false, false, false, false, false, false, false, false, false, false, false, false, false, false, false, false, false, false] rfl rfl (by kernel_rfl) (by decide) (fun K hK => ?_)
        refine goes_ Try.func27 (by kernel_rfl) rfl #[v1, v2] (by rfl) rfl rfl (by simp only [List.map_toArray, List.map_cons, List.map_nil]; rfl) ?_
        with_reducible refine ((same_eq _ _ _ _ hr1 hr2)).mono ?_
        rintro r W3 ⟨rfl, hb⟩
        refine ⟨_, rfl, ?_⟩
        have hB : Below w8.heap.size w8 _ := hB.trans (hb.mono hB.size)
        clear hb hr1 hr2
        refine hK.out _ _ ⟨(HKp.out _ hB).1, (HKp.out _ hB).2.1, (HKp.out _ hB).2.2⟩ (fun hHeld => ?_)
        clear hK K
        refine norm_ (a' := ?_) ?_ ?_
        rotate_left
        · show Act.put _ (some 105) _ = _
          simp only [Act.put, List.setIfInBounds_toArray, List.set_cons_zero, List.set_cons_succ, i64_w, i32_w]
          rfl
        refine pure_ (i := 20) (N := some 106) (v := ?_) (a' := ?_) #[true, true, true, true, true, true, true, true, true, true, true, true, true, true, true, true, true, true, true, true, true, false, false, false, false, false, false, false, false, false, false, false, false, false, false, false, false, false, false] rfl rfl (by kernel_rfl) (fun _ _ _ h => h) (Or.inl ⟨by rfl, ?_⟩) ?_ ?_
        rotate_left
        · intro w'
          go_simp
          with_reducible rfl
        rotate_left
        · simp only [Act.put, List.setIfInBounds_toArray, List.set_cons_zero, List.set_cons_succ, i64_w, i32_w]
          rfl
        refine pure_ (i := 21) (N := some 107) (v := ?_) (a' := ?_) #[true, true, true, true, true, true, true, true, true, true, true, true, true, true, true, true, true, true, true, true, true, true, false, false, false, false, false, false, false, false, false, false, false, false, false, false, false, false, false] rfl rfl (by kernel_rfl) (fun _ _ _ h => h) (Or.inl ⟨by rfl, ?_⟩) ?_ ?_
        rotate_left
        · intro w'
          go_simp
          with_reducible rfl
        rotate_left
        · simp only [Act.put, List.setIfInBounds_toArray, List.set_cons_zero, List.set_cons_succ, i64_w, i32_w]
          rfl
        refine pure_ (i := 22) (N := some 108) (v := ?_) (a' := ?_) #[true, true, true, true, true, true, true, true, true, true, true, true, true, true, true, true, true, true, true, true, true, true, true, false, false, false, false, false, false, false, false, false, false, false, false, false, false, false, false] rfl rfl (by kernel_rfl) (fun _ _ _ h => h) (Or.inl ⟨by rfl, ?_⟩) ?_ ?_
        rotate_left
        · intro w'
          go_simp
          with_reducible rfl
        rotate_left
        · simp only [Act.put, List.setIfInBounds_toArray, List.set_cons_zero, List.set_cons_succ, i64_w, i32_w]
          rfl
        refine pure_ (i := 23) (N := some 109) (v := ?_) (a' := ?_) #[true, true, true, true, true, true, true, true, true, true, true, true, true, true, true, true, true, true, true, true, true, true, true, true, false, false, false, false, false, false, false, false, false, false, false, false, false, false, false] rfl rfl (by kernel_rfl) (fun _ _ _ h => h) (Or.inl ⟨by rfl, ?_⟩) ?_ ?_
        rotate_left
        · intro w'
          go_simp
          with_reducible rfl
        rotate_left
        · simp only [Act.put, List.setIfInBounds_toArray, List.set_cons_zero, List.set_cons_succ, i64_w, i32_w]
          rfl
        refine pure_ (i := 25) (N := some 111) (v := ?_) (a' := ?_) #[true, true, true, true, true, true, true, true, true, true, true, true, true, true, true, true, true, true, true, true, true, true, true, true, false, true, false, false, false, false, false, false, false, false, false, false, false, false, false] rfl rfl (by kernel_rfl) (fun _ _ _ h => h) (Or.inl ⟨by rfl, ?_⟩) ?_ ?_
        rotate_left
        · intro w'
          go_simp
          with_reducible rfl
        rotate_left
        · simp only [Act.put, List.setIfInBounds_toArray, List.set_cons_zero, List.set_cons_succ, i64_w, i32_w]
          rfl
        refine one_ (i := 24) (N := some 110) #[true, true, true, true, true, true, true, true, true, true, true, true, true, true, true, true, true, true, true, true, true, true, true, true, true, true, false, false, false, false, false, false, false, false, false, false, false, false, false] rfl rfl (by kernel_rfl) (by decide) (fun K hK => ?_)
        refine goes_ Try.func14 (by kernel_rfl) rfl #[.pointer (some ⟨c, 0, none⟩)] (by rfl) rfl rfl (by simp only [List.map_toArray, List.map_cons, List.map_nil]; rfl) ?_
        with_reducible refine (((HB8.out.bel hB).chg hol)).mono ?_
        rintro r W4 ⟨v4, rfl, hr1, hb⟩
        refine ⟨_, rfl, ?_⟩
        have hB : Below w8.heap.size w8 _ := hB.trans (hb.mono hB.size)
        clear hb
        refine hK.out _ _ ⟨(HKp.out _ hB).1, (HKp.out _ hB).2.1, (HKp.out _ hB).2.2⟩ (fun hHeld => ?_)
        clear hK K
        refine norm_ (a' := ?_) ?_ ?_
        rotate_left
        · show Act.put _ (some 110) _ = _
          simp only [Act.put, List.setIfInBounds_toArray, List.set_cons_zero, List.set_cons_succ, i64_w, i32_w]
          rfl
        refine one_ (i := 26) (N := some 112) #[true, true, true, true, true, true, true, true, true, true, true, true, true, true, true, true, true, true, true, true, true, true, true, true, true, true, true, false, false, false, false, false, false, false, false, false, false, false, false] rfl rfl (by kernel_rfl) (by decide) (fun K hK => ?_)
        refine goes_ Try.func29 (by kernel_rfl) rfl #[.pointer (some ⟨y, 0, none⟩)] (by rfl) rfl rfl (by simp only [List.map_toArray, List.map_cons, List.map_nil]; rfl) ?_
        with_reducible refine (((HB8.out.bel hB).rchg HI.out)).mono ?_
        rintro r W5 ⟨v5, rfl, hr2, hb⟩
        refine ⟨_, rfl, ?_⟩
        have hr1 := hr1.bel hb
        have hB : Below w8.heap.size w8 _ := hB.trans (hb.mono hB.size)
        clear hb
        refine hK.out _ _ ⟨(HKp.out _ hB).1, (HKp.out _ hB).2.1, (HKp.out _ hB).2.2⟩ (fun hHeld => ?_)
        clear hK K
        refine norm_ (a' := ?_) ?_ ?_
        rotate_left
        · show Act.put _ (some 112) _ = _
          simp only [Act.put, List.setIfInBounds_toArray, List.set_cons_zero, List.set_cons_succ, i64_w, i32_w]
          rfl
        refine one_ (i := 27) (N := some 113) #[true, true, true, true, true, true, true, true, true, true, true, true, true, true, true, true, true, true, true, true, true, true, true, true, true, true, true, true, false, false, false, false, false, false, false, false, false, false, false] rfl rfl (by kernel_rfl) (by decide) (fun K hK => ?_)
        refine goes_ Try.func27 (by kernel_rfl) rfl #[v4, v5] (by rfl) rfl rfl (by simp only [List.map_toArray, List.map_cons, List.map_nil]; rfl) ?_
        with_reducible refine ((same_eq _ _ _ _ hr1 hr2)).mono ?_
        rintro r W6 ⟨rfl, hb⟩
        refine ⟨_, rfl, ?_⟩
        have hB : Below w8.heap.size w8 _ := hB.trans (hb.mono hB.size)
        clear hb hr1 hr2
        refine hK.out _ _ ⟨(HKp.out _ hB).1, (HKp.out _ hB).2.1, (HKp.out _ hB).2.2⟩ (fun hHeld => ?_)
        clear hK K
        refine norm_ (a' := ?_) ?_ ?_
        rotate_left
        · show Act.put _ (some 113) _ = _
          simp only [Act.put, List.setIfInBounds_toArray, List.set_cons_zero, List.set_cons_succ, i64_w, i32_w]
          rfl
        refine pure_ (i := 28) (N := some 114) (v := ?_) (a' := ?_) #[true, true, true, true, true, true, true, true, true, true, true, true, true, true, true, true, true, true, true, true, true, true, true, true, true, true, true, true, true, false, false, false, false, false, false, false, false, false, false] rfl rfl (by kernel_rfl) (fun _ _ _ h => h) (Or.inl ⟨by rfl, ?_⟩) ?_ ?_
        rotate_left
        · intro w'
          go_simp
          with_reducible rfl
        rotate_left
        · simp only [Act.put, List.setIfInBounds_toArray, List.set_cons_zero, List.set_cons_succ, i64_w, i32_w]
          rfl
        refine pure_ (i := 29) (N := some 115) (v := ?_) (a' := ?_) #[true, true, true, true, true, true, true, true, true, true, true, true, true, true, true, true, true, true, true, true, true, true, true, true, true, true, true, true, true, true, false, false, false, false, false, false, false, false, false] rfl rfl (by kernel_rfl) (fun _ _ _ h => h) (Or.inl ⟨by rfl, ?_⟩) ?_ ?_
        rotate_left
        · intro w'
          go_simp
          with_reducible rfl
        rotate_left
        · simp only [Act.put, List.setIfInBounds_toArray, List.set_cons_zero, List.set_cons_succ, i64_w, i32_w]
          rfl
        refine pure_ (i := 30) (N := some 116) (v := ?_) (a' := ?_) #[true, true, true, true, true, true, true, true, true, true, true, true, true, true, true, true, true, true, true, true, true, true, true, true, true, true, true, true, true, true, true, false, false, false, false, false, false, false, false] rfl rfl (by kernel_rfl) (fun _ _ _ h => h) (Or.inl ⟨by rfl, ?_⟩) ?_ ?_
        rotate_left
        · intro w'
          go_simp
          with_reducible rfl
        rotate_left
        · simp only [Act.put, List.setIfInBounds_toArray, List.set_cons_zero, List.set_cons_succ, i64_w, i32_w]
          rfl
        refine pure_ (i := 31) (N := some 117) (v := ?_) (a' := ?_) #[true, true, true, true, true, true, true, true, true, true, true, true, true, true, true, true, true, true, true, true, true, true, true, true, true, true, true, true, true, true, true, true, false, false, false, false, false, false, false] rfl rfl (by kernel_rfl) (fun _ _ _ h => h) (Or.inl ⟨by rfl, ?_⟩) ?_ ?_
        rotate_left
        · intro w'
          go_simp
          with_reducible rfl
        rotate_left
        · simp only [Act.put, List.setIfInBounds_toArray, List.set_cons_zero, List.set_cons_succ, i64_w, i32_w]
          rfl
        refine pure_ (i := 33) (N := some 119) (v := ?_) (a' := ?_) #[true, true, true, true, true, true, true, true, true, true, true, true, true, true, true, true, true, true, true, true, true, true, true, true, true, true, true, true, true, true, true, true, false, true, false, false, false, false, false] rfl rfl (by kernel_rfl) (fun _ _ _ h => h) (Or.inl ⟨by rfl, ?_⟩) ?_ ?_
        rotate_left
        · intro w'
          go_simp
          with_reducible rfl
        rotate_left
        · simp only [Act.put, List.setIfInBounds_toArray, List.set_cons_zero, List.set_cons_succ, i64_w, i32_w]
          rfl
        refine pure_ (i := 34) (N := some 120) (v := ?_) (a' := ?_) #[true, true, true, true, true, true, true, true, true, true, true, true, true, true, true, true, true, true, true, true, true, true, true, true, true, true, true, true, true, true, true, true, false, true, true, false, false, false, false] rfl rfl (by kernel_rfl) (fun _ _ _ h => h) (Or.inl ⟨by rfl, ?_⟩) ?_ ?_
        rotate_left
        · intro w'
          go_simp
          with_reducible rfl
        rotate_left
        · simp only [Act.put, List.setIfInBounds_toArray, List.set_cons_zero, List.set_cons_succ, i64_w, i32_w]
          rfl
        refine pure_ (i := 35) (N := some 121) (v := ?_) (a' := ?_) #[true, true, true, true, true, true, true, true, true, true, true, true, true, true, true, true, true, true, true, true, true, true, true, true, true, true, true, true, true, true, true, true, false, true, true, true, false, false, false] rfl rfl (by kernel_rfl) (fun _ _ _ h => h) (Or.inl ⟨by rfl, ?_⟩) ?_ ?_
        rotate_left
        · intro w'
          go_simp
          with_reducible rfl
        rotate_left
        · simp only [Act.put, List.setIfInBounds_toArray, List.set_cons_zero, List.set_cons_succ, i64_w, i32_w]
          rfl
        refine take_ (i := 36) (N := some 122) (v := ?_) (a' := ?_) #[true, true, true, true, true, true, true, true, true, true, true, true, true, true, true, true, true, true, true, true, true, true, true, true, true, true, true, true, true, true, true, true, false, true, true, true, true, false, false] rfl rfl (by kernel_rfl) (fun _ _ _ h => h) (Or.inl ⟨by rfl, ?_⟩) hHeld ?_ ?_
        rotate_left
        · rintro w' ⟨s0, s1, s2⟩
          go_simp
          with_reducible rfl
        rotate_left
        · simp only [Act.put, List.setIfInBounds_toArray, List.set_cons_zero, List.set_cons_succ, i64_w, i32_w]
          rfl
        refine one_ (i := 32) (N := some 118) #[true, true, true, true, true, true, true, true, true, true, true, true, true, true, true, true, true, true, true, true, true, true, true, true, true, true, true, true, true, true, true, true, true, true, true, true, true, false, false] rfl rfl (by kernel_rfl) (by decide) (fun K hK => ?_)
        refine goes_ Try.func30 (by kernel_rfl) rfl #[.pointer (some ⟨g, 0, none⟩)] (by rfl) rfl rfl (by simp only [List.map_toArray, List.map_cons, List.map_nil]; rfl) ?_
        with_reducible refine (((HB8.out.bel hB).used)).mono ?_
        rintro r W7 ⟨rfl, hb⟩
        refine ⟨_, rfl, ?_⟩
        have hB : Below w8.heap.size w8 _ := hB.trans (hb.mono hB.size)
        clear hb
        refine hK.out _ _ ⟨(HKp.out _ hB).1, (HKp.out _ hB).2.1, (HKp.out _ hB).2.2⟩ (fun hHeld => ?_)
        clear hK K
        refine norm_ (a' := ?_) ?_ ?_
        rotate_left
        · show Act.put _ (some 118) _ = _
          simp only [Act.put, List.setIfInBounds_toArray, List.set_cons_zero, List.set_cons_succ, i64_w, i32_w]
          rfl
        refine pure_ (i := 37) (N := some 123) (v := ?_) (a' := ?_) #[true, true, true, true, true, true, true, true, true, true, true, true, true, true, true, true, true, true, true, true, true, true, true, true, true, true, true, true, true, true, true, true, true, true, true, true, true, true, false] rfl rfl (by kernel_rfl) (fun _ _ _ h => h) (Or.inl ⟨by rfl, ?_⟩) ?_ ?_
        rotate_left
        · intro w'
          go_simp
          with_reducible rfl
        rotate_left
        · simp only [Act.put, List.setIfInBounds_toArray, List.set_cons_zero, List.set_cons_succ, i64_w, i32_w]
          rfl
        refine pure_ (i := 38) (N := some 124) (v := ?_) (a' := ?_) #[true, true, true, true, true, true, true, true, true, true, true, true, true, true, true, true, true, true, true, true, true, true, true, true, true, true, true, true, true, true, true, true, true, true, true, true, true, true, true] rfl rfl (by kernel_rfl) (fun _ _ _ h => h) (Or.inl ⟨by rfl, ?_⟩) ?_ ?_
        rotate_left
        · intro w'
          go_simp
          with_reducible rfl
        rotate_left
        · simp only [Act.put, List.setIfInBounds_toArray, List.set_cons_zero, List.set_cons_succ, i64_w, i32_w]
          rfl
        refine done_ (by kernel_rfl) ?_

        have HB9 := Lib.hid hB
        clear hB hHeld
        rename World => w9
        go_wp2_with fail
        go_loopw [18] (fun v wq => ∃ j : Nat, j ≤ 6 ∧ v = .int .i64 j ∧ Hid (Below w8.heap.size w8 wq)) (fun v _ => 6 - (intOf v).toNat)
        case atStart => exact ⟨0, by omega, rfl, HB9⟩
        case round =>
          rename World => wq
          obtain ⟨j, hj, rfl, hbq⟩ := hrel
          by_cases hj6 : j < 6
          · have hj0 : (0 : Int) ≤ (j : Int) := by omega
            have hj1 : (j : Int) < 6 := by omega
            have HRd := Lib.hid ((HB8.out.bel hbq.out).read (j : Int) (key6 j hj6))
            obtain ⟨bb, hbb⟩ : ∃ b, (if a'.x.is (j : Int) then a'.x.shows (j : Int) else zeroB) = b := ⟨_, rfl⟩
            obtain ⟨ee, hee⟩ : ∃ b, (if a'.x.is (j : Int) then (0 : Int) else 2) = b := ⟨_, rfl⟩
            have hwx := HI.out.wr
            have hbl := ((HB8.out.bel hbq.out).rread (j : Int) (by omega)).2
            have HRr := Lib.hid (show ∀ W, Below w8.heap.size w8 W → Calls Try.prog 31 #[.pointer (some ⟨e, 0, none⟩), .int .i64 (j : Int)] W fun r w' => r = .returned (.tuple #[blkV bb, .int .i64 ee]) ∧ Below W.heap.size W w' from fun W hW => by
              have := ((HB8.out.bel hW).rread (j : Int) (by omega)).1
              rw [hbb, hee] at this
              exact this)
            rw [hbb, hee] at HRd
            rw [hbb] at hbl
            clear hbb hee
            go_wp2_with fail
            refine HRd.out.mono ?_
            rintro r w10 ⟨rfl, hb10⟩
            have HB10 := Lib.hid (hbq.out.trans (hb10.mono hbq.out.size))
            clear hb10 HRd
            go_upto_region 20 with (first | (refine wl_store32 (new_there _) hbl _ _ rfl rfl rfl rfl ?_))
            obtain ⟨w11, hw11, hb11, hv11⟩ := var_at w10 hbl
            change Code.wp _ _ _ _ (World.setCells (World.alloc w10 (.cells (bytes zeroB).toArray 32)) w10.heap.size 0 (bytes bb))
            rw [← hw11]
            obtain ⟨b11, hb11e⟩ : ∃ b11, b11 = w10.heap.size := ⟨_, rfl⟩
            rw [← hb11e] at hv11 ⊢
            have HV11 := Lib.hid hv11
            have HB11 := Lib.hid (HB10.out.trans (hb11.mono HB10.out.size))
            have HRq := Lib.hid (HRr.out w11 HB11.out)
            clear hw11 hb11 hv11 hb11e HRr
            go_wp2_with fail
            refine HRq.out.mono ?_
            rintro r w12 ⟨rfl, hb12⟩
            have HV12 := Lib.hid (HV11.out.below hb12 HV11.out.lt)
            have HB12 := Lib.hid (HB11.out.trans (hb12.mono HB11.out.size))
            clear hb12 HRq
            go_upto_region 21 with (first | (refine wl_store32 (new_there _) hbl _ _ rfl rfl rfl rfl ?_))
            obtain ⟨w13, hw13, hb13, hv13⟩ := var_at w12 hbl
            change Code.wp _ _ _ _ (World.setCells (World.alloc w12 (.cells (bytes zeroB).toArray 32)) w12.heap.size 0 (bytes bb))
            rw [← hw13]
            obtain ⟨b13, hb13e⟩ : ∃ b13, b13 = w12.heap.size := ⟨_, rfl⟩
            rw [← hb13e] at hv13 ⊢
            have HRg1 := Lib.hid (HV12.out.below hb13 HV12.out.lt).range
            have HRg2 := Lib.hid hv13.range
            have HB13 := Lib.hid (HB12.out.trans (hb13.mono HB12.out.size))
            have hde : decide (bb = bb) = true := decide_eq_true rfl
            clear hw13 hb13 hv13 hb13e HV12 HV11
            go_wp2_with (first | (refine wl_load32g HRg1 hbl _ rfl rfl rfl ?_) | (refine wl_load32g HRg2 hbl _ rfl rfl rfl ?_) | (refine wl_neq32 (b := bb) (b' := bb) hbl hbl _ _ rfl rfl rfl rfl ?_))
            go_roundw
            case rel => exact ⟨j + 1, by omega, by go_num, HB13⟩
            case measure => simp [intOf]; omega
          · obtain rfl : j = 6 := by omega
            have HFb := Lib.hid (show Bo (grow U w6 wq) wq c d g y e q a' a' ∧ BT U g q w6 wq from by
              have hbq8 := HT78.out.trans (hbq.out.mono hs8)
              have hsq := hbq8.size
              have hTq := Turn.of_below (S := fun _ => False) (show Below w7.heap.size w7 wq from hbq8)
              have h1 := HB8.out.bel hbq.out
              refine ⟨h1.wide (fun j hj => hj.imp id fun e => ⟨e.1, by omega⟩) (fun j hj => ?_) (fun e => ?_) (fun e => ?_), HT7.out.trans hTq fun j _ e => e.elim⟩
              · rcases hj with hj | hj
                · have := HSz.out.2.2.2.2.2.1 j hj; omega
                · exact hj.2
              · rcases e with e | e
                · exact HSz.out.2.2.1 e
                · have := HSz.out.1; omega
              · rcases e with e | e
                · exact HSz.out.2.2.2.1 e
                · have := HSz.out.2.1; omega)
            have HFb1 := Lib.hid HFb.out.1
            have HFb2 := Lib.hid HFb.out.2
            go_wp2
            go_roundw
            case rel => exact ⟨k + 1, by omega, by omega, by go_num, a', HI, HFb1, HFb2⟩
            case measure => simp [intOf]; omega
      · have HWk := Lib.hid (works_any wr)
        rcases (show k = n ∨ (k < n ∧ k = 80) by omega) with rfl | ⟨hkn, rfl⟩
        all_goals
          go_wp2_with fail
          refine HWk.out.mono ?_
          rintro r w10 ⟨rfl, hb10⟩
          have HF := Lib.hid (HBr.out.trans (hb10.mono HBr.out.size))
          clear hb10 HWk
          go_wp2
          go_ret
          exact ⟨rfl, HF.out⟩
end Go.Proofs.Ytnbppfhnagacfaa
namespace Go.Proofs.Ytnbppfhnagacfaa.cachePlays
open Go.ChangeShapes Go.WideShapes Go.ChangeAt Go.RowKit
set_option linter.unusedVariables false

set_option maxRecDepth 100000 in
theorem lifted (os : Os) (started : os.Started) (H : Type) (enc : TypeId × Value → H) :
    ReturnsInHanded {} Try.checked os 5 .any (Rows.cachePlaysSpec.pre6 enc Try.prog Try.f5 Rows.cachePlaysRow.domain false) (Rows.cachePlaysSpec.post enc Try.prog Try.f5 false true false false) := by
  refine returnsInHanded_of_change (C := Try.checked) (by kernel_rfl) started (by kernel_rfl) Try.func5
    (ChangeSpec.witness6 (enc := enc) (C := Try.checked) false ⟨#[], #[.int .i64 0, .slice none 0 0], []⟩ 8 (by kernel_rfl) (by kernel_rfl) (by kernel_rfl) (by kernel_rfl)) ?_
  intro W base args ds gs before hval0 hW hcnd _
  have hval : ∀ (j : Nat) t v, Try.f5.params[j]? = some t → args[j]? = some v → Value.okWide Try.prog W .any base t v := hval0
  have hW' := hW
  obtain ⟨p, q, hA0, hV, rfl, hfz, hnd⟩ := hW
  have hA : DataW.TrodAll enc Try.prog W 0 (fun _ => true) true Try.f5.params.toList args.toList ds p := hA0
  rw [Try.params5] at hA hval
  obtain ⟨v0, vs0, d0, ds0, p0, q0, hargs, rfl, rfl, h0, r0⟩ := trodAll_cons hA
  obtain ⟨v1, vs1, d1, ds1, p1, q1, rfl, rfl, rfl, h1, r1⟩ := trodAll_cons r0
  obtain ⟨rfl, rfl, rfl⟩ := trodAll_nil r1
  obtain rfl : args = #[v0, v1] := by cases args; simp_all
  obtain ⟨rfl, rfl⟩ := trodVars_none hV
  have k1 := h1
  have lt1 : ∀ x ∈ p1, x.block < W.heap.size := by obtain ⟨m, hm⟩ := k1; exact DataW.trod_lt m _ _ _ hm
  obtain ⟨A, n, c, l, rfl, ha, hn, hc⟩ := acts_open (hval 1 22 v1 rfl rfl) h1
  obtain ⟨a0, rfl, rfl, rfl, w0⟩ := open_int Try.underlying3 (hval 0 3 v0 rfl rfl) h0
  clear hA0 hval0
  refine (plays_any a0 A n c l W ha hn hc).mono fun e W' ⟨he, bel⟩ => ?_
  subst he
  exact ⟨_, rfl, _, _, _, [], _, [], hW', trodAll_mk1 (shut_bool Try.underlying4 _), (trodAll_cons_mk (shut_int Try.underlying3 w0) (trodAll_cons_mk (Below.trod laidOut (by kernel_rfl) (of_decide_eq_true (by kernel_rfl)) k1 bel lt1) trodAll_mk0)), rfl, bel.frame _, fun h => by cases h⟩

theorem CachePlays_holds : Rows.CachePlaysSaid :=
  OpenClaim.holds_of_wide 5 Try.f5 rfl rfl rfl rfl rfl rfl rfl ⟨rfl, rfl, rfl, rfl, rfl⟩ rfl rfl rfl rfl rfl (by kernel_rfl) Try.func5 (by kernel_rfl)
    (of_decide_eq_true (by kernel_rfl)) (by unfold Func.isWrapper; first | (rw [if_pos (by decide +kernel)]; kernel_rfl) | (rw [if_neg (by decide +kernel)]; exact ⟨rfl, rfl⟩))
    (fun os started H enc _ => lifted os started H enc)
#print axioms CachePlays_holds
end Go.Proofs.Ytnbppfhnagacfaa.cachePlays
