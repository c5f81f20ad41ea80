/- works of package scupperlaw13, the walk. -/
import Derived.Test.YtnbppfhnagacfaaWa
namespace Go.Proofs.Ytnbppfhnagacfaa
open Go.RowKit
set_option linter.unusedVariables false
attribute [local go_sem ↓] Go.wp_at_zero Go.wp_at_succ
attribute [local irreducible] a0 a1 a2

theorem new_there (W : World) : Hid ((W.alloc (.cells (bytes zeroB).toArray 32)).there W.heap.size 0 64) := Lib.hid (Var.new W zero_len).there
theorem new_c {Fd : Nat → Prop} {d : Nat} (w : World) (hD : Disk Fd w d none (freshD 3)) :
    Calls Try.prog 8 #[.pointer (some ⟨d, 0, none⟩), .int .i64 1] w fun e w' => ∃ c, e = .returned (.tuple #[.pointer (some ⟨c, 0, none⟩), .int .i64 0]) ∧ St (grow Fd w w') w' c d none (fun _ => 0) a0 ∧ Below w.heap.size w w' := by
  unfold a0
  exact newC_any (s := none) 1 w hD trivial (fun s h => by cases h) (fun g h => by cases h) (by decide) (by decide)
theorem new_d (w : World) : Calls Try.prog 7 #[.int .i64 3, .pointer none] w fun e w' => ∃ d, e = .returned (.tuple #[.pointer (some ⟨d, 0, none⟩), .int .i64 0]) ∧ Disk (grow (fun _ => False) w w') w' d none (freshD 3) ∧ Below w.heap.size w w' := newD_any 3 none w (by decide) (by decide)
theorem below_of {F : Nat → Prop} {w w2 w3 : World} (hB : Below w.heap.size w w2) (hF : ∀ j, F j → w.heap.size ≤ j) (hT : Turn (fun j => F j ∨ none = some j) w2 w3) : Below w.heap.size w w3 :=
  hB.trans (hT.below hB.size fun j hj e => by
    rcases e with e | e
    · have := hF j e; omega
    · cases e)
theorem grow_from {F : Nat → Prop} {w w2 w3 : World} (hB : Below w.heap.size w w2) (hF : ∀ j, F j → w.heap.size ≤ j) : ∀ j, grow F w2 w3 j → w.heap.size ≤ j := fun j hj => by
  have := hB.size
  rcases hj with hj | hj
  · exact hF j hj
  · omega
theorem var_at (W : World) {b : List Int} (hb : b.length = 64) : ∃ W', W' = (W.alloc (.cells (bytes zeroB).toArray 32)).setCells W.heap.size 0 (bytes b) ∧ Below W.heap.size W W' ∧ Var W' W.heap.size b := by
  refine ⟨_, rfl, ?_, (Var.new W zero_len).set hb⟩
  exact var_set_below ((Below.refl _ _).alloc (Nat.le_refl _) _) (Nat.le_refl _) (by simp) b
theorem read_bb {F : Nat → Prop} {c d : Nat} {hp : Int → Nat} (w : World) (h : St F w c d none hp a2) (bb : List Int) (hbb : bb = b7) :
    Calls Try.prog 15 #[.pointer (some ⟨d, 0, none⟩), .int .i64 0] w fun e w' => e = .returned (.tuple #[blkV bb, .int .i64 0]) ∧ Below w.heap.size w w' := by
  rw [hbb]; exact read_a2 w h
theorem St.below {F : Nat → Prop} {w w' : World} {c d : Nat} {hp : Int → Nat} {a : CA} (h : St F w c d none hp a) (hb : Below w.heap.size w w') : St F w' c d none hp a := h.turn (S := fun _ => False) (Turn.of_below hb) (fun _ _ => id) fun _ _ => id
set_option maxRecDepth 100000 in
set_option maxHeartbeats 1000000 in
theorem works_any (w : World) : Calls Try.prog 6 #[] w fun e w' => e = .returned (.bool true) ∧ Below w.heap.size w w' := by
  have H7 := Lib.hid (new_d w)
  go_enter Try.func6, Try.ntmps6
  go_wp2_with fail
  refine H7.out.mono ?_
  rintro e w1 ⟨d, rfl, hD1, hb1⟩
  have HN := Lib.hid (new_c w1 hD1)
  have HB1 := Lib.hid hb1
  have HF1 := Lib.hid (show ∀ j, grow (fun _ => False) w w1 j → w.heap.size ≤ j from fun j hj => hj.elim (fun h => h.elim) fun h => h.1)
  clear hD1 hb1 H7
  go_wp2_with fail
  refine HN.out.mono ?_
  rintro e w2 ⟨c, rfl, hS2, hb2⟩
  have HP := Lib.hid (put_a0 w2 hS2)
  have HF2 := Lib.hid (grow_from (w3 := w2) HB1.out HF1.out)
  have HB2 := Lib.hid (HB1.out.trans (hb2.mono HB1.out.size))
  clear hS2 hb2 HN HB1 HF1
  go_wp2_with fail
  refine HP.out.mono ?_
  rintro e w3 ⟨rfl, ⟨hp3, hS3⟩, hT3⟩
  have HG := Lib.hid (get_a1 w3 hS3)
  have HB3 := Lib.hid (below_of HB2.out HF2.out hT3)
  have HF3 := Lib.hid (grow_from (w3 := w3) HB2.out HF2.out)
  clear hS3 hT3 HP HB2 HF2
  go_wp2_with fail
  refine HG.out.mono ?_
  rintro e w4 ⟨gb, rfl, hgl, ⟨hp4, hS4⟩, hT4⟩
  have HB4 := Lib.hid (below_of HB3.out HF3.out hT4)
  have HF4 := Lib.hid (grow_from (w3 := w4) HB3.out HF3.out)
  have HS4 := Lib.hid hS4
  clear hS4 hT4 HG HB3 HF3
  go_upto_region 7 with (first | (refine wl_store32 (new_there _) hgl _ _ rfl rfl rfl rfl ?_))
  obtain ⟨w5, hw5, hb5, -⟩ := var_at w4 hgl
  change Code.wp _ _ _ _ (World.setCells (World.alloc w4 (.cells (bytes zeroB).toArray 32)) w4.heap.size 0 (bytes gb))
  rw [← hw5]
  have HS5 := Lib.hid (HS4.out.below hb5)
  have HB5 := Lib.hid (HB4.out.trans (hb5.mono HB4.out.size))
  obtain ⟨bb, hbb⟩ : ∃ bb, bb = b7 := ⟨_, rfl⟩
  have HRd := Lib.hid (read_bb w5 HS5.out bb hbb)
  have hbl : bb.length = 64 := by rw [hbb]; rfl
  have hbd : decide (bb = b7) = true := decide_eq_true hbb
  clear hbb
  clear hw5 hb5 HS4 HB4 HF4
  generalize grow (grow (grow (grow (fun x => False) w w1) w1 w2) w2 w3) w3 w4 = F at HS5
  go_wp2_with fail
  refine HRd.out.mono ?_
  rintro e w6 ⟨rfl, hb6⟩
  have HS6 := Lib.hid (HS5.out.below hb6)
  have HB6 := Lib.hid (HB5.out.trans (hb6.mono HB5.out.size))
  clear hb6 HRd HS5 HB5
  go_upto_region 8 with (first | (refine wl_store32 (new_there _) hbl _ _ rfl rfl rfl rfl ?_))
  obtain ⟨w7, hw7, hb7, hv7⟩ := var_at w6 hbl
  change Code.wp _ _ _ _ (World.setCells (World.alloc w6 (.cells (bytes zeroB).toArray 32)) w6.heap.size 0 (bytes bb))
  rw [← hw7]
  have HS7 := Lib.hid (HS6.out.below hb7)
  have HB7 := Lib.hid (HB6.out.trans (hb7.mono HB6.out.size))
  have HRg := Lib.hid hv7.range
  have HHl := Lib.hid (held_a2 w7 HS7.out)
  clear hw7 hb7 hv7 HS6 HB6
  generalize w6.heap.size = g7 at *
  go_wp2_with (first | (refine wl_load32g HRg hbl _ rfl rfl rfl ?_) | (refine wl_eql32 (b := bb) (b' := b7) hbl b7_len _ _ rfl rfl rfl rfl ?_))
  refine HHl.out.mono ?_
  rintro e w8 ⟨v8, rfl, hv8, hb8⟩
  have HB8 := Lib.hid (HB7.out.trans (hb8.mono HB7.out.size))
  have hs8 := HB8.out.size
  have hI8 : IRow (w8.alloc (.cells #[.int .i64 1] 3)) v8 [1] := hv8.keep fun j hj => Below.heap_alloc _ _ j (hv8.lt j hj)
  have hJ8 : IRow (w8.alloc (.cells #[.int .i64 1] 3)) (.slice (some ⟨w8.heap.size, 0, none⟩) 1 1) [1] := IRow.mk (l := [1]) (Blk.new _ _ _) rfl (Nat.le_refl _) (by unfold maxLen; omega) rfl
  have HSm := Lib.hid (sameInts_any _ _ [1] [1] _ hI8 hJ8)
  have HB9 := Lib.hid (HB8.out.alloc hs8 (.cells #[.int .i64 1] 3))
  clear hv8 hb8 hI8 hJ8 HHl HS7 HB7 HB8
  go_wp2_with fail
  refine HSm.out.mono ?_
  rintro e w9 ⟨rfl, n, rfl⟩
  have HB10 := Lib.hid (bel_drawn HB9.out n)
  clear HB9 HSm
  go_wp2
  go_ret
  exact ⟨by first | rfl | simp, HB10.out⟩
end Go.Proofs.Ytnbppfhnagacfaa
