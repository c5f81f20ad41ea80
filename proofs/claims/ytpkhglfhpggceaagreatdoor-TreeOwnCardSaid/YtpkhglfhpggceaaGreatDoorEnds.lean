/- What package tree does to memory: ends (printed by genends.py). -/
import Derived.Test.YtpkhglfhpggceaaGreatDoorOver
namespace Go.Proofs.YtpkhglfhpggceaaGreatDoor
set_option maxRecDepth 100000
set_option maxHeartbeats 16000000
open Go.RowKit
set_option linter.unusedVariables false
set_option linter.unusedSimpArgs false

/-- Both ends of a rename, or an error. -/
def EndsPost (a : TS) (o : OpT) (w : World) (e : Ending) (w' : World) : Prop :=
 (∃ (i1 i2 j1 j2 : Int) (s1 s2 : ByteArray), e = .returned (.tuple #[.agg #[.int .i64 i1, .string s1, .int .i64 j1], .agg #[.int .i64 i2, .string s2, .int .i64 j2], .int .i64 (a.endsE o)]) ∧
  (a.endsE o = 0 → i1 = ((a.par o.path 51).1 : Nat) ∧ s1 = nameN o.path ∧ j1 = (a.find (a.par o.path 51).1 (nameN o.path) : Nat) ∧ i2 = ((a.par o.to 51).1 : Nat) ∧ s2 = nameN o.to ∧ j2 = (a.find (a.par o.to 51).1 (nameN o.to) : Nat))) ∧ Below w.heap.size w w'
theorem spot_form (a : TS) (p : ByteArray) (alone : Int) : ∃ (i j : Int) (s : ByteArray), a.spot p alone = .agg #[.int .i64 i, .string s, .int .i64 j] ∧ ((a.par p alone).2 = 0 → i = ((a.par p alone).1 : Nat) ∧ s = nameN p ∧ j = (a.find (a.par p alone).1 (nameN p) : Nat)) := by
 unfold TS.spot
 split
 ·exact ⟨_, _, _, rfl, fun _ => ⟨rfl, rfl, rfl⟩⟩
 ·rename_i h
  exact ⟨0, 0, ⟨#[]⟩, rfl, fun x => absurd x h⟩
theorem psplit_mx (p : ByteArray) (w : World) (hs : p.size ≤ 100000) (hm : ∃ m, w.cell? ⟨0, 0, none⟩ = some (.int .i64 m)) : Calls Tryz.prog 18 #[.string p] w (PSplitPost p w) := by
 obtain ⟨m, hm⟩ := hm
 exact psplit_any p w m hs hm
theorem start_below (w : World) (o1 o2 o3 o4 o5 : Obj) : Below w.heap.size w (((((w.alloc o1).alloc o2).alloc o3).alloc o4).alloc o5) := by
 have h1 := (Below.refl w.heap.size w).alloc (Nat.le_refl _) o1
 have h2 := h1.alloc h1.size o2
 have h3 := h2.alloc h2.size o3
 have h4 := h3.alloc h3.size o4
 exact h4.alloc h4.size o5
theorem drew_below {w : World} : Below w.heap.size w w.drew := ⟨rfl, rfl, rfl, Nat.le_refl _, fun _ _ => rfl⟩
theorem drew_below' {B : Nat} {w : World} : Below B w w.drew := ⟨rfl, rfl, rfl, Nat.le_refl _, fun _ _ => rfl⟩
section
variable {F : Nat → Prop} {w w' : World} {t c : Nat} {M : TMem} {a : TS}
theorem ends_any (o : OpT) (A : Option Addr) (n cap : Nat) (w : World) (h : TreeIs F w t M c a) (hg : Good a c) (hc : c ≤ 100000) (hp : o.path.size ≤ 1000) (hp2 : o.to.size ≤ 1000) :
  Calls Tryz.prog 71 #[.pointer (some ⟨t, 0, none⟩), o.val A n cap] w (EndsPost a o w) := by
 unfold OpT.val
 have hS1 := Lib.hid (fun W hm => psplit_mx o.path W (by omega) hm)
 have hS2 := Lib.hid (fun W hm => psplit_mx o.to W (by omega) hm)
 have hP := Lib.hid (fun W (h : TreeIs F W t M c a) => parent_any o.path 51 W h hg hc hp (by decide))
 have hP2 := Lib.hid (fun W (h : TreeIs F W t M c a) => parent_any o.to 51 W h hg hc hp2 (by decide))
 have HT := Lib.hid h
 have HG := Lib.hid hg
 have HH := Lib.hid (fun W (hb : Below w.heap.size w W) => h.below hb)
 clear h hg
 by_cases h1 : (splitN o.path).2 = 0
 ·have HE1 := Lib.hid h1
  have hA1 : a.endsE o = if (splitN o.to).2 ≠ 0 then (splitN o.to).2 else if (splitN o.path).1.length = 0 ∨ (splitN o.to).1.length = 0 then 51 else if (a.par o.path 51).2 ≠ 0 then (a.par o.path 51).2 else if a.find (a.par o.path 51).1 (nameN o.path) = 0 then 40 else if (a.nd (a.find (a.par o.path 51).1 (nameN o.path))).kind = 2 ∧ insideB (splitN o.path).1 (splitN o.to).1 = true then 49 else (a.par o.to 51).2 := by unfold TS.endsE; rw [if_neg fun x => x h1]
  clear h1
  by_cases h2 : (splitN o.to).2 = 0
  ·have HE2 := Lib.hid h2
   rw [if_neg fun x => x h2] at hA1
   clear h2
   by_cases h3 : (splitN o.path).1.length = 0 ∨ (splitN o.to).1.length = 0
   ·have HR := Lib.hid (show a.endsE o = 51 by rw [hA1, if_pos h3])
    clear hA1
    by_cases h4 : (splitN o.path).1.length = 0
    ·have t4 : ((((splitN o.path).1.length : Nat) : Int) == 0) = true := by simp [h4]
     clear h3 h4
     go_enter Tryz.func71, Tryz.ntmps71
     go_wp2_with fail
     refine (hS1.out _ (HH.out _ (start_below _ _ _ _ _ _)).mx).mono ?_
     rintro e w1 ⟨v, rfl, hv, hb⟩
     obtain ⟨A1, cc1, rfl, hx1⟩ := hv
     have HO1 := Lib.hid ((EO.start w (oc o A n cap)).below hb)
     have HB1 := Lib.hid ((start_below _ _ _ _ _ _).trans (hb.mono (start_below _ _ _ _ _ _).size))
     have HV1 := Lib.hid (show Texts (w.heap.size + 1 + 1 + 1 + 1 + 1) w1 (.slice A1 (splitN o.path).1.length cc1) (splitN o.path).1 from Texts.mono ⟨A1, cc1, rfl, hx1⟩ (by simp))
     clear hx1 hb
     rw [HE1.out]
     have pA := (HO1.out).b0.cell 1
     have pB := (HO1.out).b0.cell 2
     have u0 := (HO1.out).b1.cf3
     have u3 := (HO1.out).b2.cf3
     have u6 := (HO1.out).b3.cf3
     have u9 := (HO1.out).b4.cf3
     simp at pA pB
     have l0 := (HO1.out).b0.lt
     have l1 := (HO1.out).b1.lt
     have l2 := (HO1.out).b2.lt
     have l3 := (HO1.out).b3.lt
     have l4 := (HO1.out).b4.lt
     go_wp2_with fail
     clear pA pB u0 u3 u6 u9 l0 l1 l2 l3 l4
     refine (hS2.out _ (HH.out _ HB1.out).mx).mono ?_
     rintro e w2 ⟨v, rfl, hv, hb⟩
     obtain ⟨A2, cc2, rfl, hx2⟩ := hv
     have HO2 := Lib.hid (HO1.out.below hb)
     have HB2 := Lib.hid (HB1.out.trans (hb.mono HB1.out.size))
     have HW1 := Lib.hid (HV1.out.below hb)
     have HW2 := Lib.hid (show Texts (w.heap.size + 1 + 1 + 1 + 1 + 1) w2 (.slice A2 (splitN o.to).1.length cc2) (splitN o.to).1 from Texts.mono ⟨A2, cc2, rfl, hx2⟩ (Nat.succ_le_of_lt HO1.out.b4.lt))
     clear hx2 hb
     rw [HE2.out]
     have pA := (HO2.out).b0.cell 1
     have pB := (HO2.out).b0.cell 2
     have u0 := (HO2.out).b1.cf3
     have u3 := (HO2.out).b2.cf3
     have u6 := (HO2.out).b3.cf3
     have u9 := (HO2.out).b4.cf3
     simp at pA pB
     have l0 := (HO2.out).b0.lt
     have l1 := (HO2.out).b1.lt
     have l2 := (HO2.out).b2.lt
     have l3 := (HO2.out).b3.lt
     have l4 := (HO2.out).b4.lt
     go_wp2_with fail
     clear pA pB u0 u3 u6 u9 l0 l1 l2 l3 l4
     have pA := (HO2.out).b0.cell 1
     have pB := (HO2.out).b0.cell 2
     have u0 := (HO2.out).b1.cf3
     have u3 := (HO2.out).b2.cf3
     have u6 := (HO2.out).b3.cf3
     have u9 := (HO2.out).b4.cf3
     simp at pA pB
     have l0 := (HO2.out).b0.lt
     have l1 := (HO2.out).b1.lt
     have l2 := (HO2.out).b2.lt
     have l3 := (HO2.out).b3.lt
     have l4 := (HO2.out).b4.lt
     go_region
     clear pA pB u0 u3 u6 u9 l0 l1 l2 l3 l4
     have f1 := (((((((HO2.out).b1.set_ 0 (.int .i64 0)).set_ 1 (.string ⟨#[]⟩)).set_ 2 (.int .i64 0)).far (p := ⟨w.heap.size + 1 + 1, 0, none⟩) (show w.heap.size + 1 ≠ w.heap.size + 1 + 1 by omega) (.int .i64 0)).far (p := ⟨w.heap.size + 1 + 1, 1, none⟩) (show w.heap.size + 1 ≠ w.heap.size + 1 + 1 by omega) (.string ⟨#[]⟩)).far (p := ⟨w.heap.size + 1 + 1, 2, none⟩) (show w.heap.size + 1 ≠ w.heap.size + 1 + 1 by omega) (.int .i64 0)).drew
     have f2 := (((((((HO2.out).b2.far (p := ⟨w.heap.size + 1, 0, none⟩) (show w.heap.size + 1 + 1 ≠ w.heap.size + 1 by omega) (.int .i64 0)).far (p := ⟨w.heap.size + 1, 1, none⟩) (show w.heap.size + 1 + 1 ≠ w.heap.size + 1 by omega) (.string ⟨#[]⟩)).far (p := ⟨w.heap.size + 1, 2, none⟩) (show w.heap.size + 1 + 1 ≠ w.heap.size + 1 by omega) (.int .i64 0)).set_ 0 (.int .i64 0)).set_ 1 (.string ⟨#[]⟩)).set_ 2 (.int .i64 0)).drew
     have HBF := Lib.hid ((below_set (p := ⟨w.heap.size + 1 + 1, 2, none⟩) (below_set (p := ⟨w.heap.size + 1 + 1, 1, none⟩) (below_set (p := ⟨w.heap.size + 1 + 1, 0, none⟩) (below_set (p := ⟨w.heap.size + 1, 2, none⟩) (below_set (p := ⟨w.heap.size + 1, 1, none⟩) (below_set (p := ⟨w.heap.size + 1, 0, none⟩) HB2.out (show w.heap.size ≤ w.heap.size + 1 by omega) (.int .i64 0)) (show w.heap.size ≤ w.heap.size + 1 by omega) (.string ⟨#[]⟩)) (show w.heap.size ≤ w.heap.size + 1 by omega) (.int .i64 0)) (show w.heap.size ≤ w.heap.size + 1 + 1 by omega) (.int .i64 0)) (show w.heap.size ≤ w.heap.size + 1 + 1 by omega) (.string ⟨#[]⟩)) (show w.heap.size ≤ w.heap.size + 1 + 1 by omega) (.int .i64 0)).trans drew_below')
     generalize ((((((w2.setCell ⟨w.heap.size + 1, 0, none⟩ (.int .i64 0)).setCell ⟨w.heap.size + 1, 1, none⟩ (.string ⟨#[]⟩)).setCell ⟨w.heap.size + 1, 2, none⟩ (.int .i64 0)).setCell ⟨w.heap.size + 1 + 1, 0, none⟩ (.int .i64 0)).setCell ⟨w.heap.size + 1 + 1, 1, none⟩ (.string ⟨#[]⟩)).setCell ⟨w.heap.size + 1 + 1, 2, none⟩ (.int .i64 0)).drew = w9 at *
     have g10 := f1.c3
     have g20 := f2.c3
     clear f1 f2
     go_wp2
     exact bodyPost_ret (v := .tuple #[.agg #[.int .i64 0, .string ⟨#[]⟩, .int .i64 0], .agg #[.int .i64 0, .string ⟨#[]⟩, .int .i64 0], .int .i64 51]) (by simp [results, Tryz.results71, go_sem, g10, g20]) rfl ⟨⟨_, _, _, _, _, _, by rw [HR.out], fun x => absurd (HR.out.symm.trans x) (by decide)⟩, HBF.out⟩
    ·have t4 : ((((splitN o.path).1.length : Nat) : Int) == 0) = false := beq_eq_false_iff_ne.2 (by omega)
     have t5 : ((((splitN o.to).1.length : Nat) : Int) == 0) = true := by simp [h3.resolve_left h4]
     clear h3 h4
     go_enter Tryz.func71, Tryz.ntmps71
     go_wp2_with fail
     refine (hS1.out _ (HH.out _ (start_below _ _ _ _ _ _)).mx).mono ?_
     rintro e w1 ⟨v, rfl, hv, hb⟩
     obtain ⟨A1, cc1, rfl, hx1⟩ := hv
     have HO1 := Lib.hid ((EO.start w (oc o A n cap)).below hb)
     have HB1 := Lib.hid ((start_below _ _ _ _ _ _).trans (hb.mono (start_below _ _ _ _ _ _).size))
     have HV1 := Lib.hid (show Texts (w.heap.size + 1 + 1 + 1 + 1 + 1) w1 (.slice A1 (splitN o.path).1.length cc1) (splitN o.path).1 from Texts.mono ⟨A1, cc1, rfl, hx1⟩ (by simp))
     clear hx1 hb
     rw [HE1.out]
     have pA := (HO1.out).b0.cell 1
     have pB := (HO1.out).b0.cell 2
     have u0 := (HO1.out).b1.cf3
     have u3 := (HO1.out).b2.cf3
     have u6 := (HO1.out).b3.cf3
     have u9 := (HO1.out).b4.cf3
     simp at pA pB
     have l0 := (HO1.out).b0.lt
     have l1 := (HO1.out).b1.lt
     have l2 := (HO1.out).b2.lt
     have l3 := (HO1.out).b3.lt
     have l4 := (HO1.out).b4.lt
     go_wp2_with fail
     clear pA pB u0 u3 u6 u9 l0 l1 l2 l3 l4
     refine (hS2.out _ (HH.out _ HB1.out).mx).mono ?_
     rintro e w2 ⟨v, rfl, hv, hb⟩
     obtain ⟨A2, cc2, rfl, hx2⟩ := hv
     have HO2 := Lib.hid (HO1.out.below hb)
     have HB2 := Lib.hid (HB1.out.trans (hb.mono HB1.out.size))
     have HW1 := Lib.hid (HV1.out.below hb)
     have HW2 := Lib.hid (show Texts (w.heap.size + 1 + 1 + 1 + 1 + 1) w2 (.slice A2 (splitN o.to).1.length cc2) (splitN o.to).1 from Texts.mono ⟨A2, cc2, rfl, hx2⟩ (Nat.succ_le_of_lt HO1.out.b4.lt))
     clear hx2 hb
     rw [HE2.out]
     have pA := (HO2.out).b0.cell 1
     have pB := (HO2.out).b0.cell 2
     have u0 := (HO2.out).b1.cf3
     have u3 := (HO2.out).b2.cf3
     have u6 := (HO2.out).b3.cf3
     have u9 := (HO2.out).b4.cf3
     simp at pA pB
     have l0 := (HO2.out).b0.lt
     have l1 := (HO2.out).b1.lt
     have l2 := (HO2.out).b2.lt
     have l3 := (HO2.out).b3.lt
     have l4 := (HO2.out).b4.lt
     go_wp2_with fail
     clear pA pB u0 u3 u6 u9 l0 l1 l2 l3 l4
     have pA := (HO2.out).b0.cell 1
     have pB := (HO2.out).b0.cell 2
     have u0 := (HO2.out).b1.cf3
     have u3 := (HO2.out).b2.cf3
     have u6 := (HO2.out).b3.cf3
     have u9 := (HO2.out).b4.cf3
     simp at pA pB
     have l0 := (HO2.out).b0.lt
     have l1 := (HO2.out).b1.lt
     have l2 := (HO2.out).b2.lt
     have l3 := (HO2.out).b3.lt
     have l4 := (HO2.out).b4.lt
     go_region
     clear pA pB u0 u3 u6 u9 l0 l1 l2 l3 l4
     have f1 := (((((((HO2.out).b1.set_ 0 (.int .i64 0)).set_ 1 (.string ⟨#[]⟩)).set_ 2 (.int .i64 0)).far (p := ⟨w.heap.size + 1 + 1, 0, none⟩) (show w.heap.size + 1 ≠ w.heap.size + 1 + 1 by omega) (.int .i64 0)).far (p := ⟨w.heap.size + 1 + 1, 1, none⟩) (show w.heap.size + 1 ≠ w.heap.size + 1 + 1 by omega) (.string ⟨#[]⟩)).far (p := ⟨w.heap.size + 1 + 1, 2, none⟩) (show w.heap.size + 1 ≠ w.heap.size + 1 + 1 by omega) (.int .i64 0)).drew
     have f2 := (((((((HO2.out).b2.far (p := ⟨w.heap.size + 1, 0, none⟩) (show w.heap.size + 1 + 1 ≠ w.heap.size + 1 by omega) (.int .i64 0)).far (p := ⟨w.heap.size + 1, 1, none⟩) (show w.heap.size + 1 + 1 ≠ w.heap.size + 1 by omega) (.string ⟨#[]⟩)).far (p := ⟨w.heap.size + 1, 2, none⟩) (show w.heap.size + 1 + 1 ≠ w.heap.size + 1 by omega) (.int .i64 0)).set_ 0 (.int .i64 0)).set_ 1 (.string ⟨#[]⟩)).set_ 2 (.int .i64 0)).drew
     have HBF := Lib.hid ((below_set (p := ⟨w.heap.size + 1 + 1, 2, none⟩) (below_set (p := ⟨w.heap.size + 1 + 1, 1, none⟩) (below_set (p := ⟨w.heap.size + 1 + 1, 0, none⟩) (below_set (p := ⟨w.heap.size + 1, 2, none⟩) (below_set (p := ⟨w.heap.size + 1, 1, none⟩) (below_set (p := ⟨w.heap.size + 1, 0, none⟩) HB2.out (show w.heap.size ≤ w.heap.size + 1 by omega) (.int .i64 0)) (show w.heap.size ≤ w.heap.size + 1 by omega) (.string ⟨#[]⟩)) (show w.heap.size ≤ w.heap.size + 1 by omega) (.int .i64 0)) (show w.heap.size ≤ w.heap.size + 1 + 1 by omega) (.int .i64 0)) (show w.heap.size ≤ w.heap.size + 1 + 1 by omega) (.string ⟨#[]⟩)) (show w.heap.size ≤ w.heap.size + 1 + 1 by omega) (.int .i64 0)).trans drew_below')
     generalize ((((((w2.setCell ⟨w.heap.size + 1, 0, none⟩ (.int .i64 0)).setCell ⟨w.heap.size + 1, 1, none⟩ (.string ⟨#[]⟩)).setCell ⟨w.heap.size + 1, 2, none⟩ (.int .i64 0)).setCell ⟨w.heap.size + 1 + 1, 0, none⟩ (.int .i64 0)).setCell ⟨w.heap.size + 1 + 1, 1, none⟩ (.string ⟨#[]⟩)).setCell ⟨w.heap.size + 1 + 1, 2, none⟩ (.int .i64 0)).drew = w9 at *
     have g10 := f1.c3
     have g20 := f2.c3
     clear f1 f2
     go_wp2
     exact bodyPost_ret (v := .tuple #[.agg #[.int .i64 0, .string ⟨#[]⟩, .int .i64 0], .agg #[.int .i64 0, .string ⟨#[]⟩, .int .i64 0], .int .i64 51]) (by simp [results, Tryz.results71, go_sem, g10, g20]) rfl ⟨⟨_, _, _, _, _, _, by rw [HR.out], fun x => absurd (HR.out.symm.trans x) (by decide)⟩, HBF.out⟩
   ·rw [if_neg h3] at hA1
    have t4 : ((((splitN o.path).1.length : Nat) : Int) == 0) = false := beq_eq_false_iff_ne.2 (fun x => h3 (.inl (by omega)))
    have t5 : ((((splitN o.to).1.length : Nat) : Int) == 0) = false := beq_eq_false_iff_ne.2 (fun x => h3 (.inr (by omega)))
    clear h3
    by_cases h5 : (a.par o.path 51).2 = 0
    ·rw [if_neg fun x => x h5] at hA1
     obtain ⟨d, hd⟩ : ∃ d, a.par o.path 51 = (d, 0) := ⟨(a.par o.path 51).1, by rw [← h5]⟩
     have HS := Lib.hid (spot_ok hd)
     have HPE := Lib.hid h5
     rw [hd] at hA1
     have hA2 : a.endsE o = if findL (a.nd d).names (nameN o.path) = 0 then 40 else if (a.nd (findL (a.nd d).names (nameN o.path))).kind = 2 ∧ insideB (splitN o.path).1 (splitN o.to).1 = true then 49 else (a.par o.to 51).2 := hA1
     have hQ1 : ((d : Nat) : Int) = ((a.par o.path 51).1 : Nat) ∧ nameN o.path = nameN o.path ∧ ((findL (a.nd d).names (nameN o.path) : Nat) : Int) = (a.find (a.par o.path 51).1 (nameN o.path) : Nat) := by rw [hd]; exact ⟨rfl, rfl, rfl⟩
     clear hA1 hd h5
     by_cases hz : findL (a.nd d).names (nameN o.path) = 0
     ·have HR := Lib.hid (show a.endsE o = 40 by rw [hA2, if_pos hz])
      have HZ := Lib.hid hz
      clear hA2 hz hQ1
      go_enter Tryz.func71, Tryz.ntmps71
      go_wp2_with fail
      refine (hS1.out _ (HH.out _ (start_below _ _ _ _ _ _)).mx).mono ?_
      rintro e w1 ⟨v, rfl, hv, hb⟩
      obtain ⟨A1, cc1, rfl, hx1⟩ := hv
      have HO1 := Lib.hid ((EO.start w (oc o A n cap)).below hb)
      have HB1 := Lib.hid ((start_below _ _ _ _ _ _).trans (hb.mono (start_below _ _ _ _ _ _).size))
      have HV1 := Lib.hid (show Texts (w.heap.size + 1 + 1 + 1 + 1 + 1) w1 (.slice A1 (splitN o.path).1.length cc1) (splitN o.path).1 from Texts.mono ⟨A1, cc1, rfl, hx1⟩ (by simp))
      clear hx1 hb
      rw [HE1.out]
      have pA := (HO1.out).b0.cell 1
      have pB := (HO1.out).b0.cell 2
      have u0 := (HO1.out).b1.cf3
      have u3 := (HO1.out).b2.cf3
      have u6 := (HO1.out).b3.cf3
      have u9 := (HO1.out).b4.cf3
      simp at pA pB
      have l0 := (HO1.out).b0.lt
      have l1 := (HO1.out).b1.lt
      have l2 := (HO1.out).b2.lt
      have l3 := (HO1.out).b3.lt
      have l4 := (HO1.out).b4.lt
      go_wp2_with fail
      clear pA pB u0 u3 u6 u9 l0 l1 l2 l3 l4
      refine (hS2.out _ (HH.out _ HB1.out).mx).mono ?_
      rintro e w2 ⟨v, rfl, hv, hb⟩
      obtain ⟨A2, cc2, rfl, hx2⟩ := hv
      have HO2 := Lib.hid (HO1.out.below hb)
      have HB2 := Lib.hid (HB1.out.trans (hb.mono HB1.out.size))
      have HW1 := Lib.hid (HV1.out.below hb)
      have HW2 := Lib.hid (show Texts (w.heap.size + 1 + 1 + 1 + 1 + 1) w2 (.slice A2 (splitN o.to).1.length cc2) (splitN o.to).1 from Texts.mono ⟨A2, cc2, rfl, hx2⟩ (Nat.succ_le_of_lt HO1.out.b4.lt))
      clear hx2 hb
      rw [HE2.out]
      have pA := (HO2.out).b0.cell 1
      have pB := (HO2.out).b0.cell 2
      have u0 := (HO2.out).b1.cf3
      have u3 := (HO2.out).b2.cf3
      have u6 := (HO2.out).b3.cf3
      have u9 := (HO2.out).b4.cf3
      simp at pA pB
      have l0 := (HO2.out).b0.lt
      have l1 := (HO2.out).b1.lt
      have l2 := (HO2.out).b2.lt
      have l3 := (HO2.out).b3.lt
      have l4 := (HO2.out).b4.lt
      go_wp2_with fail
      clear pA pB u0 u3 u6 u9 l0 l1 l2 l3 l4
      refine (hP.out _ (HH.out _ HB2.out)).mono ?_
      rintro e w3 ⟨rfl, hb⟩
      rw [HS.out, HPE.out]
      have HO3 := Lib.hid (HO2.out.below hb)
      have HB3 := Lib.hid (HB2.out.trans (hb.mono HB2.out.size))
      have HX1 := Lib.hid (HW1.out.below hb)
      have HX2 := Lib.hid (HW2.out.below hb)
      clear hb
      have pA := (HO3.out).b0.cell 1
      have pB := (HO3.out).b0.cell 2
      have u0 := (HO3.out).b1.cf3
      have u3 := (HO3.out).b2.cf3
      have u6 := (HO3.out).b3.cf3
      have u9 := (HO3.out).b4.cf3
      simp at pA pB
      have l0 := (HO3.out).b0.lt
      have l1 := (HO3.out).b1.lt
      have l2 := (HO3.out).b2.lt
      have l3 := (HO3.out).b3.lt
      have l4 := (HO3.out).b4.lt
      rw [HZ.out]
      go_wp2_with fail
      clear pA pB u0 u3 u6 u9 l0 l1 l2 l3 l4
      have HO4 : Hid (EO (((w3.setCell ⟨w.heap.size + 1 + 1 + 1, 0, none⟩ (.int .i64 (d : Nat))).setCell ⟨w.heap.size + 1 + 1 + 1, 1, none⟩ (.string (nameN o.path))).setCell ⟨w.heap.size + 1 + 1 + 1, 2, none⟩ (.int .i64 0)) w.heap.size (oc o A n cap) #[.int .i64 (d : Nat), .string (nameN o.path), .int .i64 0] #[.int .i64 0, .string ⟨#[]⟩, .int .i64 0]) := Lib.hid ⟨(((HO3.out.b0.far (p := ⟨w.heap.size + 1 + 1 + 1, 0, none⟩) (show w.heap.size ≠ w.heap.size + 1 + 1 + 1 by omega) (.int .i64 (d : Nat))).far (p := ⟨w.heap.size + 1 + 1 + 1, 1, none⟩) (show w.heap.size ≠ w.heap.size + 1 + 1 + 1 by omega) (.string (nameN o.path))).far (p := ⟨w.heap.size + 1 + 1 + 1, 2, none⟩) (show w.heap.size ≠ w.heap.size + 1 + 1 + 1 by omega) (.int .i64 0)), (((HO3.out.b1.far (p := ⟨w.heap.size + 1 + 1 + 1, 0, none⟩) (show w.heap.size + 1 ≠ w.heap.size + 1 + 1 + 1 by omega) (.int .i64 (d : Nat))).far (p := ⟨w.heap.size + 1 + 1 + 1, 1, none⟩) (show w.heap.size + 1 ≠ w.heap.size + 1 + 1 + 1 by omega) (.string (nameN o.path))).far (p := ⟨w.heap.size + 1 + 1 + 1, 2, none⟩) (show w.heap.size + 1 ≠ w.heap.size + 1 + 1 + 1 by omega) (.int .i64 0)), (((HO3.out.b2.far (p := ⟨w.heap.size + 1 + 1 + 1, 0, none⟩) (show w.heap.size + 1 + 1 ≠ w.heap.size + 1 + 1 + 1 by omega) (.int .i64 (d : Nat))).far (p := ⟨w.heap.size + 1 + 1 + 1, 1, none⟩) (show w.heap.size + 1 + 1 ≠ w.heap.size + 1 + 1 + 1 by omega) (.string (nameN o.path))).far (p := ⟨w.heap.size + 1 + 1 + 1, 2, none⟩) (show w.heap.size + 1 + 1 ≠ w.heap.size + 1 + 1 + 1 by omega) (.int .i64 0)), (((HO3.out.b3.set_ 0 (.int .i64 (d : Nat))).set_ 1 (.string (nameN o.path))).set_ 2 (.int .i64 0)), (((HO3.out.b4.far (p := ⟨w.heap.size + 1 + 1 + 1, 0, none⟩) (show w.heap.size + 1 + 1 + 1 + 1 ≠ w.heap.size + 1 + 1 + 1 by omega) (.int .i64 (d : Nat))).far (p := ⟨w.heap.size + 1 + 1 + 1, 1, none⟩) (show w.heap.size + 1 + 1 + 1 + 1 ≠ w.heap.size + 1 + 1 + 1 by omega) (.string (nameN o.path))).far (p := ⟨w.heap.size + 1 + 1 + 1, 2, none⟩) (show w.heap.size + 1 + 1 + 1 + 1 ≠ w.heap.size + 1 + 1 + 1 by omega) (.int .i64 0))⟩
      have HB4 := Lib.hid (below_set (p := ⟨w.heap.size + 1 + 1 + 1, 2, none⟩) (below_set (p := ⟨w.heap.size + 1 + 1 + 1, 1, none⟩) (below_set (p := ⟨w.heap.size + 1 + 1 + 1, 0, none⟩) HB3.out (show w.heap.size ≤ w.heap.size + 1 + 1 + 1 by omega) (.int .i64 (d : Nat))) (show w.heap.size ≤ w.heap.size + 1 + 1 + 1 by omega) (.string (nameN o.path))) (show w.heap.size ≤ w.heap.size + 1 + 1 + 1 by omega) (.int .i64 0))
      have hT4 := (((Turn.refl (· = w.heap.size + 1 + 1 + 1) w3).setCell (p := ⟨w.heap.size + 1 + 1 + 1, 0, none⟩) (fun _ => rfl) (.int .i64 (d : Nat))).setCell (p := ⟨w.heap.size + 1 + 1 + 1, 1, none⟩) (fun _ => rfl) (.string (nameN o.path))).setCell (p := ⟨w.heap.size + 1 + 1 + 1, 2, none⟩) (fun _ => rfl) (.int .i64 0)
      have HY1 := Lib.hid (HX1.out.turn hT4 fun k hk e => by omega)
      have HY2 := Lib.hid (HX2.out.turn hT4 fun k hk e => by omega)
      clear hT4
      generalize (((w3.setCell ⟨w.heap.size + 1 + 1 + 1, 0, none⟩ (.int .i64 (d : Nat))).setCell ⟨w.heap.size + 1 + 1 + 1, 1, none⟩ (.string (nameN o.path))).setCell ⟨w.heap.size + 1 + 1 + 1, 2, none⟩ (.int .i64 0)) = w4 at *
      have pA := (HO4.out).b0.cell 1
      have pB := (HO4.out).b0.cell 2
      have u0 := (HO4.out).b1.cf3
      have u3 := (HO4.out).b2.cf3
      have u6 := (HO4.out).b3.cf3
      have u9 := (HO4.out).b4.cf3
      simp at pA pB
      have l0 := (HO4.out).b0.lt
      have l1 := (HO4.out).b1.lt
      have l2 := (HO4.out).b2.lt
      have l3 := (HO4.out).b3.lt
      have l4 := (HO4.out).b4.lt
      go_region
      clear pA pB u0 u3 u6 u9 l0 l1 l2 l3 l4
      have f1 := (((((((HO4.out).b1.set_ 0 (.int .i64 (d : Nat))).set_ 1 (.string (nameN o.path))).set_ 2 (.int .i64 0)).far (p := ⟨w.heap.size + 1 + 1, 0, none⟩) (show w.heap.size + 1 ≠ w.heap.size + 1 + 1 by omega) (.int .i64 0)).far (p := ⟨w.heap.size + 1 + 1, 1, none⟩) (show w.heap.size + 1 ≠ w.heap.size + 1 + 1 by omega) (.string ⟨#[]⟩)).far (p := ⟨w.heap.size + 1 + 1, 2, none⟩) (show w.heap.size + 1 ≠ w.heap.size + 1 + 1 by omega) (.int .i64 0)).drew
      have f2 := (((((((HO4.out).b2.far (p := ⟨w.heap.size + 1, 0, none⟩) (show w.heap.size + 1 + 1 ≠ w.heap.size + 1 by omega) (.int .i64 (d : Nat))).far (p := ⟨w.heap.size + 1, 1, none⟩) (show w.heap.size + 1 + 1 ≠ w.heap.size + 1 by omega) (.string (nameN o.path))).far (p := ⟨w.heap.size + 1, 2, none⟩) (show w.heap.size + 1 + 1 ≠ w.heap.size + 1 by omega) (.int .i64 0)).set_ 0 (.int .i64 0)).set_ 1 (.string ⟨#[]⟩)).set_ 2 (.int .i64 0)).drew
      have HBF := Lib.hid ((below_set (p := ⟨w.heap.size + 1 + 1, 2, none⟩) (below_set (p := ⟨w.heap.size + 1 + 1, 1, none⟩) (below_set (p := ⟨w.heap.size + 1 + 1, 0, none⟩) (below_set (p := ⟨w.heap.size + 1, 2, none⟩) (below_set (p := ⟨w.heap.size + 1, 1, none⟩) (below_set (p := ⟨w.heap.size + 1, 0, none⟩) HB4.out (show w.heap.size ≤ w.heap.size + 1 by omega) (.int .i64 (d : Nat))) (show w.heap.size ≤ w.heap.size + 1 by omega) (.string (nameN o.path))) (show w.heap.size ≤ w.heap.size + 1 by omega) (.int .i64 0)) (show w.heap.size ≤ w.heap.size + 1 + 1 by omega) (.int .i64 0)) (show w.heap.size ≤ w.heap.size + 1 + 1 by omega) (.string ⟨#[]⟩)) (show w.heap.size ≤ w.heap.size + 1 + 1 by omega) (.int .i64 0)).trans drew_below')
      generalize ((((((w4.setCell ⟨w.heap.size + 1, 0, none⟩ (.int .i64 (d : Nat))).setCell ⟨w.heap.size + 1, 1, none⟩ (.string (nameN o.path))).setCell ⟨w.heap.size + 1, 2, none⟩ (.int .i64 0)).setCell ⟨w.heap.size + 1 + 1, 0, none⟩ (.int .i64 0)).setCell ⟨w.heap.size + 1 + 1, 1, none⟩ (.string ⟨#[]⟩)).setCell ⟨w.heap.size + 1 + 1, 2, none⟩ (.int .i64 0)).drew = w9 at *
      have g10 := f1.c3
      have g20 := f2.c3
      clear f1 f2
      go_wp2
      exact bodyPost_ret (v := .tuple #[.agg #[.int .i64 (d : Nat), .string (nameN o.path), .int .i64 0], .agg #[.int .i64 0, .string ⟨#[]⟩, .int .i64 0], .int .i64 40]) (by simp [results, Tryz.results71, go_sem, g10, g20]) rfl ⟨⟨_, _, _, _, _, _, by rw [HR.out], fun x => absurd (HR.out.symm.trans x) (by decide)⟩, HBF.out⟩
     ·rw [if_neg hz] at hA2
      have hlive := HG.out.find_live (d := d) (s := nameN o.path) hz
      have hbd := HG.out.in_last hlive
      have hfew := HG.out.few
      have hI : a.find d (nameN o.path) = findL (a.nd d).names (nameN o.path) := rfl
      rw [hI] at hlive hbd
      have HD := Lib.hid (fun W h => dir_any (F := F) (t := t) (c := c) (M := M) (a := a) (findL (a.nd d).names (nameN o.path)) W h hlive (by omega))
      have tz : (((findL (a.nd d).names (nameN o.path) : Nat) : Int) == 0) = false := beq_eq_false_iff_ne.2 (by omega)
      obtain ⟨i2, j2, s2, hs2, hq2⟩ := spot_form a o.to 51
      have HS2 := Lib.hid hs2
      have HQ2 := Lib.hid hq2
      have HQ1 := Lib.hid hQ1
      clear hs2 hq2 hI hbd hfew hlive hz hQ1
      generalize findL (a.nd d).names (nameN o.path) = id at *
      by_cases hk : (a.nd id).kind = 2
      ·rw [decide_eq_true hk] at HD
       have HIN := Lib.hid (fun W v1 v2 (h1 : Texts (w.heap.size + 1 + 1 + 1 + 1 + 1) W v1 (splitN o.path).1) (h2 : Texts (w.heap.size + 1 + 1 + 1 + 1 + 1) W v2 (splitN o.to).1) => inside_any v1 v2 _ _ W h1 h2)
       by_cases hi : insideB (splitN o.path).1 (splitN o.to).1 = true
       ·have HR := Lib.hid (show a.endsE o = 49 by rw [hA2, if_pos ⟨hk, hi⟩])
        have HI := Lib.hid hi
        clear hA2 hk hi
        go_enter Tryz.func71, Tryz.ntmps71
        go_wp2_with fail
        refine (hS1.out _ (HH.out _ (start_below _ _ _ _ _ _)).mx).mono ?_
        rintro e w1 ⟨v, rfl, hv, hb⟩
        obtain ⟨A1, cc1, rfl, hx1⟩ := hv
        have HO1 := Lib.hid ((EO.start w (oc o A n cap)).below hb)
        have HB1 := Lib.hid ((start_below _ _ _ _ _ _).trans (hb.mono (start_below _ _ _ _ _ _).size))
        have HV1 := Lib.hid (show Texts (w.heap.size + 1 + 1 + 1 + 1 + 1) w1 (.slice A1 (splitN o.path).1.length cc1) (splitN o.path).1 from Texts.mono ⟨A1, cc1, rfl, hx1⟩ (by simp))
        clear hx1 hb
        rw [HE1.out]
        have pA := (HO1.out).b0.cell 1
        have pB := (HO1.out).b0.cell 2
        have u0 := (HO1.out).b1.cf3
        have u3 := (HO1.out).b2.cf3
        have u6 := (HO1.out).b3.cf3
        have u9 := (HO1.out).b4.cf3
        simp at pA pB
        have l0 := (HO1.out).b0.lt
        have l1 := (HO1.out).b1.lt
        have l2 := (HO1.out).b2.lt
        have l3 := (HO1.out).b3.lt
        have l4 := (HO1.out).b4.lt
        go_wp2_with fail
        clear pA pB u0 u3 u6 u9 l0 l1 l2 l3 l4
        refine (hS2.out _ (HH.out _ HB1.out).mx).mono ?_
        rintro e w2 ⟨v, rfl, hv, hb⟩
        obtain ⟨A2, cc2, rfl, hx2⟩ := hv
        have HO2 := Lib.hid (HO1.out.below hb)
        have HB2 := Lib.hid (HB1.out.trans (hb.mono HB1.out.size))
        have HW1 := Lib.hid (HV1.out.below hb)
        have HW2 := Lib.hid (show Texts (w.heap.size + 1 + 1 + 1 + 1 + 1) w2 (.slice A2 (splitN o.to).1.length cc2) (splitN o.to).1 from Texts.mono ⟨A2, cc2, rfl, hx2⟩ (Nat.succ_le_of_lt HO1.out.b4.lt))
        clear hx2 hb
        rw [HE2.out]
        have pA := (HO2.out).b0.cell 1
        have pB := (HO2.out).b0.cell 2
        have u0 := (HO2.out).b1.cf3
        have u3 := (HO2.out).b2.cf3
        have u6 := (HO2.out).b3.cf3
        have u9 := (HO2.out).b4.cf3
        simp at pA pB
        have l0 := (HO2.out).b0.lt
        have l1 := (HO2.out).b1.lt
        have l2 := (HO2.out).b2.lt
        have l3 := (HO2.out).b3.lt
        have l4 := (HO2.out).b4.lt
        go_wp2_with fail
        clear pA pB u0 u3 u6 u9 l0 l1 l2 l3 l4
        refine (hP.out _ (HH.out _ HB2.out)).mono ?_
        rintro e w3 ⟨rfl, hb⟩
        rw [HS.out, HPE.out]
        have HO3 := Lib.hid (HO2.out.below hb)
        have HB3 := Lib.hid (HB2.out.trans (hb.mono HB2.out.size))
        have HX1 := Lib.hid (HW1.out.below hb)
        have HX2 := Lib.hid (HW2.out.below hb)
        clear hb
        have pA := (HO3.out).b0.cell 1
        have pB := (HO3.out).b0.cell 2
        have u0 := (HO3.out).b1.cf3
        have u3 := (HO3.out).b2.cf3
        have u6 := (HO3.out).b3.cf3
        have u9 := (HO3.out).b4.cf3
        simp at pA pB
        have l0 := (HO3.out).b0.lt
        have l1 := (HO3.out).b1.lt
        have l2 := (HO3.out).b2.lt
        have l3 := (HO3.out).b3.lt
        have l4 := (HO3.out).b4.lt
        go_wp2_with fail
        clear pA pB u0 u3 u6 u9 l0 l1 l2 l3 l4
        have HO4 : Hid (EO (((w3.setCell ⟨w.heap.size + 1 + 1 + 1, 0, none⟩ (.int .i64 (d : Nat))).setCell ⟨w.heap.size + 1 + 1 + 1, 1, none⟩ (.string (nameN o.path))).setCell ⟨w.heap.size + 1 + 1 + 1, 2, none⟩ (.int .i64 (id : Nat))) w.heap.size (oc o A n cap) #[.int .i64 (d : Nat), .string (nameN o.path), .int .i64 (id : Nat)] #[.int .i64 0, .string ⟨#[]⟩, .int .i64 0]) := Lib.hid ⟨(((HO3.out.b0.far (p := ⟨w.heap.size + 1 + 1 + 1, 0, none⟩) (show w.heap.size ≠ w.heap.size + 1 + 1 + 1 by omega) (.int .i64 (d : Nat))).far (p := ⟨w.heap.size + 1 + 1 + 1, 1, none⟩) (show w.heap.size ≠ w.heap.size + 1 + 1 + 1 by omega) (.string (nameN o.path))).far (p := ⟨w.heap.size + 1 + 1 + 1, 2, none⟩) (show w.heap.size ≠ w.heap.size + 1 + 1 + 1 by omega) (.int .i64 (id : Nat))), (((HO3.out.b1.far (p := ⟨w.heap.size + 1 + 1 + 1, 0, none⟩) (show w.heap.size + 1 ≠ w.heap.size + 1 + 1 + 1 by omega) (.int .i64 (d : Nat))).far (p := ⟨w.heap.size + 1 + 1 + 1, 1, none⟩) (show w.heap.size + 1 ≠ w.heap.size + 1 + 1 + 1 by omega) (.string (nameN o.path))).far (p := ⟨w.heap.size + 1 + 1 + 1, 2, none⟩) (show w.heap.size + 1 ≠ w.heap.size + 1 + 1 + 1 by omega) (.int .i64 (id : Nat))), (((HO3.out.b2.far (p := ⟨w.heap.size + 1 + 1 + 1, 0, none⟩) (show w.heap.size + 1 + 1 ≠ w.heap.size + 1 + 1 + 1 by omega) (.int .i64 (d : Nat))).far (p := ⟨w.heap.size + 1 + 1 + 1, 1, none⟩) (show w.heap.size + 1 + 1 ≠ w.heap.size + 1 + 1 + 1 by omega) (.string (nameN o.path))).far (p := ⟨w.heap.size + 1 + 1 + 1, 2, none⟩) (show w.heap.size + 1 + 1 ≠ w.heap.size + 1 + 1 + 1 by omega) (.int .i64 (id : Nat))), (((HO3.out.b3.set_ 0 (.int .i64 (d : Nat))).set_ 1 (.string (nameN o.path))).set_ 2 (.int .i64 (id : Nat))), (((HO3.out.b4.far (p := ⟨w.heap.size + 1 + 1 + 1, 0, none⟩) (show w.heap.size + 1 + 1 + 1 + 1 ≠ w.heap.size + 1 + 1 + 1 by omega) (.int .i64 (d : Nat))).far (p := ⟨w.heap.size + 1 + 1 + 1, 1, none⟩) (show w.heap.size + 1 + 1 + 1 + 1 ≠ w.heap.size + 1 + 1 + 1 by omega) (.string (nameN o.path))).far (p := ⟨w.heap.size + 1 + 1 + 1, 2, none⟩) (show w.heap.size + 1 + 1 + 1 + 1 ≠ w.heap.size + 1 + 1 + 1 by omega) (.int .i64 (id : Nat)))⟩
        have HB4 := Lib.hid (below_set (p := ⟨w.heap.size + 1 + 1 + 1, 2, none⟩) (below_set (p := ⟨w.heap.size + 1 + 1 + 1, 1, none⟩) (below_set (p := ⟨w.heap.size + 1 + 1 + 1, 0, none⟩) HB3.out (show w.heap.size ≤ w.heap.size + 1 + 1 + 1 by omega) (.int .i64 (d : Nat))) (show w.heap.size ≤ w.heap.size + 1 + 1 + 1 by omega) (.string (nameN o.path))) (show w.heap.size ≤ w.heap.size + 1 + 1 + 1 by omega) (.int .i64 (id : Nat)))
        have hT4 := (((Turn.refl (· = w.heap.size + 1 + 1 + 1) w3).setCell (p := ⟨w.heap.size + 1 + 1 + 1, 0, none⟩) (fun _ => rfl) (.int .i64 (d : Nat))).setCell (p := ⟨w.heap.size + 1 + 1 + 1, 1, none⟩) (fun _ => rfl) (.string (nameN o.path))).setCell (p := ⟨w.heap.size + 1 + 1 + 1, 2, none⟩) (fun _ => rfl) (.int .i64 (id : Nat))
        have HY1 := Lib.hid (HX1.out.turn hT4 fun k hk e => by omega)
        have HY2 := Lib.hid (HX2.out.turn hT4 fun k hk e => by omega)
        clear hT4
        generalize (((w3.setCell ⟨w.heap.size + 1 + 1 + 1, 0, none⟩ (.int .i64 (d : Nat))).setCell ⟨w.heap.size + 1 + 1 + 1, 1, none⟩ (.string (nameN o.path))).setCell ⟨w.heap.size + 1 + 1 + 1, 2, none⟩ (.int .i64 (id : Nat))) = w4 at *
        have pA := (HO4.out).b0.cell 1
        have pB := (HO4.out).b0.cell 2
        have u0 := (HO4.out).b1.cf3
        have u3 := (HO4.out).b2.cf3
        have u6 := (HO4.out).b3.cf3
        have u9 := (HO4.out).b4.cf3
        simp at pA pB
        have l0 := (HO4.out).b0.lt
        have l1 := (HO4.out).b1.lt
        have l2 := (HO4.out).b2.lt
        have l3 := (HO4.out).b3.lt
        have l4 := (HO4.out).b4.lt
        go_wp2_with (first | (go_at_call 60; refine (HD.out _ (HH.out _ HB4.out)).mono ?_; rintro e w4 ⟨rfl, rfl⟩) | (go_at_call 104; refine (HIN.out _ _ _ HY1.out HY2.out).mono ?_; rintro e w5 ⟨rfl, nn, rfl⟩; rw [HI.out]))
        clear pA pB u0 u3 u6 u9 l0 l1 l2 l3 l4
        have HO5 := Lib.hid (show EO (w4.drewN nn) w.heap.size (oc o A n cap) #[.int .i64 (d : Nat), .string (nameN o.path), .int .i64 (id : Nat)] #[.int .i64 0, .string ⟨#[]⟩, .int .i64 0] from (EO.below HO4.out ⟨rfl, rfl, rfl, Nat.le_refl _, fun _ _ => rfl⟩))
        have HB5 := Lib.hid (show Below w.heap.size w (w4.drewN nn) from (HB4.out.trans ⟨rfl, rfl, rfl, Nat.le_refl _, fun _ _ => rfl⟩))
        generalize w4.drewN nn = w5 at *
        have pA := (HO5.out).b0.cell 1
        have pB := (HO5.out).b0.cell 2
        have u0 := (HO5.out).b1.cf3
        have u3 := (HO5.out).b2.cf3
        have u6 := (HO5.out).b3.cf3
        have u9 := (HO5.out).b4.cf3
        simp at pA pB
        have l0 := (HO5.out).b0.lt
        have l1 := (HO5.out).b1.lt
        have l2 := (HO5.out).b2.lt
        have l3 := (HO5.out).b3.lt
        have l4 := (HO5.out).b4.lt
        go_region
        clear pA pB u0 u3 u6 u9 l0 l1 l2 l3 l4
        have f1 := (((((((HO5.out).b1.set_ 0 (.int .i64 (d : Nat))).set_ 1 (.string (nameN o.path))).set_ 2 (.int .i64 (id : Nat))).far (p := ⟨w.heap.size + 1 + 1, 0, none⟩) (show w.heap.size + 1 ≠ w.heap.size + 1 + 1 by omega) (.int .i64 0)).far (p := ⟨w.heap.size + 1 + 1, 1, none⟩) (show w.heap.size + 1 ≠ w.heap.size + 1 + 1 by omega) (.string ⟨#[]⟩)).far (p := ⟨w.heap.size + 1 + 1, 2, none⟩) (show w.heap.size + 1 ≠ w.heap.size + 1 + 1 by omega) (.int .i64 0)).drew
        have f2 := (((((((HO5.out).b2.far (p := ⟨w.heap.size + 1, 0, none⟩) (show w.heap.size + 1 + 1 ≠ w.heap.size + 1 by omega) (.int .i64 (d : Nat))).far (p := ⟨w.heap.size + 1, 1, none⟩) (show w.heap.size + 1 + 1 ≠ w.heap.size + 1 by omega) (.string (nameN o.path))).far (p := ⟨w.heap.size + 1, 2, none⟩) (show w.heap.size + 1 + 1 ≠ w.heap.size + 1 by omega) (.int .i64 (id : Nat))).set_ 0 (.int .i64 0)).set_ 1 (.string ⟨#[]⟩)).set_ 2 (.int .i64 0)).drew
        have HBF := Lib.hid ((below_set (p := ⟨w.heap.size + 1 + 1, 2, none⟩) (below_set (p := ⟨w.heap.size + 1 + 1, 1, none⟩) (below_set (p := ⟨w.heap.size + 1 + 1, 0, none⟩) (below_set (p := ⟨w.heap.size + 1, 2, none⟩) (below_set (p := ⟨w.heap.size + 1, 1, none⟩) (below_set (p := ⟨w.heap.size + 1, 0, none⟩) HB5.out (show w.heap.size ≤ w.heap.size + 1 by omega) (.int .i64 (d : Nat))) (show w.heap.size ≤ w.heap.size + 1 by omega) (.string (nameN o.path))) (show w.heap.size ≤ w.heap.size + 1 by omega) (.int .i64 (id : Nat))) (show w.heap.size ≤ w.heap.size + 1 + 1 by omega) (.int .i64 0)) (show w.heap.size ≤ w.heap.size + 1 + 1 by omega) (.string ⟨#[]⟩)) (show w.heap.size ≤ w.heap.size + 1 + 1 by omega) (.int .i64 0)).trans drew_below')
        generalize ((((((w5.setCell ⟨w.heap.size + 1, 0, none⟩ (.int .i64 (d : Nat))).setCell ⟨w.heap.size + 1, 1, none⟩ (.string (nameN o.path))).setCell ⟨w.heap.size + 1, 2, none⟩ (.int .i64 (id : Nat))).setCell ⟨w.heap.size + 1 + 1, 0, none⟩ (.int .i64 0)).setCell ⟨w.heap.size + 1 + 1, 1, none⟩ (.string ⟨#[]⟩)).setCell ⟨w.heap.size + 1 + 1, 2, none⟩ (.int .i64 0)).drew = w9 at *
        have g10 := f1.c3
        have g20 := f2.c3
        clear f1 f2
        go_wp2
        exact bodyPost_ret (v := .tuple #[.agg #[.int .i64 (d : Nat), .string (nameN o.path), .int .i64 (id : Nat)], .agg #[.int .i64 0, .string ⟨#[]⟩, .int .i64 0], .int .i64 49]) (by simp [results, Tryz.results71, go_sem, g10, g20]) rfl ⟨⟨_, _, _, _, _, _, by rw [HR.out], fun x => absurd (HR.out.symm.trans x) (by decide)⟩, HBF.out⟩
       ·have HR := Lib.hid (show a.endsE o = (a.par o.to 51).2 by rw [hA2, if_neg fun x => hi x.2])
        have HI := Lib.hid (show insideB (splitN o.path).1 (splitN o.to).1 = false by simpa using hi)
        clear hA2 hk hi
        go_enter Tryz.func71, Tryz.ntmps71
        go_wp2_with fail
        refine (hS1.out _ (HH.out _ (start_below _ _ _ _ _ _)).mx).mono ?_
        rintro e w1 ⟨v, rfl, hv, hb⟩
        obtain ⟨A1, cc1, rfl, hx1⟩ := hv
        have HO1 := Lib.hid ((EO.start w (oc o A n cap)).below hb)
        have HB1 := Lib.hid ((start_below _ _ _ _ _ _).trans (hb.mono (start_below _ _ _ _ _ _).size))
        have HV1 := Lib.hid (show Texts (w.heap.size + 1 + 1 + 1 + 1 + 1) w1 (.slice A1 (splitN o.path).1.length cc1) (splitN o.path).1 from Texts.mono ⟨A1, cc1, rfl, hx1⟩ (by simp))
        clear hx1 hb
        rw [HE1.out]
        have pA := (HO1.out).b0.cell 1
        have pB := (HO1.out).b0.cell 2
        have u0 := (HO1.out).b1.cf3
        have u3 := (HO1.out).b2.cf3
        have u6 := (HO1.out).b3.cf3
        have u9 := (HO1.out).b4.cf3
        simp at pA pB
        have l0 := (HO1.out).b0.lt
        have l1 := (HO1.out).b1.lt
        have l2 := (HO1.out).b2.lt
        have l3 := (HO1.out).b3.lt
        have l4 := (HO1.out).b4.lt
        go_wp2_with fail
        clear pA pB u0 u3 u6 u9 l0 l1 l2 l3 l4
        refine (hS2.out _ (HH.out _ HB1.out).mx).mono ?_
        rintro e w2 ⟨v, rfl, hv, hb⟩
        obtain ⟨A2, cc2, rfl, hx2⟩ := hv
        have HO2 := Lib.hid (HO1.out.below hb)
        have HB2 := Lib.hid (HB1.out.trans (hb.mono HB1.out.size))
        have HW1 := Lib.hid (HV1.out.below hb)
        have HW2 := Lib.hid (show Texts (w.heap.size + 1 + 1 + 1 + 1 + 1) w2 (.slice A2 (splitN o.to).1.length cc2) (splitN o.to).1 from Texts.mono ⟨A2, cc2, rfl, hx2⟩ (Nat.succ_le_of_lt HO1.out.b4.lt))
        clear hx2 hb
        rw [HE2.out]
        have pA := (HO2.out).b0.cell 1
        have pB := (HO2.out).b0.cell 2
        have u0 := (HO2.out).b1.cf3
        have u3 := (HO2.out).b2.cf3
        have u6 := (HO2.out).b3.cf3
        have u9 := (HO2.out).b4.cf3
        simp at pA pB
        have l0 := (HO2.out).b0.lt
        have l1 := (HO2.out).b1.lt
        have l2 := (HO2.out).b2.lt
        have l3 := (HO2.out).b3.lt
        have l4 := (HO2.out).b4.lt
        go_wp2_with fail
        clear pA pB u0 u3 u6 u9 l0 l1 l2 l3 l4
        refine (hP.out _ (HH.out _ HB2.out)).mono ?_
        rintro e w3 ⟨rfl, hb⟩
        rw [HS.out, HPE.out]
        have HO3 := Lib.hid (HO2.out.below hb)
        have HB3 := Lib.hid (HB2.out.trans (hb.mono HB2.out.size))
        have HX1 := Lib.hid (HW1.out.below hb)
        have HX2 := Lib.hid (HW2.out.below hb)
        clear hb
        have pA := (HO3.out).b0.cell 1
        have pB := (HO3.out).b0.cell 2
        have u0 := (HO3.out).b1.cf3
        have u3 := (HO3.out).b2.cf3
        have u6 := (HO3.out).b3.cf3
        have u9 := (HO3.out).b4.cf3
        simp at pA pB
        have l0 := (HO3.out).b0.lt
        have l1 := (HO3.out).b1.lt
        have l2 := (HO3.out).b2.lt
        have l3 := (HO3.out).b3.lt
        have l4 := (HO3.out).b4.lt
        go_wp2_with fail
        clear pA pB u0 u3 u6 u9 l0 l1 l2 l3 l4
        have HO4 : Hid (EO (((w3.setCell ⟨w.heap.size + 1 + 1 + 1, 0, none⟩ (.int .i64 (d : Nat))).setCell ⟨w.heap.size + 1 + 1 + 1, 1, none⟩ (.string (nameN o.path))).setCell ⟨w.heap.size + 1 + 1 + 1, 2, none⟩ (.int .i64 (id : Nat))) w.heap.size (oc o A n cap) #[.int .i64 (d : Nat), .string (nameN o.path), .int .i64 (id : Nat)] #[.int .i64 0, .string ⟨#[]⟩, .int .i64 0]) := Lib.hid ⟨(((HO3.out.b0.far (p := ⟨w.heap.size + 1 + 1 + 1, 0, none⟩) (show w.heap.size ≠ w.heap.size + 1 + 1 + 1 by omega) (.int .i64 (d : Nat))).far (p := ⟨w.heap.size + 1 + 1 + 1, 1, none⟩) (show w.heap.size ≠ w.heap.size + 1 + 1 + 1 by omega) (.string (nameN o.path))).far (p := ⟨w.heap.size + 1 + 1 + 1, 2, none⟩) (show w.heap.size ≠ w.heap.size + 1 + 1 + 1 by omega) (.int .i64 (id : Nat))), (((HO3.out.b1.far (p := ⟨w.heap.size + 1 + 1 + 1, 0, none⟩) (show w.heap.size + 1 ≠ w.heap.size + 1 + 1 + 1 by omega) (.int .i64 (d : Nat))).far (p := ⟨w.heap.size + 1 + 1 + 1, 1, none⟩) (show w.heap.size + 1 ≠ w.heap.size + 1 + 1 + 1 by omega) (.string (nameN o.path))).far (p := ⟨w.heap.size + 1 + 1 + 1, 2, none⟩) (show w.heap.size + 1 ≠ w.heap.size + 1 + 1 + 1 by omega) (.int .i64 (id : Nat))), (((HO3.out.b2.far (p := ⟨w.heap.size + 1 + 1 + 1, 0, none⟩) (show w.heap.size + 1 + 1 ≠ w.heap.size + 1 + 1 + 1 by omega) (.int .i64 (d : Nat))).far (p := ⟨w.heap.size + 1 + 1 + 1, 1, none⟩) (show w.heap.size + 1 + 1 ≠ w.heap.size + 1 + 1 + 1 by omega) (.string (nameN o.path))).far (p := ⟨w.heap.size + 1 + 1 + 1, 2, none⟩) (show w.heap.size + 1 + 1 ≠ w.heap.size + 1 + 1 + 1 by omega) (.int .i64 (id : Nat))), (((HO3.out.b3.set_ 0 (.int .i64 (d : Nat))).set_ 1 (.string (nameN o.path))).set_ 2 (.int .i64 (id : Nat))), (((HO3.out.b4.far (p := ⟨w.heap.size + 1 + 1 + 1, 0, none⟩) (show w.heap.size + 1 + 1 + 1 + 1 ≠ w.heap.size + 1 + 1 + 1 by omega) (.int .i64 (d : Nat))).far (p := ⟨w.heap.size + 1 + 1 + 1, 1, none⟩) (show w.heap.size + 1 + 1 + 1 + 1 ≠ w.heap.size + 1 + 1 + 1 by omega) (.string (nameN o.path))).far (p := ⟨w.heap.size + 1 + 1 + 1, 2, none⟩) (show w.heap.size + 1 + 1 + 1 + 1 ≠ w.heap.size + 1 + 1 + 1 by omega) (.int .i64 (id : Nat)))⟩
        have HB4 := Lib.hid (below_set (p := ⟨w.heap.size + 1 + 1 + 1, 2, none⟩) (below_set (p := ⟨w.heap.size + 1 + 1 + 1, 1, none⟩) (below_set (p := ⟨w.heap.size + 1 + 1 + 1, 0, none⟩) HB3.out (show w.heap.size ≤ w.heap.size + 1 + 1 + 1 by omega) (.int .i64 (d : Nat))) (show w.heap.size ≤ w.heap.size + 1 + 1 + 1 by omega) (.string (nameN o.path))) (show w.heap.size ≤ w.heap.size + 1 + 1 + 1 by omega) (.int .i64 (id : Nat)))
        have hT4 := (((Turn.refl (· = w.heap.size + 1 + 1 + 1) w3).setCell (p := ⟨w.heap.size + 1 + 1 + 1, 0, none⟩) (fun _ => rfl) (.int .i64 (d : Nat))).setCell (p := ⟨w.heap.size + 1 + 1 + 1, 1, none⟩) (fun _ => rfl) (.string (nameN o.path))).setCell (p := ⟨w.heap.size + 1 + 1 + 1, 2, none⟩) (fun _ => rfl) (.int .i64 (id : Nat))
        have HY1 := Lib.hid (HX1.out.turn hT4 fun k hk e => by omega)
        have HY2 := Lib.hid (HX2.out.turn hT4 fun k hk e => by omega)
        clear hT4
        generalize (((w3.setCell ⟨w.heap.size + 1 + 1 + 1, 0, none⟩ (.int .i64 (d : Nat))).setCell ⟨w.heap.size + 1 + 1 + 1, 1, none⟩ (.string (nameN o.path))).setCell ⟨w.heap.size + 1 + 1 + 1, 2, none⟩ (.int .i64 (id : Nat))) = w4 at *
        have pA := (HO4.out).b0.cell 1
        have pB := (HO4.out).b0.cell 2
        have u0 := (HO4.out).b1.cf3
        have u3 := (HO4.out).b2.cf3
        have u6 := (HO4.out).b3.cf3
        have u9 := (HO4.out).b4.cf3
        simp at pA pB
        have l0 := (HO4.out).b0.lt
        have l1 := (HO4.out).b1.lt
        have l2 := (HO4.out).b2.lt
        have l3 := (HO4.out).b3.lt
        have l4 := (HO4.out).b4.lt
        go_wp2_with (first | (go_at_call 60; refine (HD.out _ (HH.out _ HB4.out)).mono ?_; rintro e w4 ⟨rfl, rfl⟩) | (go_at_call 104; refine (HIN.out _ _ _ HY1.out HY2.out).mono ?_; rintro e w5 ⟨rfl, nn, rfl⟩; rw [HI.out]) | fail)
        clear pA pB u0 u3 u6 u9 l0 l1 l2 l3 l4
        have HO5 := Lib.hid (show EO (w4.drewN nn) w.heap.size (oc o A n cap) #[.int .i64 (d : Nat), .string (nameN o.path), .int .i64 (id : Nat)] #[.int .i64 0, .string ⟨#[]⟩, .int .i64 0] from (EO.below HO4.out ⟨rfl, rfl, rfl, Nat.le_refl _, fun _ _ => rfl⟩))
        have HB5 := Lib.hid (show Below w.heap.size w (w4.drewN nn) from (HB4.out.trans ⟨rfl, rfl, rfl, Nat.le_refl _, fun _ _ => rfl⟩))
        generalize w4.drewN nn = w5 at *
        refine (hP2.out _ (HH.out _ HB5.out)).mono ?_
        rintro e w6 ⟨rfl, hb⟩
        rw [HS2.out]
        have HO6 := Lib.hid ((HO5.out).below hb)
        have HB6 := Lib.hid ((HB5.out).trans (hb.mono (HB5.out).size))
        clear hb
        have pA := (HO6.out).b0.cell 1
        have pB := (HO6.out).b0.cell 2
        have u0 := (HO6.out).b1.cf3
        have u3 := (HO6.out).b2.cf3
        have u6 := (HO6.out).b3.cf3
        have u9 := (HO6.out).b4.cf3
        simp at pA pB
        have l0 := (HO6.out).b0.lt
        have l1 := (HO6.out).b1.lt
        have l2 := (HO6.out).b2.lt
        have l3 := (HO6.out).b3.lt
        have l4 := (HO6.out).b4.lt
        go_wp2_with fail
        clear pA pB u0 u3 u6 u9 l0 l1 l2 l3 l4
        have HO7 : Hid (EO (((w6.setCell ⟨w.heap.size + 1 + 1 + 1 + 1, 0, none⟩ (.int .i64 i2)).setCell ⟨w.heap.size + 1 + 1 + 1 + 1, 1, none⟩ (.string s2)).setCell ⟨w.heap.size + 1 + 1 + 1 + 1, 2, none⟩ (.int .i64 j2)) w.heap.size (oc o A n cap) #[.int .i64 (d : Nat), .string (nameN o.path), .int .i64 (id : Nat)] #[.int .i64 i2, .string s2, .int .i64 j2]) := Lib.hid ⟨(((HO6.out.b0.far (p := ⟨w.heap.size + 1 + 1 + 1 + 1, 0, none⟩) (show w.heap.size ≠ w.heap.size + 1 + 1 + 1 + 1 by omega) (.int .i64 i2)).far (p := ⟨w.heap.size + 1 + 1 + 1 + 1, 1, none⟩) (show w.heap.size ≠ w.heap.size + 1 + 1 + 1 + 1 by omega) (.string s2)).far (p := ⟨w.heap.size + 1 + 1 + 1 + 1, 2, none⟩) (show w.heap.size ≠ w.heap.size + 1 + 1 + 1 + 1 by omega) (.int .i64 j2)), (((HO6.out.b1.far (p := ⟨w.heap.size + 1 + 1 + 1 + 1, 0, none⟩) (show w.heap.size + 1 ≠ w.heap.size + 1 + 1 + 1 + 1 by omega) (.int .i64 i2)).far (p := ⟨w.heap.size + 1 + 1 + 1 + 1, 1, none⟩) (show w.heap.size + 1 ≠ w.heap.size + 1 + 1 + 1 + 1 by omega) (.string s2)).far (p := ⟨w.heap.size + 1 + 1 + 1 + 1, 2, none⟩) (show w.heap.size + 1 ≠ w.heap.size + 1 + 1 + 1 + 1 by omega) (.int .i64 j2)), (((HO6.out.b2.far (p := ⟨w.heap.size + 1 + 1 + 1 + 1, 0, none⟩) (show w.heap.size + 1 + 1 ≠ w.heap.size + 1 + 1 + 1 + 1 by omega) (.int .i64 i2)).far (p := ⟨w.heap.size + 1 + 1 + 1 + 1, 1, none⟩) (show w.heap.size + 1 + 1 ≠ w.heap.size + 1 + 1 + 1 + 1 by omega) (.string s2)).far (p := ⟨w.heap.size + 1 + 1 + 1 + 1, 2, none⟩) (show w.heap.size + 1 + 1 ≠ w.heap.size + 1 + 1 + 1 + 1 by omega) (.int .i64 j2)), (((HO6.out.b3.far (p := ⟨w.heap.size + 1 + 1 + 1 + 1, 0, none⟩) (show w.heap.size + 1 + 1 + 1 ≠ w.heap.size + 1 + 1 + 1 + 1 by omega) (.int .i64 i2)).far (p := ⟨w.heap.size + 1 + 1 + 1 + 1, 1, none⟩) (show w.heap.size + 1 + 1 + 1 ≠ w.heap.size + 1 + 1 + 1 + 1 by omega) (.string s2)).far (p := ⟨w.heap.size + 1 + 1 + 1 + 1, 2, none⟩) (show w.heap.size + 1 + 1 + 1 ≠ w.heap.size + 1 + 1 + 1 + 1 by omega) (.int .i64 j2)), (((HO6.out.b4.set_ 0 (.int .i64 i2)).set_ 1 (.string s2)).set_ 2 (.int .i64 j2))⟩
        have HB7 := Lib.hid (below_set (p := ⟨w.heap.size + 1 + 1 + 1 + 1, 2, none⟩) (below_set (p := ⟨w.heap.size + 1 + 1 + 1 + 1, 1, none⟩) (below_set (p := ⟨w.heap.size + 1 + 1 + 1 + 1, 0, none⟩) HB6.out (show w.heap.size ≤ w.heap.size + 1 + 1 + 1 + 1 by omega) (.int .i64 i2)) (show w.heap.size ≤ w.heap.size + 1 + 1 + 1 + 1 by omega) (.string s2)) (show w.heap.size ≤ w.heap.size + 1 + 1 + 1 + 1 by omega) (.int .i64 j2))
        generalize (((w6.setCell ⟨w.heap.size + 1 + 1 + 1 + 1, 0, none⟩ (.int .i64 i2)).setCell ⟨w.heap.size + 1 + 1 + 1 + 1, 1, none⟩ (.string s2)).setCell ⟨w.heap.size + 1 + 1 + 1 + 1, 2, none⟩ (.int .i64 j2)) = w7 at *
        have pA := (HO7.out).b0.cell 1
        have pB := (HO7.out).b0.cell 2
        have u0 := (HO7.out).b1.cf3
        have u3 := (HO7.out).b2.cf3
        have u6 := (HO7.out).b3.cf3
        have u9 := (HO7.out).b4.cf3
        simp at pA pB
        have l0 := (HO7.out).b0.lt
        have l1 := (HO7.out).b1.lt
        have l2 := (HO7.out).b2.lt
        have l3 := (HO7.out).b3.lt
        have l4 := (HO7.out).b4.lt
        go_region
        clear pA pB u0 u3 u6 u9 l0 l1 l2 l3 l4
        have f1 := (((((((HO7.out).b1.set_ 0 (.int .i64 (d : Nat))).set_ 1 (.string (nameN o.path))).set_ 2 (.int .i64 (id : Nat))).far (p := ⟨w.heap.size + 1 + 1, 0, none⟩) (show w.heap.size + 1 ≠ w.heap.size + 1 + 1 by omega) (.int .i64 i2)).far (p := ⟨w.heap.size + 1 + 1, 1, none⟩) (show w.heap.size + 1 ≠ w.heap.size + 1 + 1 by omega) (.string s2)).far (p := ⟨w.heap.size + 1 + 1, 2, none⟩) (show w.heap.size + 1 ≠ w.heap.size + 1 + 1 by omega) (.int .i64 j2)).drew
        have f2 := (((((((HO7.out).b2.far (p := ⟨w.heap.size + 1, 0, none⟩) (show w.heap.size + 1 + 1 ≠ w.heap.size + 1 by omega) (.int .i64 (d : Nat))).far (p := ⟨w.heap.size + 1, 1, none⟩) (show w.heap.size + 1 + 1 ≠ w.heap.size + 1 by omega) (.string (nameN o.path))).far (p := ⟨w.heap.size + 1, 2, none⟩) (show w.heap.size + 1 + 1 ≠ w.heap.size + 1 by omega) (.int .i64 (id : Nat))).set_ 0 (.int .i64 i2)).set_ 1 (.string s2)).set_ 2 (.int .i64 j2)).drew
        have HBF := Lib.hid ((below_set (p := ⟨w.heap.size + 1 + 1, 2, none⟩) (below_set (p := ⟨w.heap.size + 1 + 1, 1, none⟩) (below_set (p := ⟨w.heap.size + 1 + 1, 0, none⟩) (below_set (p := ⟨w.heap.size + 1, 2, none⟩) (below_set (p := ⟨w.heap.size + 1, 1, none⟩) (below_set (p := ⟨w.heap.size + 1, 0, none⟩) HB7.out (show w.heap.size ≤ w.heap.size + 1 by omega) (.int .i64 (d : Nat))) (show w.heap.size ≤ w.heap.size + 1 by omega) (.string (nameN o.path))) (show w.heap.size ≤ w.heap.size + 1 by omega) (.int .i64 (id : Nat))) (show w.heap.size ≤ w.heap.size + 1 + 1 by omega) (.int .i64 i2)) (show w.heap.size ≤ w.heap.size + 1 + 1 by omega) (.string s2)) (show w.heap.size ≤ w.heap.size + 1 + 1 by omega) (.int .i64 j2)).trans drew_below')
        generalize ((((((w7.setCell ⟨w.heap.size + 1, 0, none⟩ (.int .i64 (d : Nat))).setCell ⟨w.heap.size + 1, 1, none⟩ (.string (nameN o.path))).setCell ⟨w.heap.size + 1, 2, none⟩ (.int .i64 (id : Nat))).setCell ⟨w.heap.size + 1 + 1, 0, none⟩ (.int .i64 i2)).setCell ⟨w.heap.size + 1 + 1, 1, none⟩ (.string s2)).setCell ⟨w.heap.size + 1 + 1, 2, none⟩ (.int .i64 j2)).drew = w9 at *
        have g10 := f1.c3
        have g20 := f2.c3
        clear f1 f2
        go_wp2
        exact bodyPost_ret (v := .tuple #[.agg #[.int .i64 (d : Nat), .string (nameN o.path), .int .i64 (id : Nat)], .agg #[.int .i64 i2, .string s2, .int .i64 j2], .int .i64 (a.par o.to 51).2]) (by simp [results, Tryz.results71, go_sem, g10, g20]) rfl ⟨⟨_, _, _, _, _, _, by rw [HR.out], fun x => ⟨HQ1.out.1, rfl, HQ1.out.2.2, HQ2.out (HR.out.symm.trans x)⟩⟩, HBF.out⟩
      ·rw [decide_eq_false hk] at HD
       have HR := Lib.hid (show a.endsE o = (a.par o.to 51).2 by rw [hA2, if_neg fun x => hk x.1])
       clear hA2 hk
       go_enter Tryz.func71, Tryz.ntmps71
       go_wp2_with fail
       refine (hS1.out _ (HH.out _ (start_below _ _ _ _ _ _)).mx).mono ?_
       rintro e w1 ⟨v, rfl, hv, hb⟩
       obtain ⟨A1, cc1, rfl, hx1⟩ := hv
       have HO1 := Lib.hid ((EO.start w (oc o A n cap)).below hb)
       have HB1 := Lib.hid ((start_below _ _ _ _ _ _).trans (hb.mono (start_below _ _ _ _ _ _).size))
       have HV1 := Lib.hid (show Texts (w.heap.size + 1 + 1 + 1 + 1 + 1) w1 (.slice A1 (splitN o.path).1.length cc1) (splitN o.path).1 from Texts.mono ⟨A1, cc1, rfl, hx1⟩ (by simp))
       clear hx1 hb
       rw [HE1.out]
       have pA := (HO1.out).b0.cell 1
       have pB := (HO1.out).b0.cell 2
       have u0 := (HO1.out).b1.cf3
       have u3 := (HO1.out).b2.cf3
       have u6 := (HO1.out).b3.cf3
       have u9 := (HO1.out).b4.cf3
       simp at pA pB
       have l0 := (HO1.out).b0.lt
       have l1 := (HO1.out).b1.lt
       have l2 := (HO1.out).b2.lt
       have l3 := (HO1.out).b3.lt
       have l4 := (HO1.out).b4.lt
       go_wp2_with fail
       clear pA pB u0 u3 u6 u9 l0 l1 l2 l3 l4
       refine (hS2.out _ (HH.out _ HB1.out).mx).mono ?_
       rintro e w2 ⟨v, rfl, hv, hb⟩
       obtain ⟨A2, cc2, rfl, hx2⟩ := hv
       have HO2 := Lib.hid (HO1.out.below hb)
       have HB2 := Lib.hid (HB1.out.trans (hb.mono HB1.out.size))
       have HW1 := Lib.hid (HV1.out.below hb)
       have HW2 := Lib.hid (show Texts (w.heap.size + 1 + 1 + 1 + 1 + 1) w2 (.slice A2 (splitN o.to).1.length cc2) (splitN o.to).1 from Texts.mono ⟨A2, cc2, rfl, hx2⟩ (Nat.succ_le_of_lt HO1.out.b4.lt))
       clear hx2 hb
       rw [HE2.out]
       have pA := (HO2.out).b0.cell 1
       have pB := (HO2.out).b0.cell 2
       have u0 := (HO2.out).b1.cf3
       have u3 := (HO2.out).b2.cf3
       have u6 := (HO2.out).b3.cf3
       have u9 := (HO2.out).b4.cf3
       simp at pA pB
       have l0 := (HO2.out).b0.lt
       have l1 := (HO2.out).b1.lt
       have l2 := (HO2.out).b2.lt
       have l3 := (HO2.out).b3.lt
       have l4 := (HO2.out).b4.lt
       go_wp2_with fail
       clear pA pB u0 u3 u6 u9 l0 l1 l2 l3 l4
       refine (hP.out _ (HH.out _ HB2.out)).mono ?_
       rintro e w3 ⟨rfl, hb⟩
       rw [HS.out, HPE.out]
       have HO3 := Lib.hid (HO2.out.below hb)
       have HB3 := Lib.hid (HB2.out.trans (hb.mono HB2.out.size))
       have HX1 := Lib.hid (HW1.out.below hb)
       have HX2 := Lib.hid (HW2.out.below hb)
       clear hb
       have pA := (HO3.out).b0.cell 1
       have pB := (HO3.out).b0.cell 2
       have u0 := (HO3.out).b1.cf3
       have u3 := (HO3.out).b2.cf3
       have u6 := (HO3.out).b3.cf3
       have u9 := (HO3.out).b4.cf3
       simp at pA pB
       have l0 := (HO3.out).b0.lt
       have l1 := (HO3.out).b1.lt
       have l2 := (HO3.out).b2.lt
       have l3 := (HO3.out).b3.lt
       have l4 := (HO3.out).b4.lt
       go_wp2_with fail
       clear pA pB u0 u3 u6 u9 l0 l1 l2 l3 l4
       have HO4 : Hid (EO (((w3.setCell ⟨w.heap.size + 1 + 1 + 1, 0, none⟩ (.int .i64 (d : Nat))).setCell ⟨w.heap.size + 1 + 1 + 1, 1, none⟩ (.string (nameN o.path))).setCell ⟨w.heap.size + 1 + 1 + 1, 2, none⟩ (.int .i64 (id : Nat))) w.heap.size (oc o A n cap) #[.int .i64 (d : Nat), .string (nameN o.path), .int .i64 (id : Nat)] #[.int .i64 0, .string ⟨#[]⟩, .int .i64 0]) := Lib.hid ⟨(((HO3.out.b0.far (p := ⟨w.heap.size + 1 + 1 + 1, 0, none⟩) (show w.heap.size ≠ w.heap.size + 1 + 1 + 1 by omega) (.int .i64 (d : Nat))).far (p := ⟨w.heap.size + 1 + 1 + 1, 1, none⟩) (show w.heap.size ≠ w.heap.size + 1 + 1 + 1 by omega) (.string (nameN o.path))).far (p := ⟨w.heap.size + 1 + 1 + 1, 2, none⟩) (show w.heap.size ≠ w.heap.size + 1 + 1 + 1 by omega) (.int .i64 (id : Nat))), (((HO3.out.b1.far (p := ⟨w.heap.size + 1 + 1 + 1, 0, none⟩) (show w.heap.size + 1 ≠ w.heap.size + 1 + 1 + 1 by omega) (.int .i64 (d : Nat))).far (p := ⟨w.heap.size + 1 + 1 + 1, 1, none⟩) (show w.heap.size + 1 ≠ w.heap.size + 1 + 1 + 1 by omega) (.string (nameN o.path))).far (p := ⟨w.heap.size + 1 + 1 + 1, 2, none⟩) (show w.heap.size + 1 ≠ w.heap.size + 1 + 1 + 1 by omega) (.int .i64 (id : Nat))), (((HO3.out.b2.far (p := ⟨w.heap.size + 1 + 1 + 1, 0, none⟩) (show w.heap.size + 1 + 1 ≠ w.heap.size + 1 + 1 + 1 by omega) (.int .i64 (d : Nat))).far (p := ⟨w.heap.size + 1 + 1 + 1, 1, none⟩) (show w.heap.size + 1 + 1 ≠ w.heap.size + 1 + 1 + 1 by omega) (.string (nameN o.path))).far (p := ⟨w.heap.size + 1 + 1 + 1, 2, none⟩) (show w.heap.size + 1 + 1 ≠ w.heap.size + 1 + 1 + 1 by omega) (.int .i64 (id : Nat))), (((HO3.out.b3.set_ 0 (.int .i64 (d : Nat))).set_ 1 (.string (nameN o.path))).set_ 2 (.int .i64 (id : Nat))), (((HO3.out.b4.far (p := ⟨w.heap.size + 1 + 1 + 1, 0, none⟩) (show w.heap.size + 1 + 1 + 1 + 1 ≠ w.heap.size + 1 + 1 + 1 by omega) (.int .i64 (d : Nat))).far (p := ⟨w.heap.size + 1 + 1 + 1, 1, none⟩) (show w.heap.size + 1 + 1 + 1 + 1 ≠ w.heap.size + 1 + 1 + 1 by omega) (.string (nameN o.path))).far (p := ⟨w.heap.size + 1 + 1 + 1, 2, none⟩) (show w.heap.size + 1 + 1 + 1 + 1 ≠ w.heap.size + 1 + 1 + 1 by omega) (.int .i64 (id : Nat)))⟩
       have HB4 := Lib.hid (below_set (p := ⟨w.heap.size + 1 + 1 + 1, 2, none⟩) (below_set (p := ⟨w.heap.size + 1 + 1 + 1, 1, none⟩) (below_set (p := ⟨w.heap.size + 1 + 1 + 1, 0, none⟩) HB3.out (show w.heap.size ≤ w.heap.size + 1 + 1 + 1 by omega) (.int .i64 (d : Nat))) (show w.heap.size ≤ w.heap.size + 1 + 1 + 1 by omega) (.string (nameN o.path))) (show w.heap.size ≤ w.heap.size + 1 + 1 + 1 by omega) (.int .i64 (id : Nat)))
       have hT4 := (((Turn.refl (· = w.heap.size + 1 + 1 + 1) w3).setCell (p := ⟨w.heap.size + 1 + 1 + 1, 0, none⟩) (fun _ => rfl) (.int .i64 (d : Nat))).setCell (p := ⟨w.heap.size + 1 + 1 + 1, 1, none⟩) (fun _ => rfl) (.string (nameN o.path))).setCell (p := ⟨w.heap.size + 1 + 1 + 1, 2, none⟩) (fun _ => rfl) (.int .i64 (id : Nat))
       have HY1 := Lib.hid (HX1.out.turn hT4 fun k hk e => by omega)
       have HY2 := Lib.hid (HX2.out.turn hT4 fun k hk e => by omega)
       clear hT4
       generalize (((w3.setCell ⟨w.heap.size + 1 + 1 + 1, 0, none⟩ (.int .i64 (d : Nat))).setCell ⟨w.heap.size + 1 + 1 + 1, 1, none⟩ (.string (nameN o.path))).setCell ⟨w.heap.size + 1 + 1 + 1, 2, none⟩ (.int .i64 (id : Nat))) = w4 at *
       have pA := (HO4.out).b0.cell 1
       have pB := (HO4.out).b0.cell 2
       have u0 := (HO4.out).b1.cf3
       have u3 := (HO4.out).b2.cf3
       have u6 := (HO4.out).b3.cf3
       have u9 := (HO4.out).b4.cf3
       simp at pA pB
       have l0 := (HO4.out).b0.lt
       have l1 := (HO4.out).b1.lt
       have l2 := (HO4.out).b2.lt
       have l3 := (HO4.out).b3.lt
       have l4 := (HO4.out).b4.lt
       go_wp2_with (first | (go_at_call 60; refine (HD.out _ (HH.out _ HB4.out)).mono ?_; rintro e w4 ⟨rfl, rfl⟩) | fail)
       clear pA pB u0 u3 u6 u9 l0 l1 l2 l3 l4
       refine (hP2.out _ (HH.out _ HB4.out)).mono ?_
       rintro e w6 ⟨rfl, hb⟩
       rw [HS2.out]
       have HO6 := Lib.hid ((HO4.out).below hb)
       have HB6 := Lib.hid ((HB4.out).trans (hb.mono (HB4.out).size))
       clear hb
       have pA := (HO6.out).b0.cell 1
       have pB := (HO6.out).b0.cell 2
       have u0 := (HO6.out).b1.cf3
       have u3 := (HO6.out).b2.cf3
       have u6 := (HO6.out).b3.cf3
       have u9 := (HO6.out).b4.cf3
       simp at pA pB
       have l0 := (HO6.out).b0.lt
       have l1 := (HO6.out).b1.lt
       have l2 := (HO6.out).b2.lt
       have l3 := (HO6.out).b3.lt
       have l4 := (HO6.out).b4.lt
       go_wp2_with fail
       clear pA pB u0 u3 u6 u9 l0 l1 l2 l3 l4
       have HO7 : Hid (EO (((w6.setCell ⟨w.heap.size + 1 + 1 + 1 + 1, 0, none⟩ (.int .i64 i2)).setCell ⟨w.heap.size + 1 + 1 + 1 + 1, 1, none⟩ (.string s2)).setCell ⟨w.heap.size + 1 + 1 + 1 + 1, 2, none⟩ (.int .i64 j2)) w.heap.size (oc o A n cap) #[.int .i64 (d : Nat), .string (nameN o.path), .int .i64 (id : Nat)] #[.int .i64 i2, .string s2, .int .i64 j2]) := Lib.hid ⟨(((HO6.out.b0.far (p := ⟨w.heap.size + 1 + 1 + 1 + 1, 0, none⟩) (show w.heap.size ≠ w.heap.size + 1 + 1 + 1 + 1 by omega) (.int .i64 i2)).far (p := ⟨w.heap.size + 1 + 1 + 1 + 1, 1, none⟩) (show w.heap.size ≠ w.heap.size + 1 + 1 + 1 + 1 by omega) (.string s2)).far (p := ⟨w.heap.size + 1 + 1 + 1 + 1, 2, none⟩) (show w.heap.size ≠ w.heap.size + 1 + 1 + 1 + 1 by omega) (.int .i64 j2)), (((HO6.out.b1.far (p := ⟨w.heap.size + 1 + 1 + 1 + 1, 0, none⟩) (show w.heap.size + 1 ≠ w.heap.size + 1 + 1 + 1 + 1 by omega) (.int .i64 i2)).far (p := ⟨w.heap.size + 1 + 1 + 1 + 1, 1, none⟩) (show w.heap.size + 1 ≠ w.heap.size + 1 + 1 + 1 + 1 by omega) (.string s2)).far (p := ⟨w.heap.size + 1 + 1 + 1 + 1, 2, none⟩) (show w.heap.size + 1 ≠ w.heap.size + 1 + 1 + 1 + 1 by omega) (.int .i64 j2)), (((HO6.out.b2.far (p := ⟨w.heap.size + 1 + 1 + 1 + 1, 0, none⟩) (show w.heap.size + 1 + 1 ≠ w.heap.size + 1 + 1 + 1 + 1 by omega) (.int .i64 i2)).far (p := ⟨w.heap.size + 1 + 1 + 1 + 1, 1, none⟩) (show w.heap.size + 1 + 1 ≠ w.heap.size + 1 + 1 + 1 + 1 by omega) (.string s2)).far (p := ⟨w.heap.size + 1 + 1 + 1 + 1, 2, none⟩) (show w.heap.size + 1 + 1 ≠ w.heap.size + 1 + 1 + 1 + 1 by omega) (.int .i64 j2)), (((HO6.out.b3.far (p := ⟨w.heap.size + 1 + 1 + 1 + 1, 0, none⟩) (show w.heap.size + 1 + 1 + 1 ≠ w.heap.size + 1 + 1 + 1 + 1 by omega) (.int .i64 i2)).far (p := ⟨w.heap.size + 1 + 1 + 1 + 1, 1, none⟩) (show w.heap.size + 1 + 1 + 1 ≠ w.heap.size + 1 + 1 + 1 + 1 by omega) (.string s2)).far (p := ⟨w.heap.size + 1 + 1 + 1 + 1, 2, none⟩) (show w.heap.size + 1 + 1 + 1 ≠ w.heap.size + 1 + 1 + 1 + 1 by omega) (.int .i64 j2)), (((HO6.out.b4.set_ 0 (.int .i64 i2)).set_ 1 (.string s2)).set_ 2 (.int .i64 j2))⟩
       have HB7 := Lib.hid (below_set (p := ⟨w.heap.size + 1 + 1 + 1 + 1, 2, none⟩) (below_set (p := ⟨w.heap.size + 1 + 1 + 1 + 1, 1, none⟩) (below_set (p := ⟨w.heap.size + 1 + 1 + 1 + 1, 0, none⟩) HB6.out (show w.heap.size ≤ w.heap.size + 1 + 1 + 1 + 1 by omega) (.int .i64 i2)) (show w.heap.size ≤ w.heap.size + 1 + 1 + 1 + 1 by omega) (.string s2)) (show w.heap.size ≤ w.heap.size + 1 + 1 + 1 + 1 by omega) (.int .i64 j2))
       generalize (((w6.setCell ⟨w.heap.size + 1 + 1 + 1 + 1, 0, none⟩ (.int .i64 i2)).setCell ⟨w.heap.size + 1 + 1 + 1 + 1, 1, none⟩ (.string s2)).setCell ⟨w.heap.size + 1 + 1 + 1 + 1, 2, none⟩ (.int .i64 j2)) = w7 at *
       have pA := (HO7.out).b0.cell 1
       have pB := (HO7.out).b0.cell 2
       have u0 := (HO7.out).b1.cf3
       have u3 := (HO7.out).b2.cf3
       have u6 := (HO7.out).b3.cf3
       have u9 := (HO7.out).b4.cf3
       simp at pA pB
       have l0 := (HO7.out).b0.lt
       have l1 := (HO7.out).b1.lt
       have l2 := (HO7.out).b2.lt
       have l3 := (HO7.out).b3.lt
       have l4 := (HO7.out).b4.lt
       go_region
       clear pA pB u0 u3 u6 u9 l0 l1 l2 l3 l4
       have f1 := (((((((HO7.out).b1.set_ 0 (.int .i64 (d : Nat))).set_ 1 (.string (nameN o.path))).set_ 2 (.int .i64 (id : Nat))).far (p := ⟨w.heap.size + 1 + 1, 0, none⟩) (show w.heap.size + 1 ≠ w.heap.size + 1 + 1 by omega) (.int .i64 i2)).far (p := ⟨w.heap.size + 1 + 1, 1, none⟩) (show w.heap.size + 1 ≠ w.heap.size + 1 + 1 by omega) (.string s2)).far (p := ⟨w.heap.size + 1 + 1, 2, none⟩) (show w.heap.size + 1 ≠ w.heap.size + 1 + 1 by omega) (.int .i64 j2)).drew
       have f2 := (((((((HO7.out).b2.far (p := ⟨w.heap.size + 1, 0, none⟩) (show w.heap.size + 1 + 1 ≠ w.heap.size + 1 by omega) (.int .i64 (d : Nat))).far (p := ⟨w.heap.size + 1, 1, none⟩) (show w.heap.size + 1 + 1 ≠ w.heap.size + 1 by omega) (.string (nameN o.path))).far (p := ⟨w.heap.size + 1, 2, none⟩) (show w.heap.size + 1 + 1 ≠ w.heap.size + 1 by omega) (.int .i64 (id : Nat))).set_ 0 (.int .i64 i2)).set_ 1 (.string s2)).set_ 2 (.int .i64 j2)).drew
       have HBF := Lib.hid ((below_set (p := ⟨w.heap.size + 1 + 1, 2, none⟩) (below_set (p := ⟨w.heap.size + 1 + 1, 1, none⟩) (below_set (p := ⟨w.heap.size + 1 + 1, 0, none⟩) (below_set (p := ⟨w.heap.size + 1, 2, none⟩) (below_set (p := ⟨w.heap.size + 1, 1, none⟩) (below_set (p := ⟨w.heap.size + 1, 0, none⟩) HB7.out (show w.heap.size ≤ w.heap.size + 1 by omega) (.int .i64 (d : Nat))) (show w.heap.size ≤ w.heap.size + 1 by omega) (.string (nameN o.path))) (show w.heap.size ≤ w.heap.size + 1 by omega) (.int .i64 (id : Nat))) (show w.heap.size ≤ w.heap.size + 1 + 1 by omega) (.int .i64 i2)) (show w.heap.size ≤ w.heap.size + 1 + 1 by omega) (.string s2)) (show w.heap.size ≤ w.heap.size + 1 + 1 by omega) (.int .i64 j2)).trans drew_below')
       generalize ((((((w7.setCell ⟨w.heap.size + 1, 0, none⟩ (.int .i64 (d : Nat))).setCell ⟨w.heap.size + 1, 1, none⟩ (.string (nameN o.path))).setCell ⟨w.heap.size + 1, 2, none⟩ (.int .i64 (id : Nat))).setCell ⟨w.heap.size + 1 + 1, 0, none⟩ (.int .i64 i2)).setCell ⟨w.heap.size + 1 + 1, 1, none⟩ (.string s2)).setCell ⟨w.heap.size + 1 + 1, 2, none⟩ (.int .i64 j2)).drew = w9 at *
       have g10 := f1.c3
       have g20 := f2.c3
       clear f1 f2
       go_wp2
       exact bodyPost_ret (v := .tuple #[.agg #[.int .i64 (d : Nat), .string (nameN o.path), .int .i64 (id : Nat)], .agg #[.int .i64 i2, .string s2, .int .i64 j2], .int .i64 (a.par o.to 51).2]) (by simp [results, Tryz.results71, go_sem, g10, g20]) rfl ⟨⟨_, _, _, _, _, _, by rw [HR.out], fun x => ⟨HQ1.out.1, rfl, HQ1.out.2.2, HQ2.out (HR.out.symm.trans x)⟩⟩, HBF.out⟩
    ·have HR := Lib.hid (show a.endsE o = (a.par o.path 51).2 by rw [hA1, if_pos h5])
     have HS := Lib.hid (spot_bad h5)
     have HN := Lib.hid h5
     have t6 : ((a.par o.path 51).2 != 0) = true := bne_iff_ne.2 h5
     have HPE := Lib.hid (rfl : (a.par o.path 51).2 = (a.par o.path 51).2)
     clear hA1 h5
     go_enter Tryz.func71, Tryz.ntmps71
     go_wp2_with fail
     refine (hS1.out _ (HH.out _ (start_below _ _ _ _ _ _)).mx).mono ?_
     rintro e w1 ⟨v, rfl, hv, hb⟩
     obtain ⟨A1, cc1, rfl, hx1⟩ := hv
     have HO1 := Lib.hid ((EO.start w (oc o A n cap)).below hb)
     have HB1 := Lib.hid ((start_below _ _ _ _ _ _).trans (hb.mono (start_below _ _ _ _ _ _).size))
     have HV1 := Lib.hid (show Texts (w.heap.size + 1 + 1 + 1 + 1 + 1) w1 (.slice A1 (splitN o.path).1.length cc1) (splitN o.path).1 from Texts.mono ⟨A1, cc1, rfl, hx1⟩ (by simp))
     clear hx1 hb
     rw [HE1.out]
     have pA := (HO1.out).b0.cell 1
     have pB := (HO1.out).b0.cell 2
     have u0 := (HO1.out).b1.cf3
     have u3 := (HO1.out).b2.cf3
     have u6 := (HO1.out).b3.cf3
     have u9 := (HO1.out).b4.cf3
     simp at pA pB
     have l0 := (HO1.out).b0.lt
     have l1 := (HO1.out).b1.lt
     have l2 := (HO1.out).b2.lt
     have l3 := (HO1.out).b3.lt
     have l4 := (HO1.out).b4.lt
     go_wp2_with fail
     clear pA pB u0 u3 u6 u9 l0 l1 l2 l3 l4
     refine (hS2.out _ (HH.out _ HB1.out).mx).mono ?_
     rintro e w2 ⟨v, rfl, hv, hb⟩
     obtain ⟨A2, cc2, rfl, hx2⟩ := hv
     have HO2 := Lib.hid (HO1.out.below hb)
     have HB2 := Lib.hid (HB1.out.trans (hb.mono HB1.out.size))
     have HW1 := Lib.hid (HV1.out.below hb)
     have HW2 := Lib.hid (show Texts (w.heap.size + 1 + 1 + 1 + 1 + 1) w2 (.slice A2 (splitN o.to).1.length cc2) (splitN o.to).1 from Texts.mono ⟨A2, cc2, rfl, hx2⟩ (Nat.succ_le_of_lt HO1.out.b4.lt))
     clear hx2 hb
     rw [HE2.out]
     have pA := (HO2.out).b0.cell 1
     have pB := (HO2.out).b0.cell 2
     have u0 := (HO2.out).b1.cf3
     have u3 := (HO2.out).b2.cf3
     have u6 := (HO2.out).b3.cf3
     have u9 := (HO2.out).b4.cf3
     simp at pA pB
     have l0 := (HO2.out).b0.lt
     have l1 := (HO2.out).b1.lt
     have l2 := (HO2.out).b2.lt
     have l3 := (HO2.out).b3.lt
     have l4 := (HO2.out).b4.lt
     go_wp2_with fail
     clear pA pB u0 u3 u6 u9 l0 l1 l2 l3 l4
     refine (hP.out _ (HH.out _ HB2.out)).mono ?_
     rintro e w3 ⟨rfl, hb⟩
     rw [HS.out]
     have HO3 := Lib.hid (HO2.out.below hb)
     have HB3 := Lib.hid (HB2.out.trans (hb.mono HB2.out.size))
     have HX1 := Lib.hid (HW1.out.below hb)
     have HX2 := Lib.hid (HW2.out.below hb)
     clear hb
     have pA := (HO3.out).b0.cell 1
     have pB := (HO3.out).b0.cell 2
     have u0 := (HO3.out).b1.cf3
     have u3 := (HO3.out).b2.cf3
     have u6 := (HO3.out).b3.cf3
     have u9 := (HO3.out).b4.cf3
     simp at pA pB
     have l0 := (HO3.out).b0.lt
     have l1 := (HO3.out).b1.lt
     have l2 := (HO3.out).b2.lt
     have l3 := (HO3.out).b3.lt
     have l4 := (HO3.out).b4.lt
     go_wp2_with fail
     clear pA pB u0 u3 u6 u9 l0 l1 l2 l3 l4
     have HO4 : Hid (EO (((w3.setCell ⟨w.heap.size + 1 + 1 + 1, 0, none⟩ (.int .i64 0)).setCell ⟨w.heap.size + 1 + 1 + 1, 1, none⟩ (.string ⟨#[]⟩)).setCell ⟨w.heap.size + 1 + 1 + 1, 2, none⟩ (.int .i64 0)) w.heap.size (oc o A n cap) #[.int .i64 0, .string ⟨#[]⟩, .int .i64 0] #[.int .i64 0, .string ⟨#[]⟩, .int .i64 0]) := Lib.hid ⟨(((HO3.out.b0.far (p := ⟨w.heap.size + 1 + 1 + 1, 0, none⟩) (show w.heap.size ≠ w.heap.size + 1 + 1 + 1 by omega) (.int .i64 0)).far (p := ⟨w.heap.size + 1 + 1 + 1, 1, none⟩) (show w.heap.size ≠ w.heap.size + 1 + 1 + 1 by omega) (.string ⟨#[]⟩)).far (p := ⟨w.heap.size + 1 + 1 + 1, 2, none⟩) (show w.heap.size ≠ w.heap.size + 1 + 1 + 1 by omega) (.int .i64 0)), (((HO3.out.b1.far (p := ⟨w.heap.size + 1 + 1 + 1, 0, none⟩) (show w.heap.size + 1 ≠ w.heap.size + 1 + 1 + 1 by omega) (.int .i64 0)).far (p := ⟨w.heap.size + 1 + 1 + 1, 1, none⟩) (show w.heap.size + 1 ≠ w.heap.size + 1 + 1 + 1 by omega) (.string ⟨#[]⟩)).far (p := ⟨w.heap.size + 1 + 1 + 1, 2, none⟩) (show w.heap.size + 1 ≠ w.heap.size + 1 + 1 + 1 by omega) (.int .i64 0)), (((HO3.out.b2.far (p := ⟨w.heap.size + 1 + 1 + 1, 0, none⟩) (show w.heap.size + 1 + 1 ≠ w.heap.size + 1 + 1 + 1 by omega) (.int .i64 0)).far (p := ⟨w.heap.size + 1 + 1 + 1, 1, none⟩) (show w.heap.size + 1 + 1 ≠ w.heap.size + 1 + 1 + 1 by omega) (.string ⟨#[]⟩)).far (p := ⟨w.heap.size + 1 + 1 + 1, 2, none⟩) (show w.heap.size + 1 + 1 ≠ w.heap.size + 1 + 1 + 1 by omega) (.int .i64 0)), (((HO3.out.b3.set_ 0 (.int .i64 0)).set_ 1 (.string ⟨#[]⟩)).set_ 2 (.int .i64 0)), (((HO3.out.b4.far (p := ⟨w.heap.size + 1 + 1 + 1, 0, none⟩) (show w.heap.size + 1 + 1 + 1 + 1 ≠ w.heap.size + 1 + 1 + 1 by omega) (.int .i64 0)).far (p := ⟨w.heap.size + 1 + 1 + 1, 1, none⟩) (show w.heap.size + 1 + 1 + 1 + 1 ≠ w.heap.size + 1 + 1 + 1 by omega) (.string ⟨#[]⟩)).far (p := ⟨w.heap.size + 1 + 1 + 1, 2, none⟩) (show w.heap.size + 1 + 1 + 1 + 1 ≠ w.heap.size + 1 + 1 + 1 by omega) (.int .i64 0))⟩
     have HB4 := Lib.hid (below_set (p := ⟨w.heap.size + 1 + 1 + 1, 2, none⟩) (below_set (p := ⟨w.heap.size + 1 + 1 + 1, 1, none⟩) (below_set (p := ⟨w.heap.size + 1 + 1 + 1, 0, none⟩) HB3.out (show w.heap.size ≤ w.heap.size + 1 + 1 + 1 by omega) (.int .i64 0)) (show w.heap.size ≤ w.heap.size + 1 + 1 + 1 by omega) (.string ⟨#[]⟩)) (show w.heap.size ≤ w.heap.size + 1 + 1 + 1 by omega) (.int .i64 0))
     have hT4 := (((Turn.refl (· = w.heap.size + 1 + 1 + 1) w3).setCell (p := ⟨w.heap.size + 1 + 1 + 1, 0, none⟩) (fun _ => rfl) (.int .i64 0)).setCell (p := ⟨w.heap.size + 1 + 1 + 1, 1, none⟩) (fun _ => rfl) (.string ⟨#[]⟩)).setCell (p := ⟨w.heap.size + 1 + 1 + 1, 2, none⟩) (fun _ => rfl) (.int .i64 0)
     have HY1 := Lib.hid (HX1.out.turn hT4 fun k hk e => by omega)
     have HY2 := Lib.hid (HX2.out.turn hT4 fun k hk e => by omega)
     clear hT4
     generalize (((w3.setCell ⟨w.heap.size + 1 + 1 + 1, 0, none⟩ (.int .i64 0)).setCell ⟨w.heap.size + 1 + 1 + 1, 1, none⟩ (.string ⟨#[]⟩)).setCell ⟨w.heap.size + 1 + 1 + 1, 2, none⟩ (.int .i64 0)) = w4 at *
     have pA := (HO4.out).b0.cell 1
     have pB := (HO4.out).b0.cell 2
     have u0 := (HO4.out).b1.cf3
     have u3 := (HO4.out).b2.cf3
     have u6 := (HO4.out).b3.cf3
     have u9 := (HO4.out).b4.cf3
     simp at pA pB
     have l0 := (HO4.out).b0.lt
     have l1 := (HO4.out).b1.lt
     have l2 := (HO4.out).b2.lt
     have l3 := (HO4.out).b3.lt
     have l4 := (HO4.out).b4.lt
     go_region
     clear pA pB u0 u3 u6 u9 l0 l1 l2 l3 l4
     have f1 := (((((((HO4.out).b1.set_ 0 (.int .i64 0)).set_ 1 (.string ⟨#[]⟩)).set_ 2 (.int .i64 0)).far (p := ⟨w.heap.size + 1 + 1, 0, none⟩) (show w.heap.size + 1 ≠ w.heap.size + 1 + 1 by omega) (.int .i64 0)).far (p := ⟨w.heap.size + 1 + 1, 1, none⟩) (show w.heap.size + 1 ≠ w.heap.size + 1 + 1 by omega) (.string ⟨#[]⟩)).far (p := ⟨w.heap.size + 1 + 1, 2, none⟩) (show w.heap.size + 1 ≠ w.heap.size + 1 + 1 by omega) (.int .i64 0)).drew
     have f2 := (((((((HO4.out).b2.far (p := ⟨w.heap.size + 1, 0, none⟩) (show w.heap.size + 1 + 1 ≠ w.heap.size + 1 by omega) (.int .i64 0)).far (p := ⟨w.heap.size + 1, 1, none⟩) (show w.heap.size + 1 + 1 ≠ w.heap.size + 1 by omega) (.string ⟨#[]⟩)).far (p := ⟨w.heap.size + 1, 2, none⟩) (show w.heap.size + 1 + 1 ≠ w.heap.size + 1 by omega) (.int .i64 0)).set_ 0 (.int .i64 0)).set_ 1 (.string ⟨#[]⟩)).set_ 2 (.int .i64 0)).drew
     have HBF := Lib.hid ((below_set (p := ⟨w.heap.size + 1 + 1, 2, none⟩) (below_set (p := ⟨w.heap.size + 1 + 1, 1, none⟩) (below_set (p := ⟨w.heap.size + 1 + 1, 0, none⟩) (below_set (p := ⟨w.heap.size + 1, 2, none⟩) (below_set (p := ⟨w.heap.size + 1, 1, none⟩) (below_set (p := ⟨w.heap.size + 1, 0, none⟩) HB4.out (show w.heap.size ≤ w.heap.size + 1 by omega) (.int .i64 0)) (show w.heap.size ≤ w.heap.size + 1 by omega) (.string ⟨#[]⟩)) (show w.heap.size ≤ w.heap.size + 1 by omega) (.int .i64 0)) (show w.heap.size ≤ w.heap.size + 1 + 1 by omega) (.int .i64 0)) (show w.heap.size ≤ w.heap.size + 1 + 1 by omega) (.string ⟨#[]⟩)) (show w.heap.size ≤ w.heap.size + 1 + 1 by omega) (.int .i64 0)).trans drew_below')
     generalize ((((((w4.setCell ⟨w.heap.size + 1, 0, none⟩ (.int .i64 0)).setCell ⟨w.heap.size + 1, 1, none⟩ (.string ⟨#[]⟩)).setCell ⟨w.heap.size + 1, 2, none⟩ (.int .i64 0)).setCell ⟨w.heap.size + 1 + 1, 0, none⟩ (.int .i64 0)).setCell ⟨w.heap.size + 1 + 1, 1, none⟩ (.string ⟨#[]⟩)).setCell ⟨w.heap.size + 1 + 1, 2, none⟩ (.int .i64 0)).drew = w9 at *
     have g10 := f1.c3
     have g20 := f2.c3
     clear f1 f2
     go_wp2
     exact bodyPost_ret (v := .tuple #[.agg #[.int .i64 0, .string ⟨#[]⟩, .int .i64 0], .agg #[.int .i64 0, .string ⟨#[]⟩, .int .i64 0], .int .i64 (a.par o.path 51).2]) (by simp [results, Tryz.results71, go_sem, g10, g20]) rfl ⟨⟨_, _, _, _, _, _, by rw [HR.out], fun x => absurd (HR.out.symm.trans x) HN.out⟩, HBF.out⟩
  ·have t1 : ((splitN o.to).2 != 0) = true := bne_iff_ne.2 h2
   have HR := Lib.hid (show a.endsE o = (splitN o.to).2 by rw [hA1, if_pos h2])
   have HN := Lib.hid h2
   clear h2 hA1
   go_enter Tryz.func71, Tryz.ntmps71
   go_wp2_with fail
   refine (hS1.out _ (HH.out _ (start_below _ _ _ _ _ _)).mx).mono ?_
   rintro e w1 ⟨v, rfl, hv, hb⟩
   obtain ⟨A1, cc1, rfl, hx1⟩ := hv
   have HO1 := Lib.hid ((EO.start w (oc o A n cap)).below hb)
   have HB1 := Lib.hid ((start_below _ _ _ _ _ _).trans (hb.mono (start_below _ _ _ _ _ _).size))
   have HV1 := Lib.hid (show Texts (w.heap.size + 1 + 1 + 1 + 1 + 1) w1 (.slice A1 (splitN o.path).1.length cc1) (splitN o.path).1 from Texts.mono ⟨A1, cc1, rfl, hx1⟩ (by simp))
   clear hx1 hb
   rw [HE1.out]
   have pA := (HO1.out).b0.cell 1
   have pB := (HO1.out).b0.cell 2
   have u0 := (HO1.out).b1.cf3
   have u3 := (HO1.out).b2.cf3
   have u6 := (HO1.out).b3.cf3
   have u9 := (HO1.out).b4.cf3
   simp at pA pB
   have l0 := (HO1.out).b0.lt
   have l1 := (HO1.out).b1.lt
   have l2 := (HO1.out).b2.lt
   have l3 := (HO1.out).b3.lt
   have l4 := (HO1.out).b4.lt
   go_wp2_with fail
   clear pA pB u0 u3 u6 u9 l0 l1 l2 l3 l4
   refine (hS2.out _ (HH.out _ HB1.out).mx).mono ?_
   rintro e w2 ⟨v, rfl, hv, hb⟩
   obtain ⟨A2, cc2, rfl, hx2⟩ := hv
   have HO2 := Lib.hid (HO1.out.below hb)
   have HB2 := Lib.hid (HB1.out.trans (hb.mono HB1.out.size))
   have HW1 := Lib.hid (HV1.out.below hb)
   have HW2 := Lib.hid (show Texts (w.heap.size + 1 + 1 + 1 + 1 + 1) w2 (.slice A2 (splitN o.to).1.length cc2) (splitN o.to).1 from Texts.mono ⟨A2, cc2, rfl, hx2⟩ (Nat.succ_le_of_lt HO1.out.b4.lt))
   clear hx2 hb
   have pA := (HO2.out).b0.cell 1
   have pB := (HO2.out).b0.cell 2
   have u0 := (HO2.out).b1.cf3
   have u3 := (HO2.out).b2.cf3
   have u6 := (HO2.out).b3.cf3
   have u9 := (HO2.out).b4.cf3
   simp at pA pB
   have l0 := (HO2.out).b0.lt
   have l1 := (HO2.out).b1.lt
   have l2 := (HO2.out).b2.lt
   have l3 := (HO2.out).b3.lt
   have l4 := (HO2.out).b4.lt
   go_wp2_with fail
   clear pA pB u0 u3 u6 u9 l0 l1 l2 l3 l4
   have pA := (HO2.out).b0.cell 1
   have pB := (HO2.out).b0.cell 2
   have u0 := (HO2.out).b1.cf3
   have u3 := (HO2.out).b2.cf3
   have u6 := (HO2.out).b3.cf3
   have u9 := (HO2.out).b4.cf3
   simp at pA pB
   have l0 := (HO2.out).b0.lt
   have l1 := (HO2.out).b1.lt
   have l2 := (HO2.out).b2.lt
   have l3 := (HO2.out).b3.lt
   have l4 := (HO2.out).b4.lt
   go_region
   clear pA pB u0 u3 u6 u9 l0 l1 l2 l3 l4
   have f1 := (((((((HO2.out).b1.set_ 0 (.int .i64 0)).set_ 1 (.string ⟨#[]⟩)).set_ 2 (.int .i64 0)).far (p := ⟨w.heap.size + 1 + 1, 0, none⟩) (show w.heap.size + 1 ≠ w.heap.size + 1 + 1 by omega) (.int .i64 0)).far (p := ⟨w.heap.size + 1 + 1, 1, none⟩) (show w.heap.size + 1 ≠ w.heap.size + 1 + 1 by omega) (.string ⟨#[]⟩)).far (p := ⟨w.heap.size + 1 + 1, 2, none⟩) (show w.heap.size + 1 ≠ w.heap.size + 1 + 1 by omega) (.int .i64 0)).drew
   have f2 := (((((((HO2.out).b2.far (p := ⟨w.heap.size + 1, 0, none⟩) (show w.heap.size + 1 + 1 ≠ w.heap.size + 1 by omega) (.int .i64 0)).far (p := ⟨w.heap.size + 1, 1, none⟩) (show w.heap.size + 1 + 1 ≠ w.heap.size + 1 by omega) (.string ⟨#[]⟩)).far (p := ⟨w.heap.size + 1, 2, none⟩) (show w.heap.size + 1 + 1 ≠ w.heap.size + 1 by omega) (.int .i64 0)).set_ 0 (.int .i64 0)).set_ 1 (.string ⟨#[]⟩)).set_ 2 (.int .i64 0)).drew
   have HBF := Lib.hid ((below_set (p := ⟨w.heap.size + 1 + 1, 2, none⟩) (below_set (p := ⟨w.heap.size + 1 + 1, 1, none⟩) (below_set (p := ⟨w.heap.size + 1 + 1, 0, none⟩) (below_set (p := ⟨w.heap.size + 1, 2, none⟩) (below_set (p := ⟨w.heap.size + 1, 1, none⟩) (below_set (p := ⟨w.heap.size + 1, 0, none⟩) HB2.out (show w.heap.size ≤ w.heap.size + 1 by omega) (.int .i64 0)) (show w.heap.size ≤ w.heap.size + 1 by omega) (.string ⟨#[]⟩)) (show w.heap.size ≤ w.heap.size + 1 by omega) (.int .i64 0)) (show w.heap.size ≤ w.heap.size + 1 + 1 by omega) (.int .i64 0)) (show w.heap.size ≤ w.heap.size + 1 + 1 by omega) (.string ⟨#[]⟩)) (show w.heap.size ≤ w.heap.size + 1 + 1 by omega) (.int .i64 0)).trans drew_below')
   generalize ((((((w2.setCell ⟨w.heap.size + 1, 0, none⟩ (.int .i64 0)).setCell ⟨w.heap.size + 1, 1, none⟩ (.string ⟨#[]⟩)).setCell ⟨w.heap.size + 1, 2, none⟩ (.int .i64 0)).setCell ⟨w.heap.size + 1 + 1, 0, none⟩ (.int .i64 0)).setCell ⟨w.heap.size + 1 + 1, 1, none⟩ (.string ⟨#[]⟩)).setCell ⟨w.heap.size + 1 + 1, 2, none⟩ (.int .i64 0)).drew = w9 at *
   have g10 := f1.c3
   have g20 := f2.c3
   clear f1 f2
   go_wp2
   exact bodyPost_ret (v := .tuple #[.agg #[.int .i64 0, .string ⟨#[]⟩, .int .i64 0], .agg #[.int .i64 0, .string ⟨#[]⟩, .int .i64 0], .int .i64 (splitN o.to).2]) (by simp [results, Tryz.results71, go_sem, g10, g20]) rfl ⟨⟨_, _, _, _, _, _, by rw [HR.out], fun x => absurd (HR.out.symm.trans x) HN.out⟩, HBF.out⟩
 ·have t1 : ((splitN o.path).2 != 0) = true := bne_iff_ne.2 h1
  have HR := Lib.hid (show a.endsE o = (splitN o.path).2 by unfold TS.endsE; rw [if_pos h1])
  have HN := Lib.hid h1
  clear h1
  go_enter Tryz.func71, Tryz.ntmps71
  go_wp2_with fail
  refine (hS1.out _ (HH.out _ (start_below _ _ _ _ _ _)).mx).mono ?_
  rintro e w1 ⟨v, rfl, hv, hb⟩
  obtain ⟨A1, cc1, rfl, hx1⟩ := hv
  have HO1 := Lib.hid ((EO.start w (oc o A n cap)).below hb)
  have HB1 := Lib.hid ((start_below _ _ _ _ _ _).trans (hb.mono (start_below _ _ _ _ _ _).size))
  have HV1 := Lib.hid (show Texts (w.heap.size + 1 + 1 + 1 + 1 + 1) w1 (.slice A1 (splitN o.path).1.length cc1) (splitN o.path).1 from Texts.mono ⟨A1, cc1, rfl, hx1⟩ (by simp))
  clear hx1 hb
  have pA := (HO1.out).b0.cell 1
  have pB := (HO1.out).b0.cell 2
  have u0 := (HO1.out).b1.cf3
  have u3 := (HO1.out).b2.cf3
  have u6 := (HO1.out).b3.cf3
  have u9 := (HO1.out).b4.cf3
  simp at pA pB
  have l0 := (HO1.out).b0.lt
  have l1 := (HO1.out).b1.lt
  have l2 := (HO1.out).b2.lt
  have l3 := (HO1.out).b3.lt
  have l4 := (HO1.out).b4.lt
  go_wp2_with fail
  clear pA pB u0 u3 u6 u9 l0 l1 l2 l3 l4
  have pA := (HO1.out).b0.cell 1
  have pB := (HO1.out).b0.cell 2
  have u0 := (HO1.out).b1.cf3
  have u3 := (HO1.out).b2.cf3
  have u6 := (HO1.out).b3.cf3
  have u9 := (HO1.out).b4.cf3
  simp at pA pB
  have l0 := (HO1.out).b0.lt
  have l1 := (HO1.out).b1.lt
  have l2 := (HO1.out).b2.lt
  have l3 := (HO1.out).b3.lt
  have l4 := (HO1.out).b4.lt
  go_region
  clear pA pB u0 u3 u6 u9 l0 l1 l2 l3 l4
  have f1 := (((((((HO1.out).b1.set_ 0 (.int .i64 0)).set_ 1 (.string ⟨#[]⟩)).set_ 2 (.int .i64 0)).far (p := ⟨w.heap.size + 1 + 1, 0, none⟩) (show w.heap.size + 1 ≠ w.heap.size + 1 + 1 by omega) (.int .i64 0)).far (p := ⟨w.heap.size + 1 + 1, 1, none⟩) (show w.heap.size + 1 ≠ w.heap.size + 1 + 1 by omega) (.string ⟨#[]⟩)).far (p := ⟨w.heap.size + 1 + 1, 2, none⟩) (show w.heap.size + 1 ≠ w.heap.size + 1 + 1 by omega) (.int .i64 0)).drew
  have f2 := (((((((HO1.out).b2.far (p := ⟨w.heap.size + 1, 0, none⟩) (show w.heap.size + 1 + 1 ≠ w.heap.size + 1 by omega) (.int .i64 0)).far (p := ⟨w.heap.size + 1, 1, none⟩) (show w.heap.size + 1 + 1 ≠ w.heap.size + 1 by omega) (.string ⟨#[]⟩)).far (p := ⟨w.heap.size + 1, 2, none⟩) (show w.heap.size + 1 + 1 ≠ w.heap.size + 1 by omega) (.int .i64 0)).set_ 0 (.int .i64 0)).set_ 1 (.string ⟨#[]⟩)).set_ 2 (.int .i64 0)).drew
  have HBF := Lib.hid ((below_set (p := ⟨w.heap.size + 1 + 1, 2, none⟩) (below_set (p := ⟨w.heap.size + 1 + 1, 1, none⟩) (below_set (p := ⟨w.heap.size + 1 + 1, 0, none⟩) (below_set (p := ⟨w.heap.size + 1, 2, none⟩) (below_set (p := ⟨w.heap.size + 1, 1, none⟩) (below_set (p := ⟨w.heap.size + 1, 0, none⟩) HB1.out (show w.heap.size ≤ w.heap.size + 1 by omega) (.int .i64 0)) (show w.heap.size ≤ w.heap.size + 1 by omega) (.string ⟨#[]⟩)) (show w.heap.size ≤ w.heap.size + 1 by omega) (.int .i64 0)) (show w.heap.size ≤ w.heap.size + 1 + 1 by omega) (.int .i64 0)) (show w.heap.size ≤ w.heap.size + 1 + 1 by omega) (.string ⟨#[]⟩)) (show w.heap.size ≤ w.heap.size + 1 + 1 by omega) (.int .i64 0)).trans drew_below')
  generalize ((((((w1.setCell ⟨w.heap.size + 1, 0, none⟩ (.int .i64 0)).setCell ⟨w.heap.size + 1, 1, none⟩ (.string ⟨#[]⟩)).setCell ⟨w.heap.size + 1, 2, none⟩ (.int .i64 0)).setCell ⟨w.heap.size + 1 + 1, 0, none⟩ (.int .i64 0)).setCell ⟨w.heap.size + 1 + 1, 1, none⟩ (.string ⟨#[]⟩)).setCell ⟨w.heap.size + 1 + 1, 2, none⟩ (.int .i64 0)).drew = w9 at *
  have g10 := f1.c3
  have g20 := f2.c3
  clear f1 f2
  go_wp2
  exact bodyPost_ret (v := .tuple #[.agg #[.int .i64 0, .string ⟨#[]⟩, .int .i64 0], .agg #[.int .i64 0, .string ⟨#[]⟩, .int .i64 0], .int .i64 (splitN o.path).2]) (by simp [results, Tryz.results71, go_sem, g10, g20]) rfl ⟨⟨_, _, _, _, _, _, by rw [HR.out], fun x => absurd (HR.out.symm.trans x) HN.out⟩, HBF.out⟩
end
end Go.Proofs.YtpkhglfhpggceaaGreatDoor
