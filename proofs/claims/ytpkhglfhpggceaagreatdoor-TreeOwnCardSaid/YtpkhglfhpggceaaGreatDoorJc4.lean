/- What the reference does to memory: rename, refused (printed by genrren.py). What the reference does to memory: rename (printed by genrren.py). What the reference does to memory: open (printed by genropen.py). What the reference does to memory: open, where it is OK (printed by genropok.py). -/
import Derived.Test.YtpkhglfhpggceaaGreatDoorJc2
import Derived.Test.YtpkhglfhpggceaaGreatDoorJc1
import Derived.Deep.CutRange
namespace Go.Proofs.YtpkhglfhpggceaaGreatDoor
set_option maxRecDepth 100000
set_option maxHeartbeats 16000000
open Go.RowKit
set_option linter.unusedVariables false
set_option linter.unusedSimpArgs false
section
variable {F : Nat → Prop} {w w' : World} {y c : Nat} {R : RMem} {a : TS}
theorem rren_s1 (o : OpT) (A : Option Addr) (n cap : Nat) (w : World) (h : RIs F w y R a) (hg : Good a c) (hc : c + 20 ≤ 100000) (hp : o.path.size ≤ 1000) (hp2 : o.to.size ≤ 1000) (he1 : (splitN o.path).2 ≠ 0) :
  Calls Tryz.prog 38 #[.pointer (some ⟨y, 0, none⟩), o.val A n cap] w (RAnsPost F y (a) w) := by
 unfold OpT.val
 have HT := Lib.hid h
 have HH := Lib.hid (fun W (hb : Below w.heap.size w W) => h.below hb)
 have HS1 := Lib.hid (fun W => rsplit_any o.path W (by omega))
 have HS2 := Lib.hid (fun W => rsplit_any o.to W (by omega))
 have t9 : ((splitN o.path).2 != 0) = true := bne_iff_ne.2 he1
 clear h hg he1
 go_enter Tryz.func38, Tryz.ntmps38
 go_upto_region 1 with (fail)
 obtain ⟨w1, hwe, HO1, HB1⟩ := asked w (oc o A n cap)
 rw [← hwe]
 clear hwe
 have ua0 := (HO1.out).b0.c8
 have ur0 := (HO1.out).b1.cf7
 have ul := (HO1.out).b1.lt
 go_wp2_with fail
 refine (HS1.out _).mono ?_
 rintro e w2 ⟨v1, rfl, hv1, hb2⟩
 obtain ⟨A1, c1, rfl, hx1⟩ := hv1
 clear ua0 ur0 ul
 have HV1 := Lib.hid (show Texts w1.heap.size w2 (.slice A1 (splitN o.path).1.length c1) (splitN o.path).1 from ⟨A1, c1, rfl, hx1⟩)
 have HO2 := Lib.hid (HO1.out.below hb2)
 have HB2 := Lib.hid (HB1.out.trans (hb2.mono HB1.out.size))
 clear hb2 hx1
 have za0 := (HO2.out).b0.c8
 have zr0 := (HO2.out).b1.cf7
 have zl := (HO2.out).b1.lt
 go_wp2_with fail
 refine (failed_any _ _).mono ?_
 rintro e w5 ⟨rfl, hb5⟩
 have HOF := Lib.hid (HO2.out.below hb5)
 have HBF := Lib.hid (HB2.out.trans (hb5.mono HB2.out.size))
 clear hb5
 have vr0 := (HOF.out).b1.cf7
 have vl := (HOF.out).b1.lt
 go_wp2_with fail
 refine bodyPost_ret (v := .agg #[.int .i64 (splitN o.path).2, .int .i64 0, .slice none 0 0, .slice none 0 0, .int .i64 0, .int .i64 0, .int .i64 0]) (by simp [results, Tryz.results38, go_sem, vr0, vl]) rfl ?_
 exact rans_same HT.out (ans_set HBF.out (by omega) _ _ _ _ _ _ _)
theorem rren_s2 (o : OpT) (A : Option Addr) (n cap : Nat) (w : World) (h : RIs F w y R a) (hg : Good a c) (hc : c + 20 ≤ 100000) (hp : o.path.size ≤ 1000) (hp2 : o.to.size ≤ 1000) (he1 : (splitN o.path).2 = 0) (he2 : (splitN o.to).2 ≠ 0) :
  Calls Tryz.prog 38 #[.pointer (some ⟨y, 0, none⟩), o.val A n cap] w (RAnsPost F y (a) w) := by
 unfold OpT.val
 have HT := Lib.hid h
 have HH := Lib.hid (fun W (hb : Below w.heap.size w W) => h.below hb)
 have HS1 := Lib.hid (fun W => rsplit_any o.path W (by omega))
 have HS2 := Lib.hid (fun W => rsplit_any o.to W (by omega))
 have HE1 := Lib.hid he1
 have t9 : ((splitN o.to).2 != 0) = true := bne_iff_ne.2 he2
 clear h hg he1 he2
 go_enter Tryz.func38, Tryz.ntmps38
 go_upto_region 1 with (fail)
 obtain ⟨w1, hwe, HO1, HB1⟩ := asked w (oc o A n cap)
 rw [← hwe]
 clear hwe
 have ua0 := (HO1.out).b0.c8
 have ur0 := (HO1.out).b1.cf7
 have ul := (HO1.out).b1.lt
 go_wp2_with fail
 refine (HS1.out _).mono ?_
 rintro e w2 ⟨v1, rfl, hv1, hb2⟩
 obtain ⟨A1, c1, rfl, hx1⟩ := hv1
 clear ua0 ur0 ul
 have HV1 := Lib.hid (show Texts w1.heap.size w2 (.slice A1 (splitN o.path).1.length c1) (splitN o.path).1 from ⟨A1, c1, rfl, hx1⟩)
 have HO2 := Lib.hid (HO1.out.below hb2)
 have HB2 := Lib.hid (HB1.out.trans (hb2.mono HB1.out.size))
 clear hb2 hx1
 have za0 := (HO2.out).b0.c8
 have zr0 := (HO2.out).b1.cf7
 have zl := (HO2.out).b1.lt
 rw [HE1.out]
 go_wp2_with fail
 refine (HS2.out _).mono ?_
 rintro e w3 ⟨v2, rfl, hv2, hb3⟩
 obtain ⟨A2, c2, rfl, hx2⟩ := hv2
 clear za0 zr0 zl
 have HV2 := Lib.hid (show Texts w2.heap.size w3 (.slice A2 (splitN o.to).1.length c2) (splitN o.to).1 from ⟨A2, c2, rfl, hx2⟩)
 have HW1 := Lib.hid (HV1.out.below hb3)
 have HO3 := Lib.hid (HO2.out.below hb3)
 have HB3 := Lib.hid (HB2.out.trans (hb3.mono HB2.out.size))
 clear hb3 hx2
 have xa0 := (HO3.out).b0.c8
 have xr0 := (HO3.out).b1.cf7
 have xl := (HO3.out).b1.lt
 go_wp2_with fail
 refine (failed_any _ _).mono ?_
 rintro e w5 ⟨rfl, hb5⟩
 have HOF := Lib.hid (HO3.out.below hb5)
 have HBF := Lib.hid (HB3.out.trans (hb5.mono HB3.out.size))
 clear hb5
 have vr0 := (HOF.out).b1.cf7
 have vl := (HOF.out).b1.lt
 go_wp2_with fail
 refine bodyPost_ret (v := .agg #[.int .i64 (splitN o.to).2, .int .i64 0, .slice none 0 0, .slice none 0 0, .int .i64 0, .int .i64 0, .int .i64 0]) (by simp [results, Tryz.results38, go_sem, vr0, vl]) rfl ?_
 exact rans_same HT.out (ans_set HBF.out (by omega) _ _ _ _ _ _ _)
theorem rren_51 (o : OpT) (A : Option Addr) (n cap : Nat) (w : World) (h : RIs F w y R a) (hg : Good a c) (hc : c + 20 ≤ 100000) (hp : o.path.size ≤ 1000) (hp2 : o.to.size ≤ 1000) (he1 : (splitN o.path).2 = 0) (he2 : (splitN o.to).2 = 0) (hl : (splitN o.path).1.length = 0 ∨ (splitN o.to).1.length = 0) :
  Calls Tryz.prog 38 #[.pointer (some ⟨y, 0, none⟩), o.val A n cap] w (RAnsPost F y (a) w) := by
 unfold OpT.val
 have HT := Lib.hid h
 have HH := Lib.hid (fun W (hb : Below w.heap.size w W) => h.below hb)
 have HS1 := Lib.hid (fun W => rsplit_any o.path W (by omega))
 have HS2 := Lib.hid (fun W => rsplit_any o.to W (by omega))
 have HE1 := Lib.hid he1
 have HE2 := Lib.hid he2
 clear h hg he1 he2
 by_cases hl1 : (splitN o.path).1.length = 0
 ·have l1 : ((((splitN o.path).1.length : Nat) : Int) == 0) = true := by rw [hl1]; rfl
  clear hl hl1
  go_enter Tryz.func38, Tryz.ntmps38
  go_upto_region 1 with (fail)
  obtain ⟨w1, hwe, HO1, HB1⟩ := asked w (oc o A n cap)
  rw [← hwe]
  clear hwe
  have ua0 := (HO1.out).b0.c8
  have ur0 := (HO1.out).b1.cf7
  have ul := (HO1.out).b1.lt
  go_wp2_with fail
  refine (HS1.out _).mono ?_
  rintro e w2 ⟨v1, rfl, hv1, hb2⟩
  obtain ⟨A1, c1, rfl, hx1⟩ := hv1
  clear ua0 ur0 ul
  have HV1 := Lib.hid (show Texts w1.heap.size w2 (.slice A1 (splitN o.path).1.length c1) (splitN o.path).1 from ⟨A1, c1, rfl, hx1⟩)
  have HO2 := Lib.hid (HO1.out.below hb2)
  have HB2 := Lib.hid (HB1.out.trans (hb2.mono HB1.out.size))
  clear hb2 hx1
  have za0 := (HO2.out).b0.c8
  have zr0 := (HO2.out).b1.cf7
  have zl := (HO2.out).b1.lt
  rw [HE1.out]
  go_wp2_with fail
  refine (HS2.out _).mono ?_
  rintro e w3 ⟨v2, rfl, hv2, hb3⟩
  obtain ⟨A2, c2, rfl, hx2⟩ := hv2
  clear za0 zr0 zl
  have HV2 := Lib.hid (show Texts w2.heap.size w3 (.slice A2 (splitN o.to).1.length c2) (splitN o.to).1 from ⟨A2, c2, rfl, hx2⟩)
  have HW1 := Lib.hid (HV1.out.below hb3)
  have HO3 := Lib.hid (HO2.out.below hb3)
  have HB3 := Lib.hid (HB2.out.trans (hb3.mono HB2.out.size))
  clear hb3 hx2
  have xa0 := (HO3.out).b0.c8
  have xr0 := (HO3.out).b1.cf7
  have xl := (HO3.out).b1.lt
  rw [HE2.out]
  go_wp2_with fail
  refine (failed_any _ _).mono ?_
  rintro e w5 ⟨rfl, hb5⟩
  have HOF := Lib.hid (HO3.out.below hb5)
  have HBF := Lib.hid (HB3.out.trans (hb5.mono HB3.out.size))
  clear hb5
  have vr0 := (HOF.out).b1.cf7
  have vl := (HOF.out).b1.lt
  go_wp2_with fail
  refine bodyPost_ret (v := .agg #[.int .i64 51, .int .i64 0, .slice none 0 0, .slice none 0 0, .int .i64 0, .int .i64 0, .int .i64 0]) (by simp [results, Tryz.results38, go_sem, vr0, vl]) rfl ?_
  exact rans_same HT.out (ans_set HBF.out (by omega) _ _ _ _ _ _ _)
 ·have l1 : ((((splitN o.path).1.length : Nat) : Int) == 0) = false := beq_eq_false_iff_ne.2 (by omega)
  have l2 : ((((splitN o.to).1.length : Nat) : Int) == 0) = true := by rw [hl.resolve_left hl1]; rfl
  clear hl hl1
  go_enter Tryz.func38, Tryz.ntmps38
  go_upto_region 1 with (fail)
  obtain ⟨w1, hwe, HO1, HB1⟩ := asked w (oc o A n cap)
  rw [← hwe]
  clear hwe
  have ua0 := (HO1.out).b0.c8
  have ur0 := (HO1.out).b1.cf7
  have ul := (HO1.out).b1.lt
  go_wp2_with fail
  refine (HS1.out _).mono ?_
  rintro e w2 ⟨v1, rfl, hv1, hb2⟩
  obtain ⟨A1, c1, rfl, hx1⟩ := hv1
  clear ua0 ur0 ul
  have HV1 := Lib.hid (show Texts w1.heap.size w2 (.slice A1 (splitN o.path).1.length c1) (splitN o.path).1 from ⟨A1, c1, rfl, hx1⟩)
  have HO2 := Lib.hid (HO1.out.below hb2)
  have HB2 := Lib.hid (HB1.out.trans (hb2.mono HB1.out.size))
  clear hb2 hx1
  have za0 := (HO2.out).b0.c8
  have zr0 := (HO2.out).b1.cf7
  have zl := (HO2.out).b1.lt
  rw [HE1.out]
  go_wp2_with fail
  refine (HS2.out _).mono ?_
  rintro e w3 ⟨v2, rfl, hv2, hb3⟩
  obtain ⟨A2, c2, rfl, hx2⟩ := hv2
  clear za0 zr0 zl
  have HV2 := Lib.hid (show Texts w2.heap.size w3 (.slice A2 (splitN o.to).1.length c2) (splitN o.to).1 from ⟨A2, c2, rfl, hx2⟩)
  have HW1 := Lib.hid (HV1.out.below hb3)
  have HO3 := Lib.hid (HO2.out.below hb3)
  have HB3 := Lib.hid (HB2.out.trans (hb3.mono HB2.out.size))
  clear hb3 hx2
  have xa0 := (HO3.out).b0.c8
  have xr0 := (HO3.out).b1.cf7
  have xl := (HO3.out).b1.lt
  rw [HE2.out]
  go_wp2_with fail
  refine (failed_any _ _).mono ?_
  rintro e w5 ⟨rfl, hb5⟩
  have HOF := Lib.hid (HO3.out.below hb5)
  have HBF := Lib.hid (HB3.out.trans (hb5.mono HB3.out.size))
  clear hb5
  have vr0 := (HOF.out).b1.cf7
  have vl := (HOF.out).b1.lt
  go_wp2_with fail
  refine bodyPost_ret (v := .agg #[.int .i64 51, .int .i64 0, .slice none 0 0, .slice none 0 0, .int .i64 0, .int .i64 0, .int .i64 0]) (by simp [results, Tryz.results38, go_sem, vr0, vl]) rfl ?_
  exact rans_same HT.out (ans_set HBF.out (by omega) _ _ _ _ _ _ _)
theorem rren_par (o : OpT) (A : Option Addr) (n cap : Nat) (w : World) (h : RIs F w y R a) (hg : Good a c) (hc : c + 20 ≤ 100000) (hp : o.path.size ≤ 1000) (hp2 : o.to.size ≤ 1000) (he1 : (splitN o.path).2 = 0) (he2 : (splitN o.to).2 = 0) (hl1 : (splitN o.path).1.length ≠ 0) (hl2 : (splitN o.to).1.length ≠ 0) (he : (a.par o.path 51).2 ≠ 0) :
  Calls Tryz.prog 38 #[.pointer (some ⟨y, 0, none⟩), o.val A n cap] w (RAnsPost F y (a) w) := by
 unfold OpT.val
 have HT := Lib.hid h
 have HH := Lib.hid (fun W (hb : Below w.heap.size w W) => h.below hb)
 have HS1 := Lib.hid (fun W => rsplit_any o.path W (by omega))
 have HS2 := Lib.hid (fun W => rsplit_any o.to W (by omega))
 have HE1 := Lib.hid he1
 have HE2 := Lib.hid he2
 have l1 : ((((splitN o.path).1.length : Nat) : Int) == 0) = false := beq_eq_false_iff_ne.2 (by omega)
 have l2 : ((((splitN o.to).1.length : Nat) : Int) == 0) = false := beq_eq_false_iff_ne.2 (by omega)
 have HPA := Lib.hid (fun W (h : RIs F W y R a) => rparent_any o.path 51 W h hg (by omega) hp (by decide))
 have t9 : ((a.par o.path 51).2 != 0) = true := bne_iff_ne.2 he
 clear h hg he1 he2 hl1 hl2 he
 go_enter Tryz.func38, Tryz.ntmps38
 go_upto_region 1 with (fail)
 obtain ⟨w1, hwe, HO1, HB1⟩ := asked w (oc o A n cap)
 rw [← hwe]
 clear hwe
 have ua0 := (HO1.out).b0.c8
 have ur0 := (HO1.out).b1.cf7
 have ul := (HO1.out).b1.lt
 go_wp2_with fail
 refine (HS1.out _).mono ?_
 rintro e w2 ⟨v1, rfl, hv1, hb2⟩
 obtain ⟨A1, c1, rfl, hx1⟩ := hv1
 clear ua0 ur0 ul
 have HV1 := Lib.hid (show Texts w1.heap.size w2 (.slice A1 (splitN o.path).1.length c1) (splitN o.path).1 from ⟨A1, c1, rfl, hx1⟩)
 have HO2 := Lib.hid (HO1.out.below hb2)
 have HB2 := Lib.hid (HB1.out.trans (hb2.mono HB1.out.size))
 clear hb2 hx1
 have za0 := (HO2.out).b0.c8
 have zr0 := (HO2.out).b1.cf7
 have zl := (HO2.out).b1.lt
 rw [HE1.out]
 go_wp2_with fail
 refine (HS2.out _).mono ?_
 rintro e w3 ⟨v2, rfl, hv2, hb3⟩
 obtain ⟨A2, c2, rfl, hx2⟩ := hv2
 clear za0 zr0 zl
 have HV2 := Lib.hid (show Texts w2.heap.size w3 (.slice A2 (splitN o.to).1.length c2) (splitN o.to).1 from ⟨A2, c2, rfl, hx2⟩)
 have HW1 := Lib.hid (HV1.out.below hb3)
 have HO3 := Lib.hid (HO2.out.below hb3)
 have HB3 := Lib.hid (HB2.out.trans (hb3.mono HB2.out.size))
 clear hb3 hx2
 have xa0 := (HO3.out).b0.c8
 have xr0 := (HO3.out).b1.cf7
 have xl := (HO3.out).b1.lt
 rw [HE2.out]
 go_wp2_with fail
 refine (HPA.out _ (HH.out _ HB3.out)).mono ?_
 rintro e w4 ⟨⟨d0, s0, rfl, -⟩, hb4⟩
 clear xa0 xr0 xl
 have HX1 := Lib.hid (HW1.out.below hb4)
 have HX2 := Lib.hid (HV2.out.below hb4)
 have HO4 := Lib.hid (HO3.out.below hb4)
 have HB4 := Lib.hid (HB3.out.trans (hb4.mono HB3.out.size))
 clear hb4
 have ra0 := (HO4.out).b0.c8
 have rr0 := (HO4.out).b1.cf7
 have rl := (HO4.out).b1.lt
 go_wp2_with fail
 refine (failed_any _ _).mono ?_
 rintro e w5 ⟨rfl, hb5⟩
 have HOF := Lib.hid (HO4.out.below hb5)
 have HBF := Lib.hid (HB4.out.trans (hb5.mono HB4.out.size))
 clear hb5
 have vr0 := (HOF.out).b1.cf7
 have vl := (HOF.out).b1.lt
 go_wp2_with fail
 refine bodyPost_ret (v := .agg #[.int .i64 (a.par o.path 51).2, .int .i64 0, .slice none 0 0, .slice none 0 0, .int .i64 0, .int .i64 0, .int .i64 0]) (by simp [results, Tryz.results38, go_sem, vr0, vl]) rfl ?_
 exact rans_same HT.out (ans_set HBF.out (by omega) _ _ _ _ _ _ _)
theorem rren_40 (o : OpT) (A : Option Addr) (n cap : Nat) (w : World) (h : RIs F w y R a) (hg : Good a c) (hc : c + 20 ≤ 100000) (hp : o.path.size ≤ 1000) (hp2 : o.to.size ≤ 1000) (he1 : (splitN o.path).2 = 0) (he2 : (splitN o.to).2 = 0) (hl1 : (splitN o.path).1.length ≠ 0) (hl2 : (splitN o.to).1.length ≠ 0) (d : Nat) (hd : a.par o.path 51 = (d, 0)) (hid : a.find d (nameN o.path) = 0) :
  Calls Tryz.prog 38 #[.pointer (some ⟨y, 0, none⟩), o.val A n cap] w (RAnsPost F y (a) w) := by
 unfold OpT.val
 have HT := Lib.hid h
 have HH := Lib.hid (fun W (hb : Below w.heap.size w W) => h.below hb)
 have HS1 := Lib.hid (fun W => rsplit_any o.path W (by omega))
 have HS2 := Lib.hid (fun W => rsplit_any o.to W (by omega))
 have HE1 := Lib.hid he1
 have HE2 := Lib.hid he2
 have l1 : ((((splitN o.path).1.length : Nat) : Int) == 0) = false := beq_eq_false_iff_ne.2 (by omega)
 have l2 : ((((splitN o.to).1.length : Nat) : Int) == 0) = false := beq_eq_false_iff_ne.2 (by omega)
 have HPA := Lib.hid (fun W (h : RIs F W y R a) => show Calls Tryz.prog 74 #[.pointer (some ⟨y, 0, none⟩), .string o.path, .int .i64 51] W (fun e w' => e = .returned (.tuple #[.int .i64 (d : Nat), .string (nameN o.path), .int .i64 0]) ∧ Below W.heap.size W w') from
  (rparent_any o.path 51 W h hg (by omega) hp (by decide)).mono fun e w' hx => by
   obtain ⟨⟨d0, s0, rfl, hq⟩, hb⟩ := hx
   rw [hd] at hq
   obtain ⟨rfl, rfl⟩ := hq rfl
   rw [hd]
   exact ⟨rfl, hb⟩)
 have hfew := hg.few
 have hdir := par_dir (show (51 : Int) ≠ 0 by decide) (show (a.par o.path 51).2 = 0 by rw [hd])
 rw [hd] at hdir
 have hdl := (hg.in_last (k := d) (by rw [hdir]; decide)).2
 have HFI := Lib.hid (fun W (h : RIs F W y R a) => show Calls Tryz.prog 75 #[.pointer (some ⟨y, 0, none⟩), .int .i64 (d : Nat), .string (nameN o.path)] W (fun e w' => e = .returned (.int .i64 0) ∧ W = w') from by
  have := rfind_any d (nameN o.path) W h hdl (by omega) (Nat.le_trans (hg.len d) (by omega))
  rw [hid] at this
  exact this)
 clear h hg he1 he2 hl1 hl2 hd hid hfew hdir hdl
 go_enter Tryz.func38, Tryz.ntmps38
 go_upto_region 1 with (fail)
 obtain ⟨w1, hwe, HO1, HB1⟩ := asked w (oc o A n cap)
 rw [← hwe]
 clear hwe
 have ua0 := (HO1.out).b0.c8
 have ur0 := (HO1.out).b1.cf7
 have ul := (HO1.out).b1.lt
 go_wp2_with fail
 refine (HS1.out _).mono ?_
 rintro e w2 ⟨v1, rfl, hv1, hb2⟩
 obtain ⟨A1, c1, rfl, hx1⟩ := hv1
 clear ua0 ur0 ul
 have HV1 := Lib.hid (show Texts w1.heap.size w2 (.slice A1 (splitN o.path).1.length c1) (splitN o.path).1 from ⟨A1, c1, rfl, hx1⟩)
 have HO2 := Lib.hid (HO1.out.below hb2)
 have HB2 := Lib.hid (HB1.out.trans (hb2.mono HB1.out.size))
 clear hb2 hx1
 have za0 := (HO2.out).b0.c8
 have zr0 := (HO2.out).b1.cf7
 have zl := (HO2.out).b1.lt
 rw [HE1.out]
 go_wp2_with fail
 refine (HS2.out _).mono ?_
 rintro e w3 ⟨v2, rfl, hv2, hb3⟩
 obtain ⟨A2, c2, rfl, hx2⟩ := hv2
 clear za0 zr0 zl
 have HV2 := Lib.hid (show Texts w2.heap.size w3 (.slice A2 (splitN o.to).1.length c2) (splitN o.to).1 from ⟨A2, c2, rfl, hx2⟩)
 have HW1 := Lib.hid (HV1.out.below hb3)
 have HO3 := Lib.hid (HO2.out.below hb3)
 have HB3 := Lib.hid (HB2.out.trans (hb3.mono HB2.out.size))
 clear hb3 hx2
 have xa0 := (HO3.out).b0.c8
 have xr0 := (HO3.out).b1.cf7
 have xl := (HO3.out).b1.lt
 rw [HE2.out]
 go_wp2_with fail
 refine (HPA.out _ (HH.out _ HB3.out)).mono ?_
 rintro e w4 ⟨rfl, hb4⟩
 clear xa0 xr0 xl
 have HX1 := Lib.hid (HW1.out.below hb4)
 have HX2 := Lib.hid (HV2.out.below hb4)
 have HO4 := Lib.hid (HO3.out.below hb4)
 have HB4 := Lib.hid (HB3.out.trans (hb4.mono HB3.out.size))
 clear hb4
 have ra0 := (HO4.out).b0.c8
 have rr0 := (HO4.out).b1.cf7
 have rl := (HO4.out).b1.lt
 have HR4 := Lib.hid (HH.out _ HB4.out)
 go_wp2_with fail
 refine (HFI.out _ HR4.out).mono ?_
 rintro e w' ⟨rfl, h8⟩
 obtain rfl := h8
 go_wp2_with fail
 refine (failed_any _ _).mono ?_
 rintro e w5 ⟨rfl, hb5⟩
 have HOF := Lib.hid (HO4.out.below hb5)
 have HBF := Lib.hid (HB4.out.trans (hb5.mono HB4.out.size))
 clear hb5
 have vr0 := (HOF.out).b1.cf7
 have vl := (HOF.out).b1.lt
 go_wp2_with fail
 refine bodyPost_ret (v := .agg #[.int .i64 40, .int .i64 0, .slice none 0 0, .slice none 0 0, .int .i64 0, .int .i64 0, .int .i64 0]) (by simp [results, Tryz.results38, go_sem, vr0, vl]) rfl ?_
 exact rans_same HT.out (ans_set HBF.out (by omega) _ _ _ _ _ _ _)
theorem rren_49 (o : OpT) (A : Option Addr) (n cap : Nat) (w : World) (h : RIs F w y R a) (hg : Good a c) (hc : c + 20 ≤ 100000) (hp : o.path.size ≤ 1000) (hp2 : o.to.size ≤ 1000) (he1 : (splitN o.path).2 = 0) (he2 : (splitN o.to).2 = 0) (hl1 : (splitN o.path).1.length ≠ 0) (hl2 : (splitN o.to).1.length ≠ 0) (d id : Nat) (hd : a.par o.path 51 = (d, 0)) (hid : a.find d (nameN o.path) = id) (hz : id ≠ 0) (hk : (a.nd id).kind = 2) (hi : insideB (splitN o.path).1 (splitN o.to).1 = true) :
  Calls Tryz.prog 38 #[.pointer (some ⟨y, 0, none⟩), o.val A n cap] w (RAnsPost F y (a) w) := by
 unfold OpT.val
 have HT := Lib.hid h
 have HH := Lib.hid (fun W (hb : Below w.heap.size w W) => h.below hb)
 have HS1 := Lib.hid (fun W => rsplit_any o.path W (by omega))
 have HS2 := Lib.hid (fun W => rsplit_any o.to W (by omega))
 have HE1 := Lib.hid he1
 have HE2 := Lib.hid he2
 have l1 : ((((splitN o.path).1.length : Nat) : Int) == 0) = false := beq_eq_false_iff_ne.2 (by omega)
 have l2 : ((((splitN o.to).1.length : Nat) : Int) == 0) = false := beq_eq_false_iff_ne.2 (by omega)
 have HPA := Lib.hid (fun W (h : RIs F W y R a) => show Calls Tryz.prog 74 #[.pointer (some ⟨y, 0, none⟩), .string o.path, .int .i64 51] W (fun e w' => e = .returned (.tuple #[.int .i64 (d : Nat), .string (nameN o.path), .int .i64 0]) ∧ Below W.heap.size W w') from
  (rparent_any o.path 51 W h hg (by omega) hp (by decide)).mono fun e w' hx => by
   obtain ⟨⟨d0, s0, rfl, hq⟩, hb⟩ := hx
   rw [hd] at hq
   obtain ⟨rfl, rfl⟩ := hq rfl
   rw [hd]
   exact ⟨rfl, hb⟩)
 have hfew := hg.few
 have hdir := par_dir (show (51 : Int) ≠ 0 by decide) (show (a.par o.path 51).2 = 0 by rw [hd])
 rw [hd] at hdir
 have hdl := (hg.in_last (k := d) (by rw [hdir]; decide)).2
 have HFI := Lib.hid (fun W (h : RIs F W y R a) => show Calls Tryz.prog 75 #[.pointer (some ⟨y, 0, none⟩), .int .i64 (d : Nat), .string (nameN o.path)] W (fun e w' => e = .returned (.int .i64 (id : Nat)) ∧ W = w') from by
  have := rfind_any d (nameN o.path) W h hdl (by omega) (Nat.le_trans (hg.len d) (by omega))
  rw [hid] at this
  exact this)
 have hlive : (a.nd id).kind ≠ 0 := by rw [← hid]; exact hg.find_live (by rw [hid]; exact hz)
 have hil := (hg.in_last hlive).2
 have t1 : (((id : Nat) : Int) != 0) = true := bne_iff_ne.2 (by omega)
 have t2 : (((id : Nat) : Int) == 0) = false := beq_eq_false_iff_ne.2 (by omega)
 have HIB := Lib.hid hil
 have hin : ((id : Nat) : Int) < ((a.last + 1 : Nat) : Int) := by omega
 have HKK := Lib.hid hk
 have HIN := Lib.hid hi
 generalize hnn : a.last + 1 = n1 at *
 have hnb : n1 ≤ 1000001 := by omega
 have HNN := Lib.hid hnn
 clear hnn
 clear h hg he1 he2 hl1 hl2 hd hid hfew hdir hdl hz hlive hil hk hi
 go_enter Tryz.func38, Tryz.ntmps38
 go_upto_region 1 with (fail)
 obtain ⟨w1, hwe, HO1, HB1⟩ := asked w (oc o A n cap)
 rw [← hwe]
 clear hwe
 have ua0 := (HO1.out).b0.c8
 have ur0 := (HO1.out).b1.cf7
 have ul := (HO1.out).b1.lt
 go_wp2_with fail
 refine (HS1.out _).mono ?_
 rintro e w2 ⟨v1, rfl, hv1, hb2⟩
 obtain ⟨A1, c1, rfl, hx1⟩ := hv1
 clear ua0 ur0 ul
 have HV1 := Lib.hid (show Texts w1.heap.size w2 (.slice A1 (splitN o.path).1.length c1) (splitN o.path).1 from ⟨A1, c1, rfl, hx1⟩)
 have HO2 := Lib.hid (HO1.out.below hb2)
 have HB2 := Lib.hid (HB1.out.trans (hb2.mono HB1.out.size))
 clear hb2 hx1
 have za0 := (HO2.out).b0.c8
 have zr0 := (HO2.out).b1.cf7
 have zl := (HO2.out).b1.lt
 rw [HE1.out]
 go_wp2_with fail
 refine (HS2.out _).mono ?_
 rintro e w3 ⟨v2, rfl, hv2, hb3⟩
 obtain ⟨A2, c2, rfl, hx2⟩ := hv2
 clear za0 zr0 zl
 have HV2 := Lib.hid (show Texts w2.heap.size w3 (.slice A2 (splitN o.to).1.length c2) (splitN o.to).1 from ⟨A2, c2, rfl, hx2⟩)
 have HW1 := Lib.hid (HV1.out.below hb3)
 have HO3 := Lib.hid (HO2.out.below hb3)
 have HB3 := Lib.hid (HB2.out.trans (hb3.mono HB2.out.size))
 clear hb3 hx2
 have xa0 := (HO3.out).b0.c8
 have xr0 := (HO3.out).b1.cf7
 have xl := (HO3.out).b1.lt
 rw [HE2.out]
 go_wp2_with fail
 refine (HPA.out _ (HH.out _ HB3.out)).mono ?_
 rintro e w4 ⟨rfl, hb4⟩
 clear xa0 xr0 xl
 have HX1 := Lib.hid (HW1.out.below hb4)
 have HX2 := Lib.hid (HV2.out.below hb4)
 have HO4 := Lib.hid (HO3.out.below hb4)
 have HB4 := Lib.hid (HB3.out.trans (hb4.mono HB3.out.size))
 clear hb4
 have ra0 := (HO4.out).b0.c8
 have rr0 := (HO4.out).b1.cf7
 have rl := (HO4.out).b1.lt
 have HR4 := Lib.hid (HH.out _ HB4.out)
 go_wp2_with fail
 refine (HFI.out _ HR4.out).mono ?_
 rintro e w' ⟨rfl, h8⟩
 obtain rfl := h8
 obtain ⟨g0, g1⟩ := HR4.out.cells
 rw [HNN.out] at g0
 obtain ⟨k0, k1, k2, k3⟩ := HR4.out.cel id HIB.out
 rw [HKK.out] at k0
 go_wp2_with fail
 refine (rinside_any _ _ _ _ _ HX1.out HX2.out).mono ?_
 rintro e w' ⟨rfl, n0, h9⟩
 rw [HIN.out]
 subst h9
 clear ra0 rr0 rl g0 g1 k0 k1 k2 k3
 have HO5 := Lib.hid (show OO (w4.drewN n0) w.heap.size (oc o A n cap) from ⟨HO4.out.b0.drewN n0, HO4.out.b1.drewN n0⟩)
 have HB5 := Lib.hid (show Below w.heap.size w (w4.drewN n0) from HB4.out.trans ⟨rfl, rfl, rfl, Nat.le_refl _, fun _ _ => rfl⟩)
 generalize w4.drewN n0 = w5 at *
 have sa0 := (HO5.out).b0.c8
 have sr0 := (HO5.out).b1.cf7
 have sl := (HO5.out).b1.lt
 go_wp2_with fail
 refine (failed_any _ _).mono ?_
 rintro e w5 ⟨rfl, hb5⟩
 have HOF := Lib.hid (HO5.out.below hb5)
 have HBF := Lib.hid (HB5.out.trans (hb5.mono HB5.out.size))
 clear hb5
 have vr0 := (HOF.out).b1.cf7
 have vl := (HOF.out).b1.lt
 go_wp2_with fail
 refine bodyPost_ret (v := .agg #[.int .i64 49, .int .i64 0, .slice none 0 0, .slice none 0 0, .int .i64 0, .int .i64 0, .int .i64 0]) (by simp [results, Tryz.results38, go_sem, vr0, vl]) rfl ?_
 exact rans_same HT.out (ans_set HBF.out (by omega) _ _ _ _ _ _ _)
end
end Go.Proofs.YtpkhglfhpggceaaGreatDoor
namespace Go.Proofs.YtpkhglfhpggceaaGreatDoor
set_option maxRecDepth 100000
set_option maxHeartbeats 16000000
open Go.RowKit
set_option linter.unusedVariables false
set_option linter.unusedSimpArgs false
section
variable {F : Nat → Prop} {w w' : World} {y c : Nat} {R : RMem} {a : TS}
theorem setF_setF {α : Type} (f : Nat → α) (k : Nat) (u v : α) : setF (setF f k u) k v = setF f k v := by
 funext i
 unfold setF
 split <;> rfl
theorem put_put {c : Nat} (h : Good a c) (d : Nat) (s : ByteArray) (id : Nat) : (a.put d s 0).put d s id = a.put d s id := by
 show (⟨a.last, setF (setF a.nd d { a.nd d with names := putL (a.nd d).names s 0 }) d { setF a.nd d { a.nd d with names := putL (a.nd d).names s 0 } d with names := putL (setF a.nd d { a.nd d with names := putL (a.nd d).names s 0 } d).names s id }, a.op⟩ : TS) = ⟨a.last, setF a.nd d { a.nd d with names := putL (a.nd d).names s id }, a.op⟩
 rw [setF_setF, setF_same, putL_putL (h.rise d)]
theorem rren_par2d (o : OpT) (A : Option Addr) (n cap : Nat) (w : World) (h : RIs F w y R a) (hg : Good a c) (hc : c + 20 ≤ 100000) (hp : o.path.size ≤ 1000) (hp2 : o.to.size ≤ 1000) (he1 : (splitN o.path).2 = 0) (he2 : (splitN o.to).2 = 0) (hl1 : (splitN o.path).1.length ≠ 0) (hl2 : (splitN o.to).1.length ≠ 0) (d id : Nat) (hd : a.par o.path 51 = (d, 0)) (hid : a.find d (nameN o.path) = id) (hz : id ≠ 0) (hk : (a.nd id).kind = 2) (hi : insideB (splitN o.path).1 (splitN o.to).1 = false) (he : (a.par o.to 51).2 ≠ 0) :
  Calls Tryz.prog 38 #[.pointer (some ⟨y, 0, none⟩), o.val A n cap] w (RAnsPost F y (a) w) := by
 unfold OpT.val
 have HT := Lib.hid h
 have HH := Lib.hid (fun W (hb : Below w.heap.size w W) => h.below hb)
 have HS1 := Lib.hid (fun W => rsplit_any o.path W (by omega))
 have HS2 := Lib.hid (fun W => rsplit_any o.to W (by omega))
 have HE1 := Lib.hid he1
 have HE2 := Lib.hid he2
 have l1 : ((((splitN o.path).1.length : Nat) : Int) == 0) = false := beq_eq_false_iff_ne.2 (by omega)
 have l2 : ((((splitN o.to).1.length : Nat) : Int) == 0) = false := beq_eq_false_iff_ne.2 (by omega)
 have HPA := Lib.hid (fun W (h : RIs F W y R a) => show Calls Tryz.prog 74 #[.pointer (some ⟨y, 0, none⟩), .string o.path, .int .i64 51] W (fun e w' => e = .returned (.tuple #[.int .i64 (d : Nat), .string (nameN o.path), .int .i64 0]) ∧ Below W.heap.size W w') from
  (rparent_any o.path 51 W h hg (by omega) hp (by decide)).mono fun e w' hx => by
   obtain ⟨⟨d0, s0, rfl, hq⟩, hb⟩ := hx
   rw [hd] at hq
   obtain ⟨rfl, rfl⟩ := hq rfl
   rw [hd]
   exact ⟨rfl, hb⟩)
 have hfew := hg.few
 have hdir := par_dir (show (51 : Int) ≠ 0 by decide) (show (a.par o.path 51).2 = 0 by rw [hd])
 rw [hd] at hdir
 have hdl := (hg.in_last (k := d) (by rw [hdir]; decide)).2
 have HFI := Lib.hid (fun W (h : RIs F W y R a) => show Calls Tryz.prog 75 #[.pointer (some ⟨y, 0, none⟩), .int .i64 (d : Nat), .string (nameN o.path)] W (fun e w' => e = .returned (.int .i64 (id : Nat)) ∧ W = w') from by
  have := rfind_any d (nameN o.path) W h hdl (by omega) (Nat.le_trans (hg.len d) (by omega))
  rw [hid] at this
  exact this)
 have hlive : (a.nd id).kind ≠ 0 := by rw [← hid]; exact hg.find_live (by rw [hid]; exact hz)
 have hil := (hg.in_last hlive).2
 have t1 : (((id : Nat) : Int) != 0) = true := bne_iff_ne.2 (by omega)
 have t2 : (((id : Nat) : Int) == 0) = false := beq_eq_false_iff_ne.2 (by omega)
 have HIB := Lib.hid hil
 have hin : ((id : Nat) : Int) < ((a.last + 1 : Nat) : Int) := by omega
 have HPB := Lib.hid (fun W (h : RIs F W y R a) => rparent_any o.to 51 W h hg (by omega) hp2 (by decide))
 have t9 : ((a.par o.to 51).2 != 0) = true := bne_iff_ne.2 he
 have HKK := Lib.hid hk
 have HIN := Lib.hid hi
 have t6 : ((2 : Int) != 2) = false := rfl
 generalize hnn : a.last + 1 = n1 at *
 have hnb : n1 ≤ 1000001 := by omega
 have HNN := Lib.hid hnn
 clear hnn
 clear h hg he1 he2 hl1 hl2 hd hid hfew hdir hdl hz hlive hil hk hi he
 go_enter Tryz.func38, Tryz.ntmps38
 go_upto_region 1 with (fail)
 obtain ⟨w1, hwe, HO1, HB1⟩ := asked w (oc o A n cap)
 rw [← hwe]
 clear hwe
 have ua0 := (HO1.out).b0.c8
 have ur0 := (HO1.out).b1.cf7
 have ul := (HO1.out).b1.lt
 go_wp2_with fail
 refine (HS1.out _).mono ?_
 rintro e w2 ⟨v1, rfl, hv1, hb2⟩
 obtain ⟨A1, c1, rfl, hx1⟩ := hv1
 clear ua0 ur0 ul
 have HV1 := Lib.hid (show Texts w1.heap.size w2 (.slice A1 (splitN o.path).1.length c1) (splitN o.path).1 from ⟨A1, c1, rfl, hx1⟩)
 have HO2 := Lib.hid (HO1.out.below hb2)
 have HB2 := Lib.hid (HB1.out.trans (hb2.mono HB1.out.size))
 clear hb2 hx1
 have za0 := (HO2.out).b0.c8
 have zr0 := (HO2.out).b1.cf7
 have zl := (HO2.out).b1.lt
 rw [HE1.out]
 go_wp2_with fail
 refine (HS2.out _).mono ?_
 rintro e w3 ⟨v2, rfl, hv2, hb3⟩
 obtain ⟨A2, c2, rfl, hx2⟩ := hv2
 clear za0 zr0 zl
 have HV2 := Lib.hid (show Texts w2.heap.size w3 (.slice A2 (splitN o.to).1.length c2) (splitN o.to).1 from ⟨A2, c2, rfl, hx2⟩)
 have HW1 := Lib.hid (HV1.out.below hb3)
 have HO3 := Lib.hid (HO2.out.below hb3)
 have HB3 := Lib.hid (HB2.out.trans (hb3.mono HB2.out.size))
 clear hb3 hx2
 have xa0 := (HO3.out).b0.c8
 have xr0 := (HO3.out).b1.cf7
 have xl := (HO3.out).b1.lt
 rw [HE2.out]
 go_wp2_with fail
 refine (HPA.out _ (HH.out _ HB3.out)).mono ?_
 rintro e w4 ⟨rfl, hb4⟩
 clear xa0 xr0 xl
 have HX1 := Lib.hid (HW1.out.below hb4)
 have HX2 := Lib.hid (HV2.out.below hb4)
 have HO4 := Lib.hid (HO3.out.below hb4)
 have HB4 := Lib.hid (HB3.out.trans (hb4.mono HB3.out.size))
 clear hb4
 have ra0 := (HO4.out).b0.c8
 have rr0 := (HO4.out).b1.cf7
 have rl := (HO4.out).b1.lt
 have HR4 := Lib.hid (HH.out _ HB4.out)
 go_wp2_with fail
 refine (HFI.out _ HR4.out).mono ?_
 rintro e w' ⟨rfl, h8⟩
 obtain rfl := h8
 obtain ⟨g0, g1⟩ := HR4.out.cells
 rw [HNN.out] at g0
 obtain ⟨k0, k1, k2, k3⟩ := HR4.out.cel id HIB.out
 rw [HKK.out] at k0
 go_wp2_with fail
 refine (rinside_any _ _ _ _ _ HX1.out HX2.out).mono ?_
 rintro e w' ⟨rfl, n0, h9⟩
 rw [HIN.out]
 subst h9
 clear ra0 rr0 rl g0 g1 k0 k1 k2 k3
 have HO5 := Lib.hid (show OO (w4.drewN n0) w.heap.size (oc o A n cap) from ⟨HO4.out.b0.drewN n0, HO4.out.b1.drewN n0⟩)
 have HB5 := Lib.hid (show Below w.heap.size w (w4.drewN n0) from HB4.out.trans ⟨rfl, rfl, rfl, Nat.le_refl _, fun _ _ => rfl⟩)
 generalize w4.drewN n0 = w5 at *
 have sa0 := (HO5.out).b0.c8
 have sr0 := (HO5.out).b1.cf7
 have sl := (HO5.out).b1.lt
 go_wp2_with fail
 refine (HPB.out _ (HH.out _ HB5.out)).mono ?_
 rintro e w6 ⟨⟨d0, s0, rfl, -⟩, hb6⟩
 clear sa0 sr0 sl
 have HO6 := Lib.hid (HO5.out.below hb6)
 have HB6 := Lib.hid (HB5.out.trans (hb6.mono HB5.out.size))
 clear hb6
 have ma0 := (HO6.out).b0.c8
 have mr0 := (HO6.out).b1.cf7
 have ml := (HO6.out).b1.lt
 go_wp2_with fail
 refine (failed_any _ _).mono ?_
 rintro e w5 ⟨rfl, hb5⟩
 have HOF := Lib.hid (HO6.out.below hb5)
 have HBF := Lib.hid (HB6.out.trans (hb5.mono HB6.out.size))
 clear hb5
 have vr0 := (HOF.out).b1.cf7
 have vl := (HOF.out).b1.lt
 go_wp2_with fail
 refine bodyPost_ret (v := .agg #[.int .i64 (a.par o.to 51).2, .int .i64 0, .slice none 0 0, .slice none 0 0, .int .i64 0, .int .i64 0, .int .i64 0]) (by simp [results, Tryz.results38, go_sem, vr0, vl]) rfl ?_
 exact rans_same HT.out (ans_set HBF.out (by omega) _ _ _ _ _ _ _)
theorem rren_par2f (o : OpT) (A : Option Addr) (n cap : Nat) (w : World) (h : RIs F w y R a) (hg : Good a c) (hc : c + 20 ≤ 100000) (hp : o.path.size ≤ 1000) (hp2 : o.to.size ≤ 1000) (he1 : (splitN o.path).2 = 0) (he2 : (splitN o.to).2 = 0) (hl1 : (splitN o.path).1.length ≠ 0) (hl2 : (splitN o.to).1.length ≠ 0) (d id : Nat) (hd : a.par o.path 51 = (d, 0)) (hid : a.find d (nameN o.path) = id) (hz : id ≠ 0) (hk : (a.nd id).kind ≠ 2) (he : (a.par o.to 51).2 ≠ 0) :
  Calls Tryz.prog 38 #[.pointer (some ⟨y, 0, none⟩), o.val A n cap] w (RAnsPost F y (a) w) := by
 unfold OpT.val
 have HT := Lib.hid h
 have HH := Lib.hid (fun W (hb : Below w.heap.size w W) => h.below hb)
 have HS1 := Lib.hid (fun W => rsplit_any o.path W (by omega))
 have HS2 := Lib.hid (fun W => rsplit_any o.to W (by omega))
 have HE1 := Lib.hid he1
 have HE2 := Lib.hid he2
 have l1 : ((((splitN o.path).1.length : Nat) : Int) == 0) = false := beq_eq_false_iff_ne.2 (by omega)
 have l2 : ((((splitN o.to).1.length : Nat) : Int) == 0) = false := beq_eq_false_iff_ne.2 (by omega)
 have HPA := Lib.hid (fun W (h : RIs F W y R a) => show Calls Tryz.prog 74 #[.pointer (some ⟨y, 0, none⟩), .string o.path, .int .i64 51] W (fun e w' => e = .returned (.tuple #[.int .i64 (d : Nat), .string (nameN o.path), .int .i64 0]) ∧ Below W.heap.size W w') from
  (rparent_any o.path 51 W h hg (by omega) hp (by decide)).mono fun e w' hx => by
   obtain ⟨⟨d0, s0, rfl, hq⟩, hb⟩ := hx
   rw [hd] at hq
   obtain ⟨rfl, rfl⟩ := hq rfl
   rw [hd]
   exact ⟨rfl, hb⟩)
 have hfew := hg.few
 have hdir := par_dir (show (51 : Int) ≠ 0 by decide) (show (a.par o.path 51).2 = 0 by rw [hd])
 rw [hd] at hdir
 have hdl := (hg.in_last (k := d) (by rw [hdir]; decide)).2
 have HFI := Lib.hid (fun W (h : RIs F W y R a) => show Calls Tryz.prog 75 #[.pointer (some ⟨y, 0, none⟩), .int .i64 (d : Nat), .string (nameN o.path)] W (fun e w' => e = .returned (.int .i64 (id : Nat)) ∧ W = w') from by
  have := rfind_any d (nameN o.path) W h hdl (by omega) (Nat.le_trans (hg.len d) (by omega))
  rw [hid] at this
  exact this)
 have hlive : (a.nd id).kind ≠ 0 := by rw [← hid]; exact hg.find_live (by rw [hid]; exact hz)
 have hil := (hg.in_last hlive).2
 have t1 : (((id : Nat) : Int) != 0) = true := bne_iff_ne.2 (by omega)
 have t2 : (((id : Nat) : Int) == 0) = false := beq_eq_false_iff_ne.2 (by omega)
 have HIB := Lib.hid hil
 have hin : ((id : Nat) : Int) < ((a.last + 1 : Nat) : Int) := by omega
 have HPB := Lib.hid (fun W (h : RIs F W y R a) => rparent_any o.to 51 W h hg (by omega) hp2 (by decide))
 have t9 : ((a.par o.to 51).2 != 0) = true := bne_iff_ne.2 he
 have t5 : ((a.nd id).kind == 2) = false := beq_eq_false_iff_ne.2 hk
 have t6 : ((a.nd id).kind != 2) = true := bne_iff_ne.2 hk
 generalize hkk : (a.nd id).kind = kd at *
 have HKK := Lib.hid hkk
 clear hkk
 generalize hnn : a.last + 1 = n1 at *
 have hnb : n1 ≤ 1000001 := by omega
 have HNN := Lib.hid hnn
 clear hnn
 clear h hg he1 he2 hl1 hl2 hd hid hfew hdir hdl hz hlive hil hk he
 go_enter Tryz.func38, Tryz.ntmps38
 go_upto_region 1 with (fail)
 obtain ⟨w1, hwe, HO1, HB1⟩ := asked w (oc o A n cap)
 rw [← hwe]
 clear hwe
 have ua0 := (HO1.out).b0.c8
 have ur0 := (HO1.out).b1.cf7
 have ul := (HO1.out).b1.lt
 go_wp2_with fail
 refine (HS1.out _).mono ?_
 rintro e w2 ⟨v1, rfl, hv1, hb2⟩
 obtain ⟨A1, c1, rfl, hx1⟩ := hv1
 clear ua0 ur0 ul
 have HV1 := Lib.hid (show Texts w1.heap.size w2 (.slice A1 (splitN o.path).1.length c1) (splitN o.path).1 from ⟨A1, c1, rfl, hx1⟩)
 have HO2 := Lib.hid (HO1.out.below hb2)
 have HB2 := Lib.hid (HB1.out.trans (hb2.mono HB1.out.size))
 clear hb2 hx1
 have za0 := (HO2.out).b0.c8
 have zr0 := (HO2.out).b1.cf7
 have zl := (HO2.out).b1.lt
 rw [HE1.out]
 go_wp2_with fail
 refine (HS2.out _).mono ?_
 rintro e w3 ⟨v2, rfl, hv2, hb3⟩
 obtain ⟨A2, c2, rfl, hx2⟩ := hv2
 clear za0 zr0 zl
 have HV2 := Lib.hid (show Texts w2.heap.size w3 (.slice A2 (splitN o.to).1.length c2) (splitN o.to).1 from ⟨A2, c2, rfl, hx2⟩)
 have HW1 := Lib.hid (HV1.out.below hb3)
 have HO3 := Lib.hid (HO2.out.below hb3)
 have HB3 := Lib.hid (HB2.out.trans (hb3.mono HB2.out.size))
 clear hb3 hx2
 have xa0 := (HO3.out).b0.c8
 have xr0 := (HO3.out).b1.cf7
 have xl := (HO3.out).b1.lt
 rw [HE2.out]
 go_wp2_with fail
 refine (HPA.out _ (HH.out _ HB3.out)).mono ?_
 rintro e w4 ⟨rfl, hb4⟩
 clear xa0 xr0 xl
 have HX1 := Lib.hid (HW1.out.below hb4)
 have HX2 := Lib.hid (HV2.out.below hb4)
 have HO4 := Lib.hid (HO3.out.below hb4)
 have HB4 := Lib.hid (HB3.out.trans (hb4.mono HB3.out.size))
 clear hb4
 have ra0 := (HO4.out).b0.c8
 have rr0 := (HO4.out).b1.cf7
 have rl := (HO4.out).b1.lt
 have HR4 := Lib.hid (HH.out _ HB4.out)
 go_wp2_with fail
 refine (HFI.out _ HR4.out).mono ?_
 rintro e w' ⟨rfl, h8⟩
 obtain rfl := h8
 obtain ⟨g0, g1⟩ := HR4.out.cells
 rw [HNN.out] at g0
 obtain ⟨k0, k1, k2, k3⟩ := HR4.out.cel id HIB.out
 rw [HKK.out] at k0
 go_wp2_with fail
 refine (HPB.out _ (HH.out _ HB4.out)).mono ?_
 rintro e w6 ⟨⟨d0, s0, rfl, -⟩, hb6⟩
 clear ra0 rr0 rl g0 g1 k0 k1 k2 k3
 have HO6 := Lib.hid (HO4.out.below hb6)
 have HB6 := Lib.hid (HB4.out.trans (hb6.mono HB4.out.size))
 clear hb6
 have ma0 := (HO6.out).b0.c8
 have mr0 := (HO6.out).b1.cf7
 have ml := (HO6.out).b1.lt
 go_wp2_with fail
 refine (failed_any _ _).mono ?_
 rintro e w5 ⟨rfl, hb5⟩
 have HOF := Lib.hid (HO6.out.below hb5)
 have HBF := Lib.hid (HB6.out.trans (hb5.mono HB6.out.size))
 clear hb5
 have vr0 := (HOF.out).b1.cf7
 have vl := (HOF.out).b1.lt
 go_wp2_with fail
 refine bodyPost_ret (v := .agg #[.int .i64 (a.par o.to 51).2, .int .i64 0, .slice none 0 0, .slice none 0 0, .int .i64 0, .int .i64 0, .int .i64 0]) (by simp [results, Tryz.results38, go_sem, vr0, vl]) rfl ?_
 exact rans_same HT.out (ans_set HBF.out (by omega) _ _ _ _ _ _ _)
theorem rren_samed (o : OpT) (A : Option Addr) (n cap : Nat) (w : World) (h : RIs F w y R a) (hg : Good a c) (hc : c + 20 ≤ 100000) (hp : o.path.size ≤ 1000) (hp2 : o.to.size ≤ 1000) (he1 : (splitN o.path).2 = 0) (he2 : (splitN o.to).2 = 0) (hl1 : (splitN o.path).1.length ≠ 0) (hl2 : (splitN o.to).1.length ≠ 0) (d id : Nat) (hd : a.par o.path 51 = (d, 0)) (hid : a.find d (nameN o.path) = id) (hz : id ≠ 0) (hk : (a.nd id).kind = 2) (hi : insideB (splitN o.path).1 (splitN o.to).1 = false) (d2 : Nat) (hd2 : a.par o.to 51 = (d2, 0)) (hw : a.find d2 (nameN o.to) = id) :
  Calls Tryz.prog 38 #[.pointer (some ⟨y, 0, none⟩), o.val A n cap] w (RAnsPost F y (a) w) := by
 unfold OpT.val
 have HT := Lib.hid h
 have HH := Lib.hid (fun W (hb : Below w.heap.size w W) => h.below hb)
 have HS1 := Lib.hid (fun W => rsplit_any o.path W (by omega))
 have HS2 := Lib.hid (fun W => rsplit_any o.to W (by omega))
 have HE1 := Lib.hid he1
 have HE2 := Lib.hid he2
 have l1 : ((((splitN o.path).1.length : Nat) : Int) == 0) = false := beq_eq_false_iff_ne.2 (by omega)
 have l2 : ((((splitN o.to).1.length : Nat) : Int) == 0) = false := beq_eq_false_iff_ne.2 (by omega)
 have HPA := Lib.hid (fun W (h : RIs F W y R a) => show Calls Tryz.prog 74 #[.pointer (some ⟨y, 0, none⟩), .string o.path, .int .i64 51] W (fun e w' => e = .returned (.tuple #[.int .i64 (d : Nat), .string (nameN o.path), .int .i64 0]) ∧ Below W.heap.size W w') from
  (rparent_any o.path 51 W h hg (by omega) hp (by decide)).mono fun e w' hx => by
   obtain ⟨⟨d0, s0, rfl, hq⟩, hb⟩ := hx
   rw [hd] at hq
   obtain ⟨rfl, rfl⟩ := hq rfl
   rw [hd]
   exact ⟨rfl, hb⟩)
 have hfew := hg.few
 have hdir := par_dir (show (51 : Int) ≠ 0 by decide) (show (a.par o.path 51).2 = 0 by rw [hd])
 rw [hd] at hdir
 have hdl := (hg.in_last (k := d) (by rw [hdir]; decide)).2
 have HFI := Lib.hid (fun W (h : RIs F W y R a) => show Calls Tryz.prog 75 #[.pointer (some ⟨y, 0, none⟩), .int .i64 (d : Nat), .string (nameN o.path)] W (fun e w' => e = .returned (.int .i64 (id : Nat)) ∧ W = w') from by
  have := rfind_any d (nameN o.path) W h hdl (by omega) (Nat.le_trans (hg.len d) (by omega))
  rw [hid] at this
  exact this)
 have hlive : (a.nd id).kind ≠ 0 := by rw [← hid]; exact hg.find_live (by rw [hid]; exact hz)
 have hil := (hg.in_last hlive).2
 have t1 : (((id : Nat) : Int) != 0) = true := bne_iff_ne.2 (by omega)
 have t2 : (((id : Nat) : Int) == 0) = false := beq_eq_false_iff_ne.2 (by omega)
 have HIB := Lib.hid hil
 have hin : ((id : Nat) : Int) < ((a.last + 1 : Nat) : Int) := by omega
 have HPB := Lib.hid (fun W (h : RIs F W y R a) => show Calls Tryz.prog 74 #[.pointer (some ⟨y, 0, none⟩), .string o.to, .int .i64 51] W (fun e w' => e = .returned (.tuple #[.int .i64 (d2 : Nat), .string (nameN o.to), .int .i64 0]) ∧ Below W.heap.size W w') from
  (rparent_any o.to 51 W h hg (by omega) hp2 (by decide)).mono fun e w' hx => by
   obtain ⟨⟨d0, s0, rfl, hq⟩, hb⟩ := hx
   rw [hd2] at hq
   obtain ⟨rfl, rfl⟩ := hq rfl
   rw [hd2]
   exact ⟨rfl, hb⟩)
 have hdir2 := par_dir (show (51 : Int) ≠ 0 by decide) (show (a.par o.to 51).2 = 0 by rw [hd2])
 rw [hd2] at hdir2
 have hdl2 := (hg.in_last (k := d2) (by rw [hdir2]; decide)).2
 have HFJ := Lib.hid (fun W (h : RIs F W y R a) => show Calls Tryz.prog 75 #[.pointer (some ⟨y, 0, none⟩), .int .i64 (d2 : Nat), .string (nameN o.to)] W (fun e w' => e = .returned (.int .i64 (id : Nat)) ∧ W = w') from by
  have := rfind_any d2 (nameN o.to) W h hdl2 (by omega) (Nat.le_trans (hg.len d2) (by omega))
  rw [hw] at this
  exact this)
 have HKK := Lib.hid hk
 have HIN := Lib.hid hi
 have t6 : ((2 : Int) != 2) = false := rfl
 generalize hnn : a.last + 1 = n1 at *
 have hnb : n1 ≤ 1000001 := by omega
 have HNN := Lib.hid hnn
 clear hnn
 clear h hg he1 he2 hl1 hl2 hd hid hfew hdir hdl hz hlive hil hd2 hw hdir2 hdl2 hk hi
 go_enter Tryz.func38, Tryz.ntmps38
 go_upto_region 1 with (fail)
 obtain ⟨w1, hwe, HO1, HB1⟩ := asked w (oc o A n cap)
 rw [← hwe]
 clear hwe
 have ua0 := (HO1.out).b0.c8
 have ur0 := (HO1.out).b1.cf7
 have ul := (HO1.out).b1.lt
 go_wp2_with fail
 refine (HS1.out _).mono ?_
 rintro e w2 ⟨v1, rfl, hv1, hb2⟩
 obtain ⟨A1, c1, rfl, hx1⟩ := hv1
 clear ua0 ur0 ul
 have HV1 := Lib.hid (show Texts w1.heap.size w2 (.slice A1 (splitN o.path).1.length c1) (splitN o.path).1 from ⟨A1, c1, rfl, hx1⟩)
 have HO2 := Lib.hid (HO1.out.below hb2)
 have HB2 := Lib.hid (HB1.out.trans (hb2.mono HB1.out.size))
 clear hb2 hx1
 have za0 := (HO2.out).b0.c8
 have zr0 := (HO2.out).b1.cf7
 have zl := (HO2.out).b1.lt
 rw [HE1.out]
 go_wp2_with fail
 refine (HS2.out _).mono ?_
 rintro e w3 ⟨v2, rfl, hv2, hb3⟩
 obtain ⟨A2, c2, rfl, hx2⟩ := hv2
 clear za0 zr0 zl
 have HV2 := Lib.hid (show Texts w2.heap.size w3 (.slice A2 (splitN o.to).1.length c2) (splitN o.to).1 from ⟨A2, c2, rfl, hx2⟩)
 have HW1 := Lib.hid (HV1.out.below hb3)
 have HO3 := Lib.hid (HO2.out.below hb3)
 have HB3 := Lib.hid (HB2.out.trans (hb3.mono HB2.out.size))
 clear hb3 hx2
 have xa0 := (HO3.out).b0.c8
 have xr0 := (HO3.out).b1.cf7
 have xl := (HO3.out).b1.lt
 rw [HE2.out]
 go_wp2_with fail
 refine (HPA.out _ (HH.out _ HB3.out)).mono ?_
 rintro e w4 ⟨rfl, hb4⟩
 clear xa0 xr0 xl
 have HX1 := Lib.hid (HW1.out.below hb4)
 have HX2 := Lib.hid (HV2.out.below hb4)
 have HO4 := Lib.hid (HO3.out.below hb4)
 have HB4 := Lib.hid (HB3.out.trans (hb4.mono HB3.out.size))
 clear hb4
 have ra0 := (HO4.out).b0.c8
 have rr0 := (HO4.out).b1.cf7
 have rl := (HO4.out).b1.lt
 have HR4 := Lib.hid (HH.out _ HB4.out)
 go_wp2_with fail
 refine (HFI.out _ HR4.out).mono ?_
 rintro e w' ⟨rfl, h8⟩
 obtain rfl := h8
 obtain ⟨g0, g1⟩ := HR4.out.cells
 rw [HNN.out] at g0
 obtain ⟨k0, k1, k2, k3⟩ := HR4.out.cel id HIB.out
 rw [HKK.out] at k0
 go_wp2_with fail
 refine (rinside_any _ _ _ _ _ HX1.out HX2.out).mono ?_
 rintro e w' ⟨rfl, n0, h9⟩
 rw [HIN.out]
 subst h9
 clear ra0 rr0 rl g0 g1 k0 k1 k2 k3
 have HO5 := Lib.hid (show OO (w4.drewN n0) w.heap.size (oc o A n cap) from ⟨HO4.out.b0.drewN n0, HO4.out.b1.drewN n0⟩)
 have HB5 := Lib.hid (show Below w.heap.size w (w4.drewN n0) from HB4.out.trans ⟨rfl, rfl, rfl, Nat.le_refl _, fun _ _ => rfl⟩)
 generalize w4.drewN n0 = w5 at *
 have sa0 := (HO5.out).b0.c8
 have sr0 := (HO5.out).b1.cf7
 have sl := (HO5.out).b1.lt
 go_wp2_with fail
 refine (HPB.out _ (HH.out _ HB5.out)).mono ?_
 rintro e w6 ⟨rfl, hb6⟩
 clear sa0 sr0 sl
 have HO6 := Lib.hid (HO5.out.below hb6)
 have HB6 := Lib.hid (HB5.out.trans (hb6.mono HB5.out.size))
 clear hb6
 have ma0 := (HO6.out).b0.c8
 have mr0 := (HO6.out).b1.cf7
 have ml := (HO6.out).b1.lt
 have HR6 := Lib.hid (HH.out _ HB6.out)
 go_wp2_with fail
 refine (HFJ.out _ HR6.out).mono ?_
 rintro e w' ⟨rfl, h8⟩
 obtain rfl := h8
 go_wp2_with fail
 refine bodyPost_ret (v := .agg #[.int .i64 0, .int .i64 0, .slice none 0 0, .slice none 0 0, .int .i64 0, .int .i64 0, .int .i64 0]) (by simp [results, Tryz.results38, go_sem, mr0, ml]) rfl ?_
 exact rans_same HT.out (ans_set HB6.out (by omega) _ _ _ _ _ _ _)
theorem rren_samef (o : OpT) (A : Option Addr) (n cap : Nat) (w : World) (h : RIs F w y R a) (hg : Good a c) (hc : c + 20 ≤ 100000) (hp : o.path.size ≤ 1000) (hp2 : o.to.size ≤ 1000) (he1 : (splitN o.path).2 = 0) (he2 : (splitN o.to).2 = 0) (hl1 : (splitN o.path).1.length ≠ 0) (hl2 : (splitN o.to).1.length ≠ 0) (d id : Nat) (hd : a.par o.path 51 = (d, 0)) (hid : a.find d (nameN o.path) = id) (hz : id ≠ 0) (hk : (a.nd id).kind ≠ 2) (d2 : Nat) (hd2 : a.par o.to 51 = (d2, 0)) (hw : a.find d2 (nameN o.to) = id) :
  Calls Tryz.prog 38 #[.pointer (some ⟨y, 0, none⟩), o.val A n cap] w (RAnsPost F y (a) w) := by
 unfold OpT.val
 have HT := Lib.hid h
 have HH := Lib.hid (fun W (hb : Below w.heap.size w W) => h.below hb)
 have HS1 := Lib.hid (fun W => rsplit_any o.path W (by omega))
 have HS2 := Lib.hid (fun W => rsplit_any o.to W (by omega))
 have HE1 := Lib.hid he1
 have HE2 := Lib.hid he2
 have l1 : ((((splitN o.path).1.length : Nat) : Int) == 0) = false := beq_eq_false_iff_ne.2 (by omega)
 have l2 : ((((splitN o.to).1.length : Nat) : Int) == 0) = false := beq_eq_false_iff_ne.2 (by omega)
 have HPA := Lib.hid (fun W (h : RIs F W y R a) => show Calls Tryz.prog 74 #[.pointer (some ⟨y, 0, none⟩), .string o.path, .int .i64 51] W (fun e w' => e = .returned (.tuple #[.int .i64 (d : Nat), .string (nameN o.path), .int .i64 0]) ∧ Below W.heap.size W w') from
  (rparent_any o.path 51 W h hg (by omega) hp (by decide)).mono fun e w' hx => by
   obtain ⟨⟨d0, s0, rfl, hq⟩, hb⟩ := hx
   rw [hd] at hq
   obtain ⟨rfl, rfl⟩ := hq rfl
   rw [hd]
   exact ⟨rfl, hb⟩)
 have hfew := hg.few
 have hdir := par_dir (show (51 : Int) ≠ 0 by decide) (show (a.par o.path 51).2 = 0 by rw [hd])
 rw [hd] at hdir
 have hdl := (hg.in_last (k := d) (by rw [hdir]; decide)).2
 have HFI := Lib.hid (fun W (h : RIs F W y R a) => show Calls Tryz.prog 75 #[.pointer (some ⟨y, 0, none⟩), .int .i64 (d : Nat), .string (nameN o.path)] W (fun e w' => e = .returned (.int .i64 (id : Nat)) ∧ W = w') from by
  have := rfind_any d (nameN o.path) W h hdl (by omega) (Nat.le_trans (hg.len d) (by omega))
  rw [hid] at this
  exact this)
 have hlive : (a.nd id).kind ≠ 0 := by rw [← hid]; exact hg.find_live (by rw [hid]; exact hz)
 have hil := (hg.in_last hlive).2
 have t1 : (((id : Nat) : Int) != 0) = true := bne_iff_ne.2 (by omega)
 have t2 : (((id : Nat) : Int) == 0) = false := beq_eq_false_iff_ne.2 (by omega)
 have HIB := Lib.hid hil
 have hin : ((id : Nat) : Int) < ((a.last + 1 : Nat) : Int) := by omega
 have HPB := Lib.hid (fun W (h : RIs F W y R a) => show Calls Tryz.prog 74 #[.pointer (some ⟨y, 0, none⟩), .string o.to, .int .i64 51] W (fun e w' => e = .returned (.tuple #[.int .i64 (d2 : Nat), .string (nameN o.to), .int .i64 0]) ∧ Below W.heap.size W w') from
  (rparent_any o.to 51 W h hg (by omega) hp2 (by decide)).mono fun e w' hx => by
   obtain ⟨⟨d0, s0, rfl, hq⟩, hb⟩ := hx
   rw [hd2] at hq
   obtain ⟨rfl, rfl⟩ := hq rfl
   rw [hd2]
   exact ⟨rfl, hb⟩)
 have hdir2 := par_dir (show (51 : Int) ≠ 0 by decide) (show (a.par o.to 51).2 = 0 by rw [hd2])
 rw [hd2] at hdir2
 have hdl2 := (hg.in_last (k := d2) (by rw [hdir2]; decide)).2
 have HFJ := Lib.hid (fun W (h : RIs F W y R a) => show Calls Tryz.prog 75 #[.pointer (some ⟨y, 0, none⟩), .int .i64 (d2 : Nat), .string (nameN o.to)] W (fun e w' => e = .returned (.int .i64 (id : Nat)) ∧ W = w') from by
  have := rfind_any d2 (nameN o.to) W h hdl2 (by omega) (Nat.le_trans (hg.len d2) (by omega))
  rw [hw] at this
  exact this)
 have t5 : ((a.nd id).kind == 2) = false := beq_eq_false_iff_ne.2 hk
 have t6 : ((a.nd id).kind != 2) = true := bne_iff_ne.2 hk
 generalize hkk : (a.nd id).kind = kd at *
 have HKK := Lib.hid hkk
 clear hkk
 generalize hnn : a.last + 1 = n1 at *
 have hnb : n1 ≤ 1000001 := by omega
 have HNN := Lib.hid hnn
 clear hnn
 clear h hg he1 he2 hl1 hl2 hd hid hfew hdir hdl hz hlive hil hd2 hw hdir2 hdl2 hk
 go_enter Tryz.func38, Tryz.ntmps38
 go_upto_region 1 with (fail)
 obtain ⟨w1, hwe, HO1, HB1⟩ := asked w (oc o A n cap)
 rw [← hwe]
 clear hwe
 have ua0 := (HO1.out).b0.c8
 have ur0 := (HO1.out).b1.cf7
 have ul := (HO1.out).b1.lt
 go_wp2_with fail
 refine (HS1.out _).mono ?_
 rintro e w2 ⟨v1, rfl, hv1, hb2⟩
 obtain ⟨A1, c1, rfl, hx1⟩ := hv1
 clear ua0 ur0 ul
 have HV1 := Lib.hid (show Texts w1.heap.size w2 (.slice A1 (splitN o.path).1.length c1) (splitN o.path).1 from ⟨A1, c1, rfl, hx1⟩)
 have HO2 := Lib.hid (HO1.out.below hb2)
 have HB2 := Lib.hid (HB1.out.trans (hb2.mono HB1.out.size))
 clear hb2 hx1
 have za0 := (HO2.out).b0.c8
 have zr0 := (HO2.out).b1.cf7
 have zl := (HO2.out).b1.lt
 rw [HE1.out]
 go_wp2_with fail
 refine (HS2.out _).mono ?_
 rintro e w3 ⟨v2, rfl, hv2, hb3⟩
 obtain ⟨A2, c2, rfl, hx2⟩ := hv2
 clear za0 zr0 zl
 have HV2 := Lib.hid (show Texts w2.heap.size w3 (.slice A2 (splitN o.to).1.length c2) (splitN o.to).1 from ⟨A2, c2, rfl, hx2⟩)
 have HW1 := Lib.hid (HV1.out.below hb3)
 have HO3 := Lib.hid (HO2.out.below hb3)
 have HB3 := Lib.hid (HB2.out.trans (hb3.mono HB2.out.size))
 clear hb3 hx2
 have xa0 := (HO3.out).b0.c8
 have xr0 := (HO3.out).b1.cf7
 have xl := (HO3.out).b1.lt
 rw [HE2.out]
 go_wp2_with fail
 refine (HPA.out _ (HH.out _ HB3.out)).mono ?_
 rintro e w4 ⟨rfl, hb4⟩
 clear xa0 xr0 xl
 have HX1 := Lib.hid (HW1.out.below hb4)
 have HX2 := Lib.hid (HV2.out.below hb4)
 have HO4 := Lib.hid (HO3.out.below hb4)
 have HB4 := Lib.hid (HB3.out.trans (hb4.mono HB3.out.size))
 clear hb4
 have ra0 := (HO4.out).b0.c8
 have rr0 := (HO4.out).b1.cf7
 have rl := (HO4.out).b1.lt
 have HR4 := Lib.hid (HH.out _ HB4.out)
 go_wp2_with fail
 refine (HFI.out _ HR4.out).mono ?_
 rintro e w' ⟨rfl, h8⟩
 obtain rfl := h8
 obtain ⟨g0, g1⟩ := HR4.out.cells
 rw [HNN.out] at g0
 obtain ⟨k0, k1, k2, k3⟩ := HR4.out.cel id HIB.out
 rw [HKK.out] at k0
 go_wp2_with fail
 refine (HPB.out _ (HH.out _ HB4.out)).mono ?_
 rintro e w6 ⟨rfl, hb6⟩
 clear ra0 rr0 rl g0 g1 k0 k1 k2 k3
 have HO6 := Lib.hid (HO4.out.below hb6)
 have HB6 := Lib.hid (HB4.out.trans (hb6.mono HB4.out.size))
 clear hb6
 have ma0 := (HO6.out).b0.c8
 have mr0 := (HO6.out).b1.cf7
 have ml := (HO6.out).b1.lt
 have HR6 := Lib.hid (HH.out _ HB6.out)
 go_wp2_with fail
 refine (HFJ.out _ HR6.out).mono ?_
 rintro e w' ⟨rfl, h8⟩
 obtain rfl := h8
 go_wp2_with fail
 refine bodyPost_ret (v := .agg #[.int .i64 0, .int .i64 0, .slice none 0 0, .slice none 0 0, .int .i64 0, .int .i64 0, .int .i64 0]) (by simp [results, Tryz.results38, go_sem, mr0, ml]) rfl ?_
 exact rans_same HT.out (ans_set HB6.out (by omega) _ _ _ _ _ _ _)
theorem rren_42 (o : OpT) (A : Option Addr) (n cap : Nat) (w : World) (h : RIs F w y R a) (hg : Good a c) (hc : c + 20 ≤ 100000) (hp : o.path.size ≤ 1000) (hp2 : o.to.size ≤ 1000) (he1 : (splitN o.path).2 = 0) (he2 : (splitN o.to).2 = 0) (hl1 : (splitN o.path).1.length ≠ 0) (hl2 : (splitN o.to).1.length ≠ 0) (d id : Nat) (hd : a.par o.path 51 = (d, 0)) (hid : a.find d (nameN o.path) = id) (hz : id ≠ 0) (hk : (a.nd id).kind = 2) (hi : insideB (splitN o.path).1 (splitN o.to).1 = false) (d2 was : Nat) (hd2 : a.par o.to 51 = (d2, 0)) (hw : a.find d2 (nameN o.to) = was) (hne : was ≠ id) (hwz : was ≠ 0) (hkw : (a.nd was).kind ≠ 2) :
  Calls Tryz.prog 38 #[.pointer (some ⟨y, 0, none⟩), o.val A n cap] w (RAnsPost F y (a) w) := by
 unfold OpT.val
 have HT := Lib.hid h
 have HH := Lib.hid (fun W (hb : Below w.heap.size w W) => h.below hb)
 have HS1 := Lib.hid (fun W => rsplit_any o.path W (by omega))
 have HS2 := Lib.hid (fun W => rsplit_any o.to W (by omega))
 have HE1 := Lib.hid he1
 have HE2 := Lib.hid he2
 have l1 : ((((splitN o.path).1.length : Nat) : Int) == 0) = false := beq_eq_false_iff_ne.2 (by omega)
 have l2 : ((((splitN o.to).1.length : Nat) : Int) == 0) = false := beq_eq_false_iff_ne.2 (by omega)
 have HPA := Lib.hid (fun W (h : RIs F W y R a) => show Calls Tryz.prog 74 #[.pointer (some ⟨y, 0, none⟩), .string o.path, .int .i64 51] W (fun e w' => e = .returned (.tuple #[.int .i64 (d : Nat), .string (nameN o.path), .int .i64 0]) ∧ Below W.heap.size W w') from
  (rparent_any o.path 51 W h hg (by omega) hp (by decide)).mono fun e w' hx => by
   obtain ⟨⟨d0, s0, rfl, hq⟩, hb⟩ := hx
   rw [hd] at hq
   obtain ⟨rfl, rfl⟩ := hq rfl
   rw [hd]
   exact ⟨rfl, hb⟩)
 have hfew := hg.few
 have hdir := par_dir (show (51 : Int) ≠ 0 by decide) (show (a.par o.path 51).2 = 0 by rw [hd])
 rw [hd] at hdir
 have hdl := (hg.in_last (k := d) (by rw [hdir]; decide)).2
 have HFI := Lib.hid (fun W (h : RIs F W y R a) => show Calls Tryz.prog 75 #[.pointer (some ⟨y, 0, none⟩), .int .i64 (d : Nat), .string (nameN o.path)] W (fun e w' => e = .returned (.int .i64 (id : Nat)) ∧ W = w') from by
  have := rfind_any d (nameN o.path) W h hdl (by omega) (Nat.le_trans (hg.len d) (by omega))
  rw [hid] at this
  exact this)
 have hlive : (a.nd id).kind ≠ 0 := by rw [← hid]; exact hg.find_live (by rw [hid]; exact hz)
 have hil := (hg.in_last hlive).2
 have t1 : (((id : Nat) : Int) != 0) = true := bne_iff_ne.2 (by omega)
 have t2 : (((id : Nat) : Int) == 0) = false := beq_eq_false_iff_ne.2 (by omega)
 have HIB := Lib.hid hil
 have hin : ((id : Nat) : Int) < ((a.last + 1 : Nat) : Int) := by omega
 have HPB := Lib.hid (fun W (h : RIs F W y R a) => show Calls Tryz.prog 74 #[.pointer (some ⟨y, 0, none⟩), .string o.to, .int .i64 51] W (fun e w' => e = .returned (.tuple #[.int .i64 (d2 : Nat), .string (nameN o.to), .int .i64 0]) ∧ Below W.heap.size W w') from
  (rparent_any o.to 51 W h hg (by omega) hp2 (by decide)).mono fun e w' hx => by
   obtain ⟨⟨d0, s0, rfl, hq⟩, hb⟩ := hx
   rw [hd2] at hq
   obtain ⟨rfl, rfl⟩ := hq rfl
   rw [hd2]
   exact ⟨rfl, hb⟩)
 have hdir2 := par_dir (show (51 : Int) ≠ 0 by decide) (show (a.par o.to 51).2 = 0 by rw [hd2])
 rw [hd2] at hdir2
 have hdl2 := (hg.in_last (k := d2) (by rw [hdir2]; decide)).2
 have HFJ := Lib.hid (fun W (h : RIs F W y R a) => show Calls Tryz.prog 75 #[.pointer (some ⟨y, 0, none⟩), .int .i64 (d2 : Nat), .string (nameN o.to)] W (fun e w' => e = .returned (.int .i64 (was : Nat)) ∧ W = w') from by
  have := rfind_any d2 (nameN o.to) W h hdl2 (by omega) (Nat.le_trans (hg.len d2) (by omega))
  rw [hw] at this
  exact this)
 have tq : (((was : Nat) : Int) == ((id : Nat) : Int)) = false := beq_eq_false_iff_ne.2 (by omega)
 have hlw : (a.nd was).kind ≠ 0 := by rw [← hw]; exact hg.find_live (by rw [hw]; exact hwz)
 have hwl := (hg.in_last hlw).2
 have tw : (((was : Nat) : Int) != 0) = true := bne_iff_ne.2 (by omega)
 have HWB := Lib.hid hwl
 have hwn : ((was : Nat) : Int) < ((a.last + 1 : Nat) : Int) := by omega
 have HKK := Lib.hid hk
 have HIN := Lib.hid hi
 have t6 : ((2 : Int) != 2) = false := rfl
 have t7 : ((a.nd was).kind == 2) = false := beq_eq_false_iff_ne.2 hkw
 have t8 : ((a.nd was).kind != 2) = true := bne_iff_ne.2 hkw
 generalize hkw2 : (a.nd was).kind = kw at *
 have HWK := Lib.hid hkw2
 clear hkw2
 generalize hnn : a.last + 1 = n1 at *
 have hnb : n1 ≤ 1000001 := by omega
 have HNN := Lib.hid hnn
 clear hnn
 clear h hg he1 he2 hl1 hl2 hd hid hfew hdir hdl hz hlive hil hd2 hw hdir2 hdl2 hne hwz hlw hwl hk hi hkw
 go_enter Tryz.func38, Tryz.ntmps38
 go_upto_region 1 with (fail)
 obtain ⟨w1, hwe, HO1, HB1⟩ := asked w (oc o A n cap)
 rw [← hwe]
 clear hwe
 have ua0 := (HO1.out).b0.c8
 have ur0 := (HO1.out).b1.cf7
 have ul := (HO1.out).b1.lt
 go_wp2_with fail
 refine (HS1.out _).mono ?_
 rintro e w2 ⟨v1, rfl, hv1, hb2⟩
 obtain ⟨A1, c1, rfl, hx1⟩ := hv1
 clear ua0 ur0 ul
 have HV1 := Lib.hid (show Texts w1.heap.size w2 (.slice A1 (splitN o.path).1.length c1) (splitN o.path).1 from ⟨A1, c1, rfl, hx1⟩)
 have HO2 := Lib.hid (HO1.out.below hb2)
 have HB2 := Lib.hid (HB1.out.trans (hb2.mono HB1.out.size))
 clear hb2 hx1
 have za0 := (HO2.out).b0.c8
 have zr0 := (HO2.out).b1.cf7
 have zl := (HO2.out).b1.lt
 rw [HE1.out]
 go_wp2_with fail
 refine (HS2.out _).mono ?_
 rintro e w3 ⟨v2, rfl, hv2, hb3⟩
 obtain ⟨A2, c2, rfl, hx2⟩ := hv2
 clear za0 zr0 zl
 have HV2 := Lib.hid (show Texts w2.heap.size w3 (.slice A2 (splitN o.to).1.length c2) (splitN o.to).1 from ⟨A2, c2, rfl, hx2⟩)
 have HW1 := Lib.hid (HV1.out.below hb3)
 have HO3 := Lib.hid (HO2.out.below hb3)
 have HB3 := Lib.hid (HB2.out.trans (hb3.mono HB2.out.size))
 clear hb3 hx2
 have xa0 := (HO3.out).b0.c8
 have xr0 := (HO3.out).b1.cf7
 have xl := (HO3.out).b1.lt
 rw [HE2.out]
 go_wp2_with fail
 refine (HPA.out _ (HH.out _ HB3.out)).mono ?_
 rintro e w4 ⟨rfl, hb4⟩
 clear xa0 xr0 xl
 have HX1 := Lib.hid (HW1.out.below hb4)
 have HX2 := Lib.hid (HV2.out.below hb4)
 have HO4 := Lib.hid (HO3.out.below hb4)
 have HB4 := Lib.hid (HB3.out.trans (hb4.mono HB3.out.size))
 clear hb4
 have ra0 := (HO4.out).b0.c8
 have rr0 := (HO4.out).b1.cf7
 have rl := (HO4.out).b1.lt
 have HR4 := Lib.hid (HH.out _ HB4.out)
 go_wp2_with fail
 refine (HFI.out _ HR4.out).mono ?_
 rintro e w' ⟨rfl, h8⟩
 obtain rfl := h8
 obtain ⟨g0, g1⟩ := HR4.out.cells
 rw [HNN.out] at g0
 obtain ⟨k0, k1, k2, k3⟩ := HR4.out.cel id HIB.out
 rw [HKK.out] at k0
 go_wp2_with fail
 refine (rinside_any _ _ _ _ _ HX1.out HX2.out).mono ?_
 rintro e w' ⟨rfl, n0, h9⟩
 rw [HIN.out]
 subst h9
 clear ra0 rr0 rl g0 g1 k0 k1 k2 k3
 have HO5 := Lib.hid (show OO (w4.drewN n0) w.heap.size (oc o A n cap) from ⟨HO4.out.b0.drewN n0, HO4.out.b1.drewN n0⟩)
 have HB5 := Lib.hid (show Below w.heap.size w (w4.drewN n0) from HB4.out.trans ⟨rfl, rfl, rfl, Nat.le_refl _, fun _ _ => rfl⟩)
 generalize w4.drewN n0 = w5 at *
 have sa0 := (HO5.out).b0.c8
 have sr0 := (HO5.out).b1.cf7
 have sl := (HO5.out).b1.lt
 go_wp2_with fail
 refine (HPB.out _ (HH.out _ HB5.out)).mono ?_
 rintro e w6 ⟨rfl, hb6⟩
 clear sa0 sr0 sl
 have HO6 := Lib.hid (HO5.out.below hb6)
 have HB6 := Lib.hid (HB5.out.trans (hb6.mono HB5.out.size))
 clear hb6
 have ma0 := (HO6.out).b0.c8
 have mr0 := (HO6.out).b1.cf7
 have ml := (HO6.out).b1.lt
 have HR6 := Lib.hid (HH.out _ HB6.out)
 go_wp2_with fail
 refine (HFJ.out _ HR6.out).mono ?_
 rintro e w' ⟨rfl, h8⟩
 obtain rfl := h8
 obtain ⟨g0, g1⟩ := HR6.out.cells
 rw [HNN.out] at g0
 obtain ⟨k0, k1, k2, k3⟩ := HR6.out.cel id HIB.out
 rw [HKK.out] at k0
 obtain ⟨j0, j1, j2, j3⟩ := HR6.out.cel was HWB.out
 rw [HWK.out] at j0
 go_wp2_with fail
 refine (failed_any _ _).mono ?_
 rintro e w5 ⟨rfl, hb5⟩
 have HOF := Lib.hid (HO6.out.below hb5)
 have HBF := Lib.hid (HB6.out.trans (hb5.mono HB6.out.size))
 clear hb5
 have vr0 := (HOF.out).b1.cf7
 have vl := (HOF.out).b1.lt
 go_wp2_with fail
 refine bodyPost_ret (v := .agg #[.int .i64 42, .int .i64 0, .slice none 0 0, .slice none 0 0, .int .i64 0, .int .i64 0, .int .i64 0]) (by simp [results, Tryz.results38, go_sem, vr0, vl]) rfl ?_
 exact rans_same HT.out (ans_set HBF.out (by omega) _ _ _ _ _ _ _)
theorem rren_43 (o : OpT) (A : Option Addr) (n cap : Nat) (w : World) (h : RIs F w y R a) (hg : Good a c) (hc : c + 20 ≤ 100000) (hp : o.path.size ≤ 1000) (hp2 : o.to.size ≤ 1000) (he1 : (splitN o.path).2 = 0) (he2 : (splitN o.to).2 = 0) (hl1 : (splitN o.path).1.length ≠ 0) (hl2 : (splitN o.to).1.length ≠ 0) (d id : Nat) (hd : a.par o.path 51 = (d, 0)) (hid : a.find d (nameN o.path) = id) (hz : id ≠ 0) (hk : (a.nd id).kind ≠ 2) (d2 was : Nat) (hd2 : a.par o.to 51 = (d2, 0)) (hw : a.find d2 (nameN o.to) = was) (hne : was ≠ id) (hwz : was ≠ 0) (hkw : (a.nd was).kind = 2) :
  Calls Tryz.prog 38 #[.pointer (some ⟨y, 0, none⟩), o.val A n cap] w (RAnsPost F y (a) w) := by
 unfold OpT.val
 have HT := Lib.hid h
 have HH := Lib.hid (fun W (hb : Below w.heap.size w W) => h.below hb)
 have HS1 := Lib.hid (fun W => rsplit_any o.path W (by omega))
 have HS2 := Lib.hid (fun W => rsplit_any o.to W (by omega))
 have HE1 := Lib.hid he1
 have HE2 := Lib.hid he2
 have l1 : ((((splitN o.path).1.length : Nat) : Int) == 0) = false := beq_eq_false_iff_ne.2 (by omega)
 have l2 : ((((splitN o.to).1.length : Nat) : Int) == 0) = false := beq_eq_false_iff_ne.2 (by omega)
 have HPA := Lib.hid (fun W (h : RIs F W y R a) => show Calls Tryz.prog 74 #[.pointer (some ⟨y, 0, none⟩), .string o.path, .int .i64 51] W (fun e w' => e = .returned (.tuple #[.int .i64 (d : Nat), .string (nameN o.path), .int .i64 0]) ∧ Below W.heap.size W w') from
  (rparent_any o.path 51 W h hg (by omega) hp (by decide)).mono fun e w' hx => by
   obtain ⟨⟨d0, s0, rfl, hq⟩, hb⟩ := hx
   rw [hd] at hq
   obtain ⟨rfl, rfl⟩ := hq rfl
   rw [hd]
   exact ⟨rfl, hb⟩)
 have hfew := hg.few
 have hdir := par_dir (show (51 : Int) ≠ 0 by decide) (show (a.par o.path 51).2 = 0 by rw [hd])
 rw [hd] at hdir
 have hdl := (hg.in_last (k := d) (by rw [hdir]; decide)).2
 have HFI := Lib.hid (fun W (h : RIs F W y R a) => show Calls Tryz.prog 75 #[.pointer (some ⟨y, 0, none⟩), .int .i64 (d : Nat), .string (nameN o.path)] W (fun e w' => e = .returned (.int .i64 (id : Nat)) ∧ W = w') from by
  have := rfind_any d (nameN o.path) W h hdl (by omega) (Nat.le_trans (hg.len d) (by omega))
  rw [hid] at this
  exact this)
 have hlive : (a.nd id).kind ≠ 0 := by rw [← hid]; exact hg.find_live (by rw [hid]; exact hz)
 have hil := (hg.in_last hlive).2
 have t1 : (((id : Nat) : Int) != 0) = true := bne_iff_ne.2 (by omega)
 have t2 : (((id : Nat) : Int) == 0) = false := beq_eq_false_iff_ne.2 (by omega)
 have HIB := Lib.hid hil
 have hin : ((id : Nat) : Int) < ((a.last + 1 : Nat) : Int) := by omega
 have HPB := Lib.hid (fun W (h : RIs F W y R a) => show Calls Tryz.prog 74 #[.pointer (some ⟨y, 0, none⟩), .string o.to, .int .i64 51] W (fun e w' => e = .returned (.tuple #[.int .i64 (d2 : Nat), .string (nameN o.to), .int .i64 0]) ∧ Below W.heap.size W w') from
  (rparent_any o.to 51 W h hg (by omega) hp2 (by decide)).mono fun e w' hx => by
   obtain ⟨⟨d0, s0, rfl, hq⟩, hb⟩ := hx
   rw [hd2] at hq
   obtain ⟨rfl, rfl⟩ := hq rfl
   rw [hd2]
   exact ⟨rfl, hb⟩)
 have hdir2 := par_dir (show (51 : Int) ≠ 0 by decide) (show (a.par o.to 51).2 = 0 by rw [hd2])
 rw [hd2] at hdir2
 have hdl2 := (hg.in_last (k := d2) (by rw [hdir2]; decide)).2
 have HFJ := Lib.hid (fun W (h : RIs F W y R a) => show Calls Tryz.prog 75 #[.pointer (some ⟨y, 0, none⟩), .int .i64 (d2 : Nat), .string (nameN o.to)] W (fun e w' => e = .returned (.int .i64 (was : Nat)) ∧ W = w') from by
  have := rfind_any d2 (nameN o.to) W h hdl2 (by omega) (Nat.le_trans (hg.len d2) (by omega))
  rw [hw] at this
  exact this)
 have tq : (((was : Nat) : Int) == ((id : Nat) : Int)) = false := beq_eq_false_iff_ne.2 (by omega)
 have hlw : (a.nd was).kind ≠ 0 := by rw [← hw]; exact hg.find_live (by rw [hw]; exact hwz)
 have hwl := (hg.in_last hlw).2
 have tw : (((was : Nat) : Int) != 0) = true := bne_iff_ne.2 (by omega)
 have HWB := Lib.hid hwl
 have hwn : ((was : Nat) : Int) < ((a.last + 1 : Nat) : Int) := by omega
 have t5 : ((a.nd id).kind == 2) = false := beq_eq_false_iff_ne.2 hk
 have t6 : ((a.nd id).kind != 2) = true := bne_iff_ne.2 hk
 generalize hkk : (a.nd id).kind = kd at *
 have HKK := Lib.hid hkk
 clear hkk
 have HWK := Lib.hid hkw
 generalize hnn : a.last + 1 = n1 at *
 have hnb : n1 ≤ 1000001 := by omega
 have HNN := Lib.hid hnn
 clear hnn
 clear h hg he1 he2 hl1 hl2 hd hid hfew hdir hdl hz hlive hil hd2 hw hdir2 hdl2 hne hwz hlw hwl hk hkw
 go_enter Tryz.func38, Tryz.ntmps38
 go_upto_region 1 with (fail)
 obtain ⟨w1, hwe, HO1, HB1⟩ := asked w (oc o A n cap)
 rw [← hwe]
 clear hwe
 have ua0 := (HO1.out).b0.c8
 have ur0 := (HO1.out).b1.cf7
 have ul := (HO1.out).b1.lt
 go_wp2_with fail
 refine (HS1.out _).mono ?_
 rintro e w2 ⟨v1, rfl, hv1, hb2⟩
 obtain ⟨A1, c1, rfl, hx1⟩ := hv1
 clear ua0 ur0 ul
 have HV1 := Lib.hid (show Texts w1.heap.size w2 (.slice A1 (splitN o.path).1.length c1) (splitN o.path).1 from ⟨A1, c1, rfl, hx1⟩)
 have HO2 := Lib.hid (HO1.out.below hb2)
 have HB2 := Lib.hid (HB1.out.trans (hb2.mono HB1.out.size))
 clear hb2 hx1
 have za0 := (HO2.out).b0.c8
 have zr0 := (HO2.out).b1.cf7
 have zl := (HO2.out).b1.lt
 rw [HE1.out]
 go_wp2_with fail
 refine (HS2.out _).mono ?_
 rintro e w3 ⟨v2, rfl, hv2, hb3⟩
 obtain ⟨A2, c2, rfl, hx2⟩ := hv2
 clear za0 zr0 zl
 have HV2 := Lib.hid (show Texts w2.heap.size w3 (.slice A2 (splitN o.to).1.length c2) (splitN o.to).1 from ⟨A2, c2, rfl, hx2⟩)
 have HW1 := Lib.hid (HV1.out.below hb3)
 have HO3 := Lib.hid (HO2.out.below hb3)
 have HB3 := Lib.hid (HB2.out.trans (hb3.mono HB2.out.size))
 clear hb3 hx2
 have xa0 := (HO3.out).b0.c8
 have xr0 := (HO3.out).b1.cf7
 have xl := (HO3.out).b1.lt
 rw [HE2.out]
 go_wp2_with fail
 refine (HPA.out _ (HH.out _ HB3.out)).mono ?_
 rintro e w4 ⟨rfl, hb4⟩
 clear xa0 xr0 xl
 have HX1 := Lib.hid (HW1.out.below hb4)
 have HX2 := Lib.hid (HV2.out.below hb4)
 have HO4 := Lib.hid (HO3.out.below hb4)
 have HB4 := Lib.hid (HB3.out.trans (hb4.mono HB3.out.size))
 clear hb4
 have ra0 := (HO4.out).b0.c8
 have rr0 := (HO4.out).b1.cf7
 have rl := (HO4.out).b1.lt
 have HR4 := Lib.hid (HH.out _ HB4.out)
 go_wp2_with fail
 refine (HFI.out _ HR4.out).mono ?_
 rintro e w' ⟨rfl, h8⟩
 obtain rfl := h8
 obtain ⟨g0, g1⟩ := HR4.out.cells
 rw [HNN.out] at g0
 obtain ⟨k0, k1, k2, k3⟩ := HR4.out.cel id HIB.out
 rw [HKK.out] at k0
 go_wp2_with fail
 refine (HPB.out _ (HH.out _ HB4.out)).mono ?_
 rintro e w6 ⟨rfl, hb6⟩
 clear ra0 rr0 rl g0 g1 k0 k1 k2 k3
 have HO6 := Lib.hid (HO4.out.below hb6)
 have HB6 := Lib.hid (HB4.out.trans (hb6.mono HB4.out.size))
 clear hb6
 have ma0 := (HO6.out).b0.c8
 have mr0 := (HO6.out).b1.cf7
 have ml := (HO6.out).b1.lt
 have HR6 := Lib.hid (HH.out _ HB6.out)
 go_wp2_with fail
 refine (HFJ.out _ HR6.out).mono ?_
 rintro e w' ⟨rfl, h8⟩
 obtain rfl := h8
 obtain ⟨g0, g1⟩ := HR6.out.cells
 rw [HNN.out] at g0
 obtain ⟨k0, k1, k2, k3⟩ := HR6.out.cel id HIB.out
 rw [HKK.out] at k0
 obtain ⟨j0, j1, j2, j3⟩ := HR6.out.cel was HWB.out
 rw [HWK.out] at j0
 go_wp2_with fail
 refine (failed_any _ _).mono ?_
 rintro e w5 ⟨rfl, hb5⟩
 have HOF := Lib.hid (HO6.out.below hb5)
 have HBF := Lib.hid (HB6.out.trans (hb5.mono HB6.out.size))
 clear hb5
 have vr0 := (HOF.out).b1.cf7
 have vl := (HOF.out).b1.lt
 go_wp2_with fail
 refine bodyPost_ret (v := .agg #[.int .i64 43, .int .i64 0, .slice none 0 0, .slice none 0 0, .int .i64 0, .int .i64 0, .int .i64 0]) (by simp [results, Tryz.results38, go_sem, vr0, vl]) rfl ?_
 exact rans_same HT.out (ans_set HBF.out (by omega) _ _ _ _ _ _ _)
theorem rren_44 (o : OpT) (A : Option Addr) (n cap : Nat) (w : World) (h : RIs F w y R a) (hg : Good a c) (hc : c + 20 ≤ 100000) (hp : o.path.size ≤ 1000) (hp2 : o.to.size ≤ 1000) (he1 : (splitN o.path).2 = 0) (he2 : (splitN o.to).2 = 0) (hl1 : (splitN o.path).1.length ≠ 0) (hl2 : (splitN o.to).1.length ≠ 0) (d id : Nat) (hd : a.par o.path 51 = (d, 0)) (hid : a.find d (nameN o.path) = id) (hz : id ≠ 0) (hk : (a.nd id).kind = 2) (hi : insideB (splitN o.path).1 (splitN o.to).1 = false) (d2 was : Nat) (hd2 : a.par o.to 51 = (d2, 0)) (hw : a.find d2 (nameN o.to) = was) (hne : was ≠ id) (hwz : was ≠ 0) (hkw : (a.nd was).kind = 2) (hn : (a.nd was).names.length ≠ 0) :
  Calls Tryz.prog 38 #[.pointer (some ⟨y, 0, none⟩), o.val A n cap] w (RAnsPost F y (a) w) := by
 unfold OpT.val
 have HT := Lib.hid h
 have HH := Lib.hid (fun W (hb : Below w.heap.size w W) => h.below hb)
 have HS1 := Lib.hid (fun W => rsplit_any o.path W (by omega))
 have HS2 := Lib.hid (fun W => rsplit_any o.to W (by omega))
 have HE1 := Lib.hid he1
 have HE2 := Lib.hid he2
 have l1 : ((((splitN o.path).1.length : Nat) : Int) == 0) = false := beq_eq_false_iff_ne.2 (by omega)
 have l2 : ((((splitN o.to).1.length : Nat) : Int) == 0) = false := beq_eq_false_iff_ne.2 (by omega)
 have HPA := Lib.hid (fun W (h : RIs F W y R a) => show Calls Tryz.prog 74 #[.pointer (some ⟨y, 0, none⟩), .string o.path, .int .i64 51] W (fun e w' => e = .returned (.tuple #[.int .i64 (d : Nat), .string (nameN o.path), .int .i64 0]) ∧ Below W.heap.size W w') from
  (rparent_any o.path 51 W h hg (by omega) hp (by decide)).mono fun e w' hx => by
   obtain ⟨⟨d0, s0, rfl, hq⟩, hb⟩ := hx
   rw [hd] at hq
   obtain ⟨rfl, rfl⟩ := hq rfl
   rw [hd]
   exact ⟨rfl, hb⟩)
 have hfew := hg.few
 have hdir := par_dir (show (51 : Int) ≠ 0 by decide) (show (a.par o.path 51).2 = 0 by rw [hd])
 rw [hd] at hdir
 have hdl := (hg.in_last (k := d) (by rw [hdir]; decide)).2
 have HFI := Lib.hid (fun W (h : RIs F W y R a) => show Calls Tryz.prog 75 #[.pointer (some ⟨y, 0, none⟩), .int .i64 (d : Nat), .string (nameN o.path)] W (fun e w' => e = .returned (.int .i64 (id : Nat)) ∧ W = w') from by
  have := rfind_any d (nameN o.path) W h hdl (by omega) (Nat.le_trans (hg.len d) (by omega))
  rw [hid] at this
  exact this)
 have hlive : (a.nd id).kind ≠ 0 := by rw [← hid]; exact hg.find_live (by rw [hid]; exact hz)
 have hil := (hg.in_last hlive).2
 have t1 : (((id : Nat) : Int) != 0) = true := bne_iff_ne.2 (by omega)
 have t2 : (((id : Nat) : Int) == 0) = false := beq_eq_false_iff_ne.2 (by omega)
 have HIB := Lib.hid hil
 have hin : ((id : Nat) : Int) < ((a.last + 1 : Nat) : Int) := by omega
 have HPB := Lib.hid (fun W (h : RIs F W y R a) => show Calls Tryz.prog 74 #[.pointer (some ⟨y, 0, none⟩), .string o.to, .int .i64 51] W (fun e w' => e = .returned (.tuple #[.int .i64 (d2 : Nat), .string (nameN o.to), .int .i64 0]) ∧ Below W.heap.size W w') from
  (rparent_any o.to 51 W h hg (by omega) hp2 (by decide)).mono fun e w' hx => by
   obtain ⟨⟨d0, s0, rfl, hq⟩, hb⟩ := hx
   rw [hd2] at hq
   obtain ⟨rfl, rfl⟩ := hq rfl
   rw [hd2]
   exact ⟨rfl, hb⟩)
 have hdir2 := par_dir (show (51 : Int) ≠ 0 by decide) (show (a.par o.to 51).2 = 0 by rw [hd2])
 rw [hd2] at hdir2
 have hdl2 := (hg.in_last (k := d2) (by rw [hdir2]; decide)).2
 have HFJ := Lib.hid (fun W (h : RIs F W y R a) => show Calls Tryz.prog 75 #[.pointer (some ⟨y, 0, none⟩), .int .i64 (d2 : Nat), .string (nameN o.to)] W (fun e w' => e = .returned (.int .i64 (was : Nat)) ∧ W = w') from by
  have := rfind_any d2 (nameN o.to) W h hdl2 (by omega) (Nat.le_trans (hg.len d2) (by omega))
  rw [hw] at this
  exact this)
 have tq : (((was : Nat) : Int) == ((id : Nat) : Int)) = false := beq_eq_false_iff_ne.2 (by omega)
 have hlw : (a.nd was).kind ≠ 0 := by rw [← hw]; exact hg.find_live (by rw [hw]; exact hwz)
 have hwl := (hg.in_last hlw).2
 have tw : (((was : Nat) : Int) != 0) = true := bne_iff_ne.2 (by omega)
 have HWB := Lib.hid hwl
 have hwn : ((was : Nat) : Int) < ((a.last + 1 : Nat) : Int) := by omega
 have HKK := Lib.hid hk
 have HIN := Lib.hid hi
 have t6 : ((2 : Int) != 2) = false := rfl
 have HWK := Lib.hid hkw
 obtain ⟨A3, e3, h3⟩ := (HT.out.nam was HWB.out).1.shape
 have H3 := Lib.hid h3
 clear h3
 have tn : (0 : Int) < (((a.nd was).names.length : Nat) : Int) := by omega
 generalize (a.nd was).names.length = nl at *
 generalize hnn : a.last + 1 = n1 at *
 have hnb : n1 ≤ 1000001 := by omega
 have HNN := Lib.hid hnn
 clear hnn
 clear h hg he1 he2 hl1 hl2 hd hid hfew hdir hdl hz hlive hil hd2 hw hdir2 hdl2 hne hwz hlw hwl hk hi hkw hn
 go_enter Tryz.func38, Tryz.ntmps38
 go_upto_region 1 with (fail)
 obtain ⟨w1, hwe, HO1, HB1⟩ := asked w (oc o A n cap)
 rw [← hwe]
 clear hwe
 have ua0 := (HO1.out).b0.c8
 have ur0 := (HO1.out).b1.cf7
 have ul := (HO1.out).b1.lt
 go_wp2_with fail
 refine (HS1.out _).mono ?_
 rintro e w2 ⟨v1, rfl, hv1, hb2⟩
 obtain ⟨A1, c1, rfl, hx1⟩ := hv1
 clear ua0 ur0 ul
 have HV1 := Lib.hid (show Texts w1.heap.size w2 (.slice A1 (splitN o.path).1.length c1) (splitN o.path).1 from ⟨A1, c1, rfl, hx1⟩)
 have HO2 := Lib.hid (HO1.out.below hb2)
 have HB2 := Lib.hid (HB1.out.trans (hb2.mono HB1.out.size))
 clear hb2 hx1
 have za0 := (HO2.out).b0.c8
 have zr0 := (HO2.out).b1.cf7
 have zl := (HO2.out).b1.lt
 rw [HE1.out]
 go_wp2_with fail
 refine (HS2.out _).mono ?_
 rintro e w3 ⟨v2, rfl, hv2, hb3⟩
 obtain ⟨A2, c2, rfl, hx2⟩ := hv2
 clear za0 zr0 zl
 have HV2 := Lib.hid (show Texts w2.heap.size w3 (.slice A2 (splitN o.to).1.length c2) (splitN o.to).1 from ⟨A2, c2, rfl, hx2⟩)
 have HW1 := Lib.hid (HV1.out.below hb3)
 have HO3 := Lib.hid (HO2.out.below hb3)
 have HB3 := Lib.hid (HB2.out.trans (hb3.mono HB2.out.size))
 clear hb3 hx2
 have xa0 := (HO3.out).b0.c8
 have xr0 := (HO3.out).b1.cf7
 have xl := (HO3.out).b1.lt
 rw [HE2.out]
 go_wp2_with fail
 refine (HPA.out _ (HH.out _ HB3.out)).mono ?_
 rintro e w4 ⟨rfl, hb4⟩
 clear xa0 xr0 xl
 have HX1 := Lib.hid (HW1.out.below hb4)
 have HX2 := Lib.hid (HV2.out.below hb4)
 have HO4 := Lib.hid (HO3.out.below hb4)
 have HB4 := Lib.hid (HB3.out.trans (hb4.mono HB3.out.size))
 clear hb4
 have ra0 := (HO4.out).b0.c8
 have rr0 := (HO4.out).b1.cf7
 have rl := (HO4.out).b1.lt
 have HR4 := Lib.hid (HH.out _ HB4.out)
 go_wp2_with fail
 refine (HFI.out _ HR4.out).mono ?_
 rintro e w' ⟨rfl, h8⟩
 obtain rfl := h8
 obtain ⟨g0, g1⟩ := HR4.out.cells
 rw [HNN.out] at g0
 obtain ⟨k0, k1, k2, k3⟩ := HR4.out.cel id HIB.out
 rw [HKK.out] at k0
 go_wp2_with fail
 refine (rinside_any _ _ _ _ _ HX1.out HX2.out).mono ?_
 rintro e w' ⟨rfl, n0, h9⟩
 rw [HIN.out]
 subst h9
 clear ra0 rr0 rl g0 g1 k0 k1 k2 k3
 have HO5 := Lib.hid (show OO (w4.drewN n0) w.heap.size (oc o A n cap) from ⟨HO4.out.b0.drewN n0, HO4.out.b1.drewN n0⟩)
 have HB5 := Lib.hid (show Below w.heap.size w (w4.drewN n0) from HB4.out.trans ⟨rfl, rfl, rfl, Nat.le_refl _, fun _ _ => rfl⟩)
 generalize w4.drewN n0 = w5 at *
 have sa0 := (HO5.out).b0.c8
 have sr0 := (HO5.out).b1.cf7
 have sl := (HO5.out).b1.lt
 go_wp2_with fail
 refine (HPB.out _ (HH.out _ HB5.out)).mono ?_
 rintro e w6 ⟨rfl, hb6⟩
 clear sa0 sr0 sl
 have HO6 := Lib.hid (HO5.out.below hb6)
 have HB6 := Lib.hid (HB5.out.trans (hb6.mono HB5.out.size))
 clear hb6
 have ma0 := (HO6.out).b0.c8
 have mr0 := (HO6.out).b1.cf7
 have ml := (HO6.out).b1.lt
 have HR6 := Lib.hid (HH.out _ HB6.out)
 go_wp2_with fail
 refine (HFJ.out _ HR6.out).mono ?_
 rintro e w' ⟨rfl, h8⟩
 obtain rfl := h8
 obtain ⟨g0, g1⟩ := HR6.out.cells
 rw [HNN.out] at g0
 obtain ⟨k0, k1, k2, k3⟩ := HR6.out.cel id HIB.out
 rw [HKK.out] at k0
 obtain ⟨j0, j1, j2, j3⟩ := HR6.out.cel was HWB.out
 rw [HWK.out] at j0
 rw [H3.out] at j3
 go_wp2_with fail
 refine (failed_any _ _).mono ?_
 rintro e w5 ⟨rfl, hb5⟩
 have HOF := Lib.hid (HO6.out.below hb5)
 have HBF := Lib.hid (HB6.out.trans (hb5.mono HB6.out.size))
 clear hb5
 have vr0 := (HOF.out).b1.cf7
 have vl := (HOF.out).b1.lt
 go_wp2_with fail
 refine bodyPost_ret (v := .agg #[.int .i64 44, .int .i64 0, .slice none 0 0, .slice none 0 0, .int .i64 0, .int .i64 0, .int .i64 0]) (by simp [results, Tryz.results38, go_sem, vr0, vl]) rfl ?_
 exact rans_same HT.out (ans_set HBF.out (by omega) _ _ _ _ _ _ _)
theorem rren_48_0d (o : OpT) (A : Option Addr) (n cap : Nat) (w : World) (h : RIs F w y R a) (hg : Good a c) (hc : c + 20 ≤ 100000) (hp : o.path.size ≤ 1000) (hp2 : o.to.size ≤ 1000) (he1 : (splitN o.path).2 = 0) (he2 : (splitN o.to).2 = 0) (hl1 : (splitN o.path).1.length ≠ 0) (hl2 : (splitN o.to).1.length ≠ 0) (d id : Nat) (hd : a.par o.path 51 = (d, 0)) (hid : a.find d (nameN o.path) = id) (hz : id ≠ 0) (hk : (a.nd id).kind = 2) (hi : insideB (splitN o.path).1 (splitN o.to).1 = false) (d2 : Nat) (hd2 : a.par o.to 51 = (d2, 0)) (hw : a.find d2 (nameN o.to) = 0) (hl : (a.nd id).links = 200) :
  Calls Tryz.prog 38 #[.pointer (some ⟨y, 0, none⟩), o.val A n cap] w (RAnsPost F y (a) w) := by
 unfold OpT.val
 have HT := Lib.hid h
 have HH := Lib.hid (fun W (hb : Below w.heap.size w W) => h.below hb)
 have HS1 := Lib.hid (fun W => rsplit_any o.path W (by omega))
 have HS2 := Lib.hid (fun W => rsplit_any o.to W (by omega))
 have HE1 := Lib.hid he1
 have HE2 := Lib.hid he2
 have l1 : ((((splitN o.path).1.length : Nat) : Int) == 0) = false := beq_eq_false_iff_ne.2 (by omega)
 have l2 : ((((splitN o.to).1.length : Nat) : Int) == 0) = false := beq_eq_false_iff_ne.2 (by omega)
 have HPA := Lib.hid (fun W (h : RIs F W y R a) => show Calls Tryz.prog 74 #[.pointer (some ⟨y, 0, none⟩), .string o.path, .int .i64 51] W (fun e w' => e = .returned (.tuple #[.int .i64 (d : Nat), .string (nameN o.path), .int .i64 0]) ∧ Below W.heap.size W w') from
  (rparent_any o.path 51 W h hg (by omega) hp (by decide)).mono fun e w' hx => by
   obtain ⟨⟨d0, s0, rfl, hq⟩, hb⟩ := hx
   rw [hd] at hq
   obtain ⟨rfl, rfl⟩ := hq rfl
   rw [hd]
   exact ⟨rfl, hb⟩)
 have hfew := hg.few
 have hdir := par_dir (show (51 : Int) ≠ 0 by decide) (show (a.par o.path 51).2 = 0 by rw [hd])
 rw [hd] at hdir
 have hdl := (hg.in_last (k := d) (by rw [hdir]; decide)).2
 have HFI := Lib.hid (fun W (h : RIs F W y R a) => show Calls Tryz.prog 75 #[.pointer (some ⟨y, 0, none⟩), .int .i64 (d : Nat), .string (nameN o.path)] W (fun e w' => e = .returned (.int .i64 (id : Nat)) ∧ W = w') from by
  have := rfind_any d (nameN o.path) W h hdl (by omega) (Nat.le_trans (hg.len d) (by omega))
  rw [hid] at this
  exact this)
 have hlive : (a.nd id).kind ≠ 0 := by rw [← hid]; exact hg.find_live (by rw [hid]; exact hz)
 have hil := (hg.in_last hlive).2
 have t1 : (((id : Nat) : Int) != 0) = true := bne_iff_ne.2 (by omega)
 have t2 : (((id : Nat) : Int) == 0) = false := beq_eq_false_iff_ne.2 (by omega)
 have HIB := Lib.hid hil
 have hin : ((id : Nat) : Int) < ((a.last + 1 : Nat) : Int) := by omega
 have HPB := Lib.hid (fun W (h : RIs F W y R a) => show Calls Tryz.prog 74 #[.pointer (some ⟨y, 0, none⟩), .string o.to, .int .i64 51] W (fun e w' => e = .returned (.tuple #[.int .i64 (d2 : Nat), .string (nameN o.to), .int .i64 0]) ∧ Below W.heap.size W w') from
  (rparent_any o.to 51 W h hg (by omega) hp2 (by decide)).mono fun e w' hx => by
   obtain ⟨⟨d0, s0, rfl, hq⟩, hb⟩ := hx
   rw [hd2] at hq
   obtain ⟨rfl, rfl⟩ := hq rfl
   rw [hd2]
   exact ⟨rfl, hb⟩)
 have hdir2 := par_dir (show (51 : Int) ≠ 0 by decide) (show (a.par o.to 51).2 = 0 by rw [hd2])
 rw [hd2] at hdir2
 have hdl2 := (hg.in_last (k := d2) (by rw [hdir2]; decide)).2
 have HFJ := Lib.hid (fun W (h : RIs F W y R a) => show Calls Tryz.prog 75 #[.pointer (some ⟨y, 0, none⟩), .int .i64 (d2 : Nat), .string (nameN o.to)] W (fun e w' => e = .returned (.int .i64 0) ∧ W = w') from by
  have := rfind_any d2 (nameN o.to) W h hdl2 (by omega) (Nat.le_trans (hg.len d2) (by omega))
  rw [hw] at this
  exact this)
 have tq : (((0 : Nat) : Int) == ((id : Nat) : Int)) = false := beq_eq_false_iff_ne.2 (by omega)
 have tq' : ((0 : Int) == ((id : Nat) : Int)) = false := beq_eq_false_iff_ne.2 (by omega)
 have HKK := Lib.hid hk
 have HIN := Lib.hid hi
 have t6 : ((2 : Int) != 2) = false := rfl
 have HLL := Lib.hid hl
 generalize hnn : a.last + 1 = n1 at *
 have hnb : n1 ≤ 1000001 := by omega
 have HNN := Lib.hid hnn
 clear hnn
 clear h hg he1 he2 hl1 hl2 hd hid hfew hdir hdl hz hlive hil hd2 hw hdir2 hdl2 hk hi hl
 go_enter Tryz.func38, Tryz.ntmps38
 go_upto_region 1 with (fail)
 obtain ⟨w1, hwe, HO1, HB1⟩ := asked w (oc o A n cap)
 rw [← hwe]
 clear hwe
 have ua0 := (HO1.out).b0.c8
 have ur0 := (HO1.out).b1.cf7
 have ul := (HO1.out).b1.lt
 go_wp2_with fail
 refine (HS1.out _).mono ?_
 rintro e w2 ⟨v1, rfl, hv1, hb2⟩
 obtain ⟨A1, c1, rfl, hx1⟩ := hv1
 clear ua0 ur0 ul
 have HV1 := Lib.hid (show Texts w1.heap.size w2 (.slice A1 (splitN o.path).1.length c1) (splitN o.path).1 from ⟨A1, c1, rfl, hx1⟩)
 have HO2 := Lib.hid (HO1.out.below hb2)
 have HB2 := Lib.hid (HB1.out.trans (hb2.mono HB1.out.size))
 clear hb2 hx1
 have za0 := (HO2.out).b0.c8
 have zr0 := (HO2.out).b1.cf7
 have zl := (HO2.out).b1.lt
 rw [HE1.out]
 go_wp2_with fail
 refine (HS2.out _).mono ?_
 rintro e w3 ⟨v2, rfl, hv2, hb3⟩
 obtain ⟨A2, c2, rfl, hx2⟩ := hv2
 clear za0 zr0 zl
 have HV2 := Lib.hid (show Texts w2.heap.size w3 (.slice A2 (splitN o.to).1.length c2) (splitN o.to).1 from ⟨A2, c2, rfl, hx2⟩)
 have HW1 := Lib.hid (HV1.out.below hb3)
 have HO3 := Lib.hid (HO2.out.below hb3)
 have HB3 := Lib.hid (HB2.out.trans (hb3.mono HB2.out.size))
 clear hb3 hx2
 have xa0 := (HO3.out).b0.c8
 have xr0 := (HO3.out).b1.cf7
 have xl := (HO3.out).b1.lt
 rw [HE2.out]
 go_wp2_with fail
 refine (HPA.out _ (HH.out _ HB3.out)).mono ?_
 rintro e w4 ⟨rfl, hb4⟩
 clear xa0 xr0 xl
 have HX1 := Lib.hid (HW1.out.below hb4)
 have HX2 := Lib.hid (HV2.out.below hb4)
 have HO4 := Lib.hid (HO3.out.below hb4)
 have HB4 := Lib.hid (HB3.out.trans (hb4.mono HB3.out.size))
 clear hb4
 have ra0 := (HO4.out).b0.c8
 have rr0 := (HO4.out).b1.cf7
 have rl := (HO4.out).b1.lt
 have HR4 := Lib.hid (HH.out _ HB4.out)
 go_wp2_with fail
 refine (HFI.out _ HR4.out).mono ?_
 rintro e w' ⟨rfl, h8⟩
 obtain rfl := h8
 obtain ⟨g0, g1⟩ := HR4.out.cells
 rw [HNN.out] at g0
 obtain ⟨k0, k1, k2, k3⟩ := HR4.out.cel id HIB.out
 rw [HKK.out] at k0
 go_wp2_with fail
 refine (rinside_any _ _ _ _ _ HX1.out HX2.out).mono ?_
 rintro e w' ⟨rfl, n0, h9⟩
 rw [HIN.out]
 subst h9
 clear ra0 rr0 rl g0 g1 k0 k1 k2 k3
 have HO5 := Lib.hid (show OO (w4.drewN n0) w.heap.size (oc o A n cap) from ⟨HO4.out.b0.drewN n0, HO4.out.b1.drewN n0⟩)
 have HB5 := Lib.hid (show Below w.heap.size w (w4.drewN n0) from HB4.out.trans ⟨rfl, rfl, rfl, Nat.le_refl _, fun _ _ => rfl⟩)
 generalize w4.drewN n0 = w5 at *
 have sa0 := (HO5.out).b0.c8
 have sr0 := (HO5.out).b1.cf7
 have sl := (HO5.out).b1.lt
 go_wp2_with fail
 refine (HPB.out _ (HH.out _ HB5.out)).mono ?_
 rintro e w6 ⟨rfl, hb6⟩
 clear sa0 sr0 sl
 have HO6 := Lib.hid (HO5.out.below hb6)
 have HB6 := Lib.hid (HB5.out.trans (hb6.mono HB5.out.size))
 clear hb6
 have ma0 := (HO6.out).b0.c8
 have mr0 := (HO6.out).b1.cf7
 have ml := (HO6.out).b1.lt
 have HR6 := Lib.hid (HH.out _ HB6.out)
 go_wp2_with fail
 refine (HFJ.out _ HR6.out).mono ?_
 rintro e w' ⟨rfl, h8⟩
 obtain rfl := h8
 obtain ⟨g0, g1⟩ := HR6.out.cells
 rw [HNN.out] at g0
 obtain ⟨k0, k1, k2, k3⟩ := HR6.out.cel id HIB.out
 rw [HKK.out] at k0
 rw [HLL.out] at k1
 go_wp2_with fail
 refine (failed_any _ _).mono ?_
 rintro e w5 ⟨rfl, hb5⟩
 have HOF := Lib.hid (HO6.out.below hb5)
 have HBF := Lib.hid (HB6.out.trans (hb5.mono HB6.out.size))
 clear hb5
 have vr0 := (HOF.out).b1.cf7
 have vl := (HOF.out).b1.lt
 go_wp2_with fail
 refine bodyPost_ret (v := .agg #[.int .i64 48, .int .i64 0, .slice none 0 0, .slice none 0 0, .int .i64 0, .int .i64 0, .int .i64 0]) (by simp [results, Tryz.results38, go_sem, vr0, vl]) rfl ?_
 exact rans_same HT.out (ans_set HBF.out (by omega) _ _ _ _ _ _ _)
theorem rren_48_d (o : OpT) (A : Option Addr) (n cap : Nat) (w : World) (h : RIs F w y R a) (hg : Good a c) (hc : c + 20 ≤ 100000) (hp : o.path.size ≤ 1000) (hp2 : o.to.size ≤ 1000) (he1 : (splitN o.path).2 = 0) (he2 : (splitN o.to).2 = 0) (hl1 : (splitN o.path).1.length ≠ 0) (hl2 : (splitN o.to).1.length ≠ 0) (d id : Nat) (hd : a.par o.path 51 = (d, 0)) (hid : a.find d (nameN o.path) = id) (hz : id ≠ 0) (hk : (a.nd id).kind = 2) (hi : insideB (splitN o.path).1 (splitN o.to).1 = false) (d2 was : Nat) (hd2 : a.par o.to 51 = (d2, 0)) (hw : a.find d2 (nameN o.to) = was) (hne : was ≠ id) (hwz : was ≠ 0) (hkw : (a.nd was).kind = 2) (hn : (a.nd was).names.length = 0) (hl : (a.nd id).links = 200) :
  Calls Tryz.prog 38 #[.pointer (some ⟨y, 0, none⟩), o.val A n cap] w (RAnsPost F y (a) w) := by
 unfold OpT.val
 have HT := Lib.hid h
 have HH := Lib.hid (fun W (hb : Below w.heap.size w W) => h.below hb)
 have HS1 := Lib.hid (fun W => rsplit_any o.path W (by omega))
 have HS2 := Lib.hid (fun W => rsplit_any o.to W (by omega))
 have HE1 := Lib.hid he1
 have HE2 := Lib.hid he2
 have l1 : ((((splitN o.path).1.length : Nat) : Int) == 0) = false := beq_eq_false_iff_ne.2 (by omega)
 have l2 : ((((splitN o.to).1.length : Nat) : Int) == 0) = false := beq_eq_false_iff_ne.2 (by omega)
 have HPA := Lib.hid (fun W (h : RIs F W y R a) => show Calls Tryz.prog 74 #[.pointer (some ⟨y, 0, none⟩), .string o.path, .int .i64 51] W (fun e w' => e = .returned (.tuple #[.int .i64 (d : Nat), .string (nameN o.path), .int .i64 0]) ∧ Below W.heap.size W w') from
  (rparent_any o.path 51 W h hg (by omega) hp (by decide)).mono fun e w' hx => by
   obtain ⟨⟨d0, s0, rfl, hq⟩, hb⟩ := hx
   rw [hd] at hq
   obtain ⟨rfl, rfl⟩ := hq rfl
   rw [hd]
   exact ⟨rfl, hb⟩)
 have hfew := hg.few
 have hdir := par_dir (show (51 : Int) ≠ 0 by decide) (show (a.par o.path 51).2 = 0 by rw [hd])
 rw [hd] at hdir
 have hdl := (hg.in_last (k := d) (by rw [hdir]; decide)).2
 have HFI := Lib.hid (fun W (h : RIs F W y R a) => show Calls Tryz.prog 75 #[.pointer (some ⟨y, 0, none⟩), .int .i64 (d : Nat), .string (nameN o.path)] W (fun e w' => e = .returned (.int .i64 (id : Nat)) ∧ W = w') from by
  have := rfind_any d (nameN o.path) W h hdl (by omega) (Nat.le_trans (hg.len d) (by omega))
  rw [hid] at this
  exact this)
 have hlive : (a.nd id).kind ≠ 0 := by rw [← hid]; exact hg.find_live (by rw [hid]; exact hz)
 have hil := (hg.in_last hlive).2
 have t1 : (((id : Nat) : Int) != 0) = true := bne_iff_ne.2 (by omega)
 have t2 : (((id : Nat) : Int) == 0) = false := beq_eq_false_iff_ne.2 (by omega)
 have HIB := Lib.hid hil
 have hin : ((id : Nat) : Int) < ((a.last + 1 : Nat) : Int) := by omega
 have HPB := Lib.hid (fun W (h : RIs F W y R a) => show Calls Tryz.prog 74 #[.pointer (some ⟨y, 0, none⟩), .string o.to, .int .i64 51] W (fun e w' => e = .returned (.tuple #[.int .i64 (d2 : Nat), .string (nameN o.to), .int .i64 0]) ∧ Below W.heap.size W w') from
  (rparent_any o.to 51 W h hg (by omega) hp2 (by decide)).mono fun e w' hx => by
   obtain ⟨⟨d0, s0, rfl, hq⟩, hb⟩ := hx
   rw [hd2] at hq
   obtain ⟨rfl, rfl⟩ := hq rfl
   rw [hd2]
   exact ⟨rfl, hb⟩)
 have hdir2 := par_dir (show (51 : Int) ≠ 0 by decide) (show (a.par o.to 51).2 = 0 by rw [hd2])
 rw [hd2] at hdir2
 have hdl2 := (hg.in_last (k := d2) (by rw [hdir2]; decide)).2
 have HFJ := Lib.hid (fun W (h : RIs F W y R a) => show Calls Tryz.prog 75 #[.pointer (some ⟨y, 0, none⟩), .int .i64 (d2 : Nat), .string (nameN o.to)] W (fun e w' => e = .returned (.int .i64 (was : Nat)) ∧ W = w') from by
  have := rfind_any d2 (nameN o.to) W h hdl2 (by omega) (Nat.le_trans (hg.len d2) (by omega))
  rw [hw] at this
  exact this)
 have tq : (((was : Nat) : Int) == ((id : Nat) : Int)) = false := beq_eq_false_iff_ne.2 (by omega)
 have hlw : (a.nd was).kind ≠ 0 := by rw [← hw]; exact hg.find_live (by rw [hw]; exact hwz)
 have hwl := (hg.in_last hlw).2
 have tw : (((was : Nat) : Int) != 0) = true := bne_iff_ne.2 (by omega)
 have HWB := Lib.hid hwl
 have hwn : ((was : Nat) : Int) < ((a.last + 1 : Nat) : Int) := by omega
 have HKK := Lib.hid hk
 have HIN := Lib.hid hi
 have t6 : ((2 : Int) != 2) = false := rfl
 have HWK := Lib.hid hkw
 obtain ⟨A3, e3, h3⟩ := (HT.out.nam was HWB.out).1.shape
 have H3 := Lib.hid h3
 clear h3
 rw [hn] at H3
 have HLL := Lib.hid hl
 generalize hnn : a.last + 1 = n1 at *
 have hnb : n1 ≤ 1000001 := by omega
 have HNN := Lib.hid hnn
 clear hnn
 clear h hg he1 he2 hl1 hl2 hd hid hfew hdir hdl hz hlive hil hd2 hw hdir2 hdl2 hne hwz hlw hwl hk hi hkw hn hl
 go_enter Tryz.func38, Tryz.ntmps38
 go_upto_region 1 with (fail)
 obtain ⟨w1, hwe, HO1, HB1⟩ := asked w (oc o A n cap)
 rw [← hwe]
 clear hwe
 have ua0 := (HO1.out).b0.c8
 have ur0 := (HO1.out).b1.cf7
 have ul := (HO1.out).b1.lt
 go_wp2_with fail
 refine (HS1.out _).mono ?_
 rintro e w2 ⟨v1, rfl, hv1, hb2⟩
 obtain ⟨A1, c1, rfl, hx1⟩ := hv1
 clear ua0 ur0 ul
 have HV1 := Lib.hid (show Texts w1.heap.size w2 (.slice A1 (splitN o.path).1.length c1) (splitN o.path).1 from ⟨A1, c1, rfl, hx1⟩)
 have HO2 := Lib.hid (HO1.out.below hb2)
 have HB2 := Lib.hid (HB1.out.trans (hb2.mono HB1.out.size))
 clear hb2 hx1
 have za0 := (HO2.out).b0.c8
 have zr0 := (HO2.out).b1.cf7
 have zl := (HO2.out).b1.lt
 rw [HE1.out]
 go_wp2_with fail
 refine (HS2.out _).mono ?_
 rintro e w3 ⟨v2, rfl, hv2, hb3⟩
 obtain ⟨A2, c2, rfl, hx2⟩ := hv2
 clear za0 zr0 zl
 have HV2 := Lib.hid (show Texts w2.heap.size w3 (.slice A2 (splitN o.to).1.length c2) (splitN o.to).1 from ⟨A2, c2, rfl, hx2⟩)
 have HW1 := Lib.hid (HV1.out.below hb3)
 have HO3 := Lib.hid (HO2.out.below hb3)
 have HB3 := Lib.hid (HB2.out.trans (hb3.mono HB2.out.size))
 clear hb3 hx2
 have xa0 := (HO3.out).b0.c8
 have xr0 := (HO3.out).b1.cf7
 have xl := (HO3.out).b1.lt
 rw [HE2.out]
 go_wp2_with fail
 refine (HPA.out _ (HH.out _ HB3.out)).mono ?_
 rintro e w4 ⟨rfl, hb4⟩
 clear xa0 xr0 xl
 have HX1 := Lib.hid (HW1.out.below hb4)
 have HX2 := Lib.hid (HV2.out.below hb4)
 have HO4 := Lib.hid (HO3.out.below hb4)
 have HB4 := Lib.hid (HB3.out.trans (hb4.mono HB3.out.size))
 clear hb4
 have ra0 := (HO4.out).b0.c8
 have rr0 := (HO4.out).b1.cf7
 have rl := (HO4.out).b1.lt
 have HR4 := Lib.hid (HH.out _ HB4.out)
 go_wp2_with fail
 refine (HFI.out _ HR4.out).mono ?_
 rintro e w' ⟨rfl, h8⟩
 obtain rfl := h8
 obtain ⟨g0, g1⟩ := HR4.out.cells
 rw [HNN.out] at g0
 obtain ⟨k0, k1, k2, k3⟩ := HR4.out.cel id HIB.out
 rw [HKK.out] at k0
 go_wp2_with fail
 refine (rinside_any _ _ _ _ _ HX1.out HX2.out).mono ?_
 rintro e w' ⟨rfl, n0, h9⟩
 rw [HIN.out]
 subst h9
 clear ra0 rr0 rl g0 g1 k0 k1 k2 k3
 have HO5 := Lib.hid (show OO (w4.drewN n0) w.heap.size (oc o A n cap) from ⟨HO4.out.b0.drewN n0, HO4.out.b1.drewN n0⟩)
 have HB5 := Lib.hid (show Below w.heap.size w (w4.drewN n0) from HB4.out.trans ⟨rfl, rfl, rfl, Nat.le_refl _, fun _ _ => rfl⟩)
 generalize w4.drewN n0 = w5 at *
 have sa0 := (HO5.out).b0.c8
 have sr0 := (HO5.out).b1.cf7
 have sl := (HO5.out).b1.lt
 go_wp2_with fail
 refine (HPB.out _ (HH.out _ HB5.out)).mono ?_
 rintro e w6 ⟨rfl, hb6⟩
 clear sa0 sr0 sl
 have HO6 := Lib.hid (HO5.out.below hb6)
 have HB6 := Lib.hid (HB5.out.trans (hb6.mono HB5.out.size))
 clear hb6
 have ma0 := (HO6.out).b0.c8
 have mr0 := (HO6.out).b1.cf7
 have ml := (HO6.out).b1.lt
 have HR6 := Lib.hid (HH.out _ HB6.out)
 go_wp2_with fail
 refine (HFJ.out _ HR6.out).mono ?_
 rintro e w' ⟨rfl, h8⟩
 obtain rfl := h8
 obtain ⟨g0, g1⟩ := HR6.out.cells
 rw [HNN.out] at g0
 obtain ⟨k0, k1, k2, k3⟩ := HR6.out.cel id HIB.out
 rw [HKK.out] at k0
 obtain ⟨j0, j1, j2, j3⟩ := HR6.out.cel was HWB.out
 rw [HWK.out] at j0
 rw [H3.out] at j3
 rw [HLL.out] at k1
 go_wp2_with fail
 refine (failed_any _ _).mono ?_
 rintro e w5 ⟨rfl, hb5⟩
 have HOF := Lib.hid (HO6.out.below hb5)
 have HBF := Lib.hid (HB6.out.trans (hb5.mono HB6.out.size))
 clear hb5
 have vr0 := (HOF.out).b1.cf7
 have vl := (HOF.out).b1.lt
 go_wp2_with fail
 refine bodyPost_ret (v := .agg #[.int .i64 48, .int .i64 0, .slice none 0 0, .slice none 0 0, .int .i64 0, .int .i64 0, .int .i64 0]) (by simp [results, Tryz.results38, go_sem, vr0, vl]) rfl ?_
 exact rans_same HT.out (ans_set HBF.out (by omega) _ _ _ _ _ _ _)
theorem rren_ok0d (o : OpT) (A : Option Addr) (n cap : Nat) (w : World) (h : RIs F w y R a) (hg : Good a c) (hc : c + 20 ≤ 100000) (hp : o.path.size ≤ 1000) (hp2 : o.to.size ≤ 1000) (he1 : (splitN o.path).2 = 0) (he2 : (splitN o.to).2 = 0) (hl1 : (splitN o.path).1.length ≠ 0) (hl2 : (splitN o.to).1.length ≠ 0) (d id : Nat) (hd : a.par o.path 51 = (d, 0)) (hid : a.find d (nameN o.path) = id) (hz : id ≠ 0) (hk : (a.nd id).kind = 2) (hi : insideB (splitN o.path).1 (splitN o.to).1 = false) (d2 : Nat) (hd2 : a.par o.to 51 = (d2, 0)) (hw : a.find d2 (nameN o.to) = 0) (hl : (a.nd id).links ≠ 200) :
  Calls Tryz.prog 38 #[.pointer (some ⟨y, 0, none⟩), o.val A n cap] w (RAnsPost F y ((a.put d (nameN o.path) 0).put d2 (nameN o.to) id) w) := by
 unfold OpT.val
 have HT := Lib.hid h
 have HH := Lib.hid (fun W (hb : Below w.heap.size w W) => h.below hb)
 have HS1 := Lib.hid (fun W => rsplit_any o.path W (by omega))
 have HS2 := Lib.hid (fun W => rsplit_any o.to W (by omega))
 have HE1 := Lib.hid he1
 have HE2 := Lib.hid he2
 have l1 : ((((splitN o.path).1.length : Nat) : Int) == 0) = false := beq_eq_false_iff_ne.2 (by omega)
 have l2 : ((((splitN o.to).1.length : Nat) : Int) == 0) = false := beq_eq_false_iff_ne.2 (by omega)
 have HPA := Lib.hid (fun W (h : RIs F W y R a) => show Calls Tryz.prog 74 #[.pointer (some ⟨y, 0, none⟩), .string o.path, .int .i64 51] W (fun e w' => e = .returned (.tuple #[.int .i64 (d : Nat), .string (nameN o.path), .int .i64 0]) ∧ Below W.heap.size W w') from
  (rparent_any o.path 51 W h hg (by omega) hp (by decide)).mono fun e w' hx => by
   obtain ⟨⟨d0, s0, rfl, hq⟩, hb⟩ := hx
   rw [hd] at hq
   obtain ⟨rfl, rfl⟩ := hq rfl
   rw [hd]
   exact ⟨rfl, hb⟩)
 have hfew := hg.few
 have hdir := par_dir (show (51 : Int) ≠ 0 by decide) (show (a.par o.path 51).2 = 0 by rw [hd])
 rw [hd] at hdir
 have hdl := (hg.in_last (k := d) (by rw [hdir]; decide)).2
 have HFI := Lib.hid (fun W (h : RIs F W y R a) => show Calls Tryz.prog 75 #[.pointer (some ⟨y, 0, none⟩), .int .i64 (d : Nat), .string (nameN o.path)] W (fun e w' => e = .returned (.int .i64 (id : Nat)) ∧ W = w') from by
  have := rfind_any d (nameN o.path) W h hdl (by omega) (Nat.le_trans (hg.len d) (by omega))
  rw [hid] at this
  exact this)
 have hlive : (a.nd id).kind ≠ 0 := by rw [← hid]; exact hg.find_live (by rw [hid]; exact hz)
 have hil := (hg.in_last hlive).2
 have t1 : (((id : Nat) : Int) != 0) = true := bne_iff_ne.2 (by omega)
 have t2 : (((id : Nat) : Int) == 0) = false := beq_eq_false_iff_ne.2 (by omega)
 have HIB := Lib.hid hil
 have hin : ((id : Nat) : Int) < ((a.last + 1 : Nat) : Int) := by omega
 have HPB := Lib.hid (fun W (h : RIs F W y R a) => show Calls Tryz.prog 74 #[.pointer (some ⟨y, 0, none⟩), .string o.to, .int .i64 51] W (fun e w' => e = .returned (.tuple #[.int .i64 (d2 : Nat), .string (nameN o.to), .int .i64 0]) ∧ Below W.heap.size W w') from
  (rparent_any o.to 51 W h hg (by omega) hp2 (by decide)).mono fun e w' hx => by
   obtain ⟨⟨d0, s0, rfl, hq⟩, hb⟩ := hx
   rw [hd2] at hq
   obtain ⟨rfl, rfl⟩ := hq rfl
   rw [hd2]
   exact ⟨rfl, hb⟩)
 have hdir2 := par_dir (show (51 : Int) ≠ 0 by decide) (show (a.par o.to 51).2 = 0 by rw [hd2])
 rw [hd2] at hdir2
 have hdl2 := (hg.in_last (k := d2) (by rw [hdir2]; decide)).2
 have HFJ := Lib.hid (fun W (h : RIs F W y R a) => show Calls Tryz.prog 75 #[.pointer (some ⟨y, 0, none⟩), .int .i64 (d2 : Nat), .string (nameN o.to)] W (fun e w' => e = .returned (.int .i64 0) ∧ W = w') from by
  have := rfind_any d2 (nameN o.to) W h hdl2 (by omega) (Nat.le_trans (hg.len d2) (by omega))
  rw [hw] at this
  exact this)
 have tq : (((0 : Nat) : Int) == ((id : Nat) : Int)) = false := beq_eq_false_iff_ne.2 (by omega)
 have tq' : ((0 : Int) == ((id : Nat) : Int)) = false := beq_eq_false_iff_ne.2 (by omega)
 have hg1 := hg.drop hdir (s := nameN o.path) (Nat.le_trans (nameN_size _) (by omega))
 have hg2 := hg1.drop (d := d2) (by rw [kind_put]; exact hdir2) (s := nameN o.to) (Nat.le_trans (nameN_size _) (by omega))
 have HP1 := Lib.hid (fun W (h : RIs F W y R a) => rput0_any d (nameN o.path) W h hg (by omega) hdl)
 have HP2 := Lib.hid (fun F' W R' (h : RIs F' W y R' (a.put d (nameN o.path) 0)) => rput0_any d2 (nameN o.to) W h hg1 (by omega) hdl2)
 have HP3 := Lib.hid (fun F' W R' (h : RIs F' W y R' ((a.put d (nameN o.path) 0).put d2 (nameN o.to) 0)) => rput_any d2 (nameN o.to) id W h hg2 (by omega) hdl2)
 have HPP := Lib.hid (put_put hg1 d2 (nameN o.to) id)
 have HFL : Hid (∀ j, F j → j < w.heap.size) := Lib.hid fun j e => HT.out.lt j e
 have HKK := Lib.hid hk
 have HIN := Lib.hid hi
 have t6 : ((2 : Int) != 2) = false := rfl
 have hlk2 : ((a.nd id).links == 200) = false := beq_eq_false_iff_ne.2 hl
 generalize hll : (a.nd id).links = ll at *
 have HLL := Lib.hid hll
 clear hll
 generalize hnn : a.last + 1 = n1 at *
 have hnb : n1 ≤ 1000001 := by omega
 have HNN := Lib.hid hnn
 clear hnn
 clear h hg he1 he2 hl1 hl2 hd hid hfew hdir hdl hz hlive hil hd2 hw hdir2 hdl2 hk hi hl hg1 hg2
 go_enter Tryz.func38, Tryz.ntmps38
 go_upto_region 1 with (fail)
 obtain ⟨w1, hwe, HO1, HB1⟩ := asked w (oc o A n cap)
 rw [← hwe]
 clear hwe
 have ua0 := (HO1.out).b0.c8
 have ur0 := (HO1.out).b1.cf7
 have ul := (HO1.out).b1.lt
 go_wp2_with fail
 refine (HS1.out _).mono ?_
 rintro e w2 ⟨v1, rfl, hv1, hb2⟩
 obtain ⟨A1, c1, rfl, hx1⟩ := hv1
 clear ua0 ur0 ul
 have HV1 := Lib.hid (show Texts w1.heap.size w2 (.slice A1 (splitN o.path).1.length c1) (splitN o.path).1 from ⟨A1, c1, rfl, hx1⟩)
 have HO2 := Lib.hid (HO1.out.below hb2)
 have HB2 := Lib.hid (HB1.out.trans (hb2.mono HB1.out.size))
 clear hb2 hx1
 have za0 := (HO2.out).b0.c8
 have zr0 := (HO2.out).b1.cf7
 have zl := (HO2.out).b1.lt
 rw [HE1.out]
 go_wp2_with fail
 refine (HS2.out _).mono ?_
 rintro e w3 ⟨v2, rfl, hv2, hb3⟩
 obtain ⟨A2, c2, rfl, hx2⟩ := hv2
 clear za0 zr0 zl
 have HV2 := Lib.hid (show Texts w2.heap.size w3 (.slice A2 (splitN o.to).1.length c2) (splitN o.to).1 from ⟨A2, c2, rfl, hx2⟩)
 have HW1 := Lib.hid (HV1.out.below hb3)
 have HO3 := Lib.hid (HO2.out.below hb3)
 have HB3 := Lib.hid (HB2.out.trans (hb3.mono HB2.out.size))
 clear hb3 hx2
 have xa0 := (HO3.out).b0.c8
 have xr0 := (HO3.out).b1.cf7
 have xl := (HO3.out).b1.lt
 rw [HE2.out]
 go_wp2_with fail
 refine (HPA.out _ (HH.out _ HB3.out)).mono ?_
 rintro e w4 ⟨rfl, hb4⟩
 clear xa0 xr0 xl
 have HX1 := Lib.hid (HW1.out.below hb4)
 have HX2 := Lib.hid (HV2.out.below hb4)
 have HO4 := Lib.hid (HO3.out.below hb4)
 have HB4 := Lib.hid (HB3.out.trans (hb4.mono HB3.out.size))
 clear hb4
 have ra0 := (HO4.out).b0.c8
 have rr0 := (HO4.out).b1.cf7
 have rl := (HO4.out).b1.lt
 have HR4 := Lib.hid (HH.out _ HB4.out)
 go_wp2_with fail
 refine (HFI.out _ HR4.out).mono ?_
 rintro e w' ⟨rfl, h8⟩
 obtain rfl := h8
 obtain ⟨g0, g1⟩ := HR4.out.cells
 rw [HNN.out] at g0
 obtain ⟨k0, k1, k2, k3⟩ := HR4.out.cel id HIB.out
 rw [HKK.out] at k0
 go_wp2_with fail
 refine (rinside_any _ _ _ _ _ HX1.out HX2.out).mono ?_
 rintro e w' ⟨rfl, n0, h9⟩
 rw [HIN.out]
 subst h9
 clear ra0 rr0 rl g0 g1 k0 k1 k2 k3
 have HO5 := Lib.hid (show OO (w4.drewN n0) w.heap.size (oc o A n cap) from ⟨HO4.out.b0.drewN n0, HO4.out.b1.drewN n0⟩)
 have HB5 := Lib.hid (show Below w.heap.size w (w4.drewN n0) from HB4.out.trans ⟨rfl, rfl, rfl, Nat.le_refl _, fun _ _ => rfl⟩)
 generalize w4.drewN n0 = w5 at *
 have sa0 := (HO5.out).b0.c8
 have sr0 := (HO5.out).b1.cf7
 have sl := (HO5.out).b1.lt
 go_wp2_with fail
 refine (HPB.out _ (HH.out _ HB5.out)).mono ?_
 rintro e w6 ⟨rfl, hb6⟩
 clear sa0 sr0 sl
 have HO6 := Lib.hid (HO5.out.below hb6)
 have HB6 := Lib.hid (HB5.out.trans (hb6.mono HB5.out.size))
 clear hb6
 have ma0 := (HO6.out).b0.c8
 have mr0 := (HO6.out).b1.cf7
 have ml := (HO6.out).b1.lt
 have HR6 := Lib.hid (HH.out _ HB6.out)
 go_wp2_with fail
 refine (HFJ.out _ HR6.out).mono ?_
 rintro e w' ⟨rfl, h8⟩
 obtain rfl := h8
 obtain ⟨g0, g1⟩ := HR6.out.cells
 rw [HNN.out] at g0
 obtain ⟨k0, k1, k2, k3⟩ := HR6.out.cel id HIB.out
 rw [HKK.out] at k0
 rw [HLL.out] at k1
 go_wp2_with fail
 refine (HP1.out _ HR6.out).mono ?_
 rintro e w7 ⟨rfl, hs7, hTu7⟩
 clear ma0 mr0 ml g0 g1 k0 k1 k2 k3
 have HTu7 := Lib.hid hTu7
 obtain ⟨R7, h7⟩ := hs7
 have H7 := Lib.hid h7
 clear h7 hTu7
 go_wp2_with fail
 refine (HP2.out _ _ _ H7.out).mono ?_
 rintro e w8 ⟨rfl, hs8, hTu8⟩
 have HTu8 := Lib.hid (HTu7.out.grow2' hTu8)
 have hs8' := hs8.grow2 HTu7.out.size hTu8.size
 obtain ⟨R8, h8⟩ := hs8'
 have H8 := Lib.hid h8
 clear h8 hTu8 hs8
 go_wp2_with fail
 refine (HP3.out _ _ _ H8.out).mono ?_
 rintro e w10 ⟨rfl, hs10, hTu10⟩
 rw [HPP.out] at hs10
 have HTu10 := Lib.hid (HTu8.out.grow2' hTu10)
 have hs10' := hs10.grow2 HTu8.out.size hTu10.size
 have HS10 := Lib.hid hs10'
 clear hTu10 hs10 hs10'
 have HS9 := HS10
 have HTu9 := HTu10
 have HO9 := Lib.hid (HO6.out.turn2 HTu9.out (fun e => by have := HFL.out _ e; omega) (fun e => by have := HFL.out _ e; omega))
 have vr0 := (HO9.out).b1.cf7
 have vl := (HO9.out).b1.lt
 go_wp2_with fail
 refine bodyPost_ret (v := .agg #[.int .i64 0, .int .i64 0, .slice none 0 0, .slice none 0 0, .int .i64 0, .int .i64 0, .int .i64 0]) (by simp [results, Tryz.results38, go_sem, vr0, vl]) rfl ?_
 exact rans_fin (F' := F) (wX := w6) HT.out HS9.out ((Turn.of_below (S := F) HB6.out).trans (S' := F) HTu9.out fun _ _ e => e) HB6.out.size (fun j e => .inl e) (by omega) HO6.out.b1.lt (fun e => by have := HFL.out _ e; omega)
theorem rren_ok1d (o : OpT) (A : Option Addr) (n cap : Nat) (w : World) (h : RIs F w y R a) (hg : Good a c) (hc : c + 20 ≤ 100000) (hp : o.path.size ≤ 1000) (hp2 : o.to.size ≤ 1000) (he1 : (splitN o.path).2 = 0) (he2 : (splitN o.to).2 = 0) (hl1 : (splitN o.path).1.length ≠ 0) (hl2 : (splitN o.to).1.length ≠ 0) (d id : Nat) (hd : a.par o.path 51 = (d, 0)) (hid : a.find d (nameN o.path) = id) (hz : id ≠ 0) (hk : (a.nd id).kind = 2) (hi : insideB (splitN o.path).1 (splitN o.to).1 = false) (d2 was : Nat) (hd2 : a.par o.to 51 = (d2, 0)) (hw : a.find d2 (nameN o.to) = was) (hne : was ≠ id) (hwz : was ≠ 0) (hkw : (a.nd was).kind = 2) (hn : (a.nd was).names.length = 0) (hl : (a.nd id).links ≠ 200) :
  Calls Tryz.prog 38 #[.pointer (some ⟨y, 0, none⟩), o.val A n cap] w (RAnsPost F y (((a.put d (nameN o.path) 0).put d2 (nameN o.to) id).less was) w) := by
 unfold OpT.val
 have HT := Lib.hid h
 have HH := Lib.hid (fun W (hb : Below w.heap.size w W) => h.below hb)
 have HS1 := Lib.hid (fun W => rsplit_any o.path W (by omega))
 have HS2 := Lib.hid (fun W => rsplit_any o.to W (by omega))
 have HE1 := Lib.hid he1
 have HE2 := Lib.hid he2
 have l1 : ((((splitN o.path).1.length : Nat) : Int) == 0) = false := beq_eq_false_iff_ne.2 (by omega)
 have l2 : ((((splitN o.to).1.length : Nat) : Int) == 0) = false := beq_eq_false_iff_ne.2 (by omega)
 have HPA := Lib.hid (fun W (h : RIs F W y R a) => show Calls Tryz.prog 74 #[.pointer (some ⟨y, 0, none⟩), .string o.path, .int .i64 51] W (fun e w' => e = .returned (.tuple #[.int .i64 (d : Nat), .string (nameN o.path), .int .i64 0]) ∧ Below W.heap.size W w') from
  (rparent_any o.path 51 W h hg (by omega) hp (by decide)).mono fun e w' hx => by
   obtain ⟨⟨d0, s0, rfl, hq⟩, hb⟩ := hx
   rw [hd] at hq
   obtain ⟨rfl, rfl⟩ := hq rfl
   rw [hd]
   exact ⟨rfl, hb⟩)
 have hfew := hg.few
 have hdir := par_dir (show (51 : Int) ≠ 0 by decide) (show (a.par o.path 51).2 = 0 by rw [hd])
 rw [hd] at hdir
 have hdl := (hg.in_last (k := d) (by rw [hdir]; decide)).2
 have HFI := Lib.hid (fun W (h : RIs F W y R a) => show Calls Tryz.prog 75 #[.pointer (some ⟨y, 0, none⟩), .int .i64 (d : Nat), .string (nameN o.path)] W (fun e w' => e = .returned (.int .i64 (id : Nat)) ∧ W = w') from by
  have := rfind_any d (nameN o.path) W h hdl (by omega) (Nat.le_trans (hg.len d) (by omega))
  rw [hid] at this
  exact this)
 have hlive : (a.nd id).kind ≠ 0 := by rw [← hid]; exact hg.find_live (by rw [hid]; exact hz)
 have hil := (hg.in_last hlive).2
 have t1 : (((id : Nat) : Int) != 0) = true := bne_iff_ne.2 (by omega)
 have t2 : (((id : Nat) : Int) == 0) = false := beq_eq_false_iff_ne.2 (by omega)
 have HIB := Lib.hid hil
 have hin : ((id : Nat) : Int) < ((a.last + 1 : Nat) : Int) := by omega
 have HPB := Lib.hid (fun W (h : RIs F W y R a) => show Calls Tryz.prog 74 #[.pointer (some ⟨y, 0, none⟩), .string o.to, .int .i64 51] W (fun e w' => e = .returned (.tuple #[.int .i64 (d2 : Nat), .string (nameN o.to), .int .i64 0]) ∧ Below W.heap.size W w') from
  (rparent_any o.to 51 W h hg (by omega) hp2 (by decide)).mono fun e w' hx => by
   obtain ⟨⟨d0, s0, rfl, hq⟩, hb⟩ := hx
   rw [hd2] at hq
   obtain ⟨rfl, rfl⟩ := hq rfl
   rw [hd2]
   exact ⟨rfl, hb⟩)
 have hdir2 := par_dir (show (51 : Int) ≠ 0 by decide) (show (a.par o.to 51).2 = 0 by rw [hd2])
 rw [hd2] at hdir2
 have hdl2 := (hg.in_last (k := d2) (by rw [hdir2]; decide)).2
 have HFJ := Lib.hid (fun W (h : RIs F W y R a) => show Calls Tryz.prog 75 #[.pointer (some ⟨y, 0, none⟩), .int .i64 (d2 : Nat), .string (nameN o.to)] W (fun e w' => e = .returned (.int .i64 (was : Nat)) ∧ W = w') from by
  have := rfind_any d2 (nameN o.to) W h hdl2 (by omega) (Nat.le_trans (hg.len d2) (by omega))
  rw [hw] at this
  exact this)
 have tq : (((was : Nat) : Int) == ((id : Nat) : Int)) = false := beq_eq_false_iff_ne.2 (by omega)
 have hlw : (a.nd was).kind ≠ 0 := by rw [← hw]; exact hg.find_live (by rw [hw]; exact hwz)
 have hwl := (hg.in_last hlw).2
 have tw : (((was : Nat) : Int) != 0) = true := bne_iff_ne.2 (by omega)
 have HWB := Lib.hid hwl
 have hwn : ((was : Nat) : Int) < ((a.last + 1 : Nat) : Int) := by omega
 have hg1 := hg.drop hdir (s := nameN o.path) (Nat.le_trans (nameN_size _) (by omega))
 have hg2 := hg1.drop (d := d2) (by rw [kind_put]; exact hdir2) (s := nameN o.to) (Nat.le_trans (nameN_size _) (by omega))
 have HP1 := Lib.hid (fun W (h : RIs F W y R a) => rput0_any d (nameN o.path) W h hg (by omega) hdl)
 have HP2 := Lib.hid (fun F' W R' (h : RIs F' W y R' (a.put d (nameN o.path) 0)) => rput0_any d2 (nameN o.to) W h hg1 (by omega) hdl2)
 have HP3 := Lib.hid (fun F' W R' (h : RIs F' W y R' ((a.put d (nameN o.path) 0).put d2 (nameN o.to) 0)) => rput_any d2 (nameN o.to) id W h hg2 (by omega) hdl2)
 have HPP := Lib.hid (put_put hg1 d2 (nameN o.to) id)
 have HLE := Lib.hid (fun F' W R' (h : RIs F' W y R' ((a.put d (nameN o.path) 0).put d2 (nameN o.to) id)) => rless_any was W h hwl (show a.last ≤ 1000000 by omega) (by rw [links_put, links_put]; exact hg.links was))
 have HFL : Hid (∀ j, F j → j < w.heap.size) := Lib.hid fun j e => HT.out.lt j e
 have HKK := Lib.hid hk
 have HIN := Lib.hid hi
 have t6 : ((2 : Int) != 2) = false := rfl
 have HWK := Lib.hid hkw
 obtain ⟨A3, e3, h3⟩ := (HT.out.nam was HWB.out).1.shape
 have H3 := Lib.hid h3
 clear h3
 rw [hn] at H3
 have hlk2 : ((a.nd id).links == 200) = false := beq_eq_false_iff_ne.2 hl
 generalize hll : (a.nd id).links = ll at *
 have HLL := Lib.hid hll
 clear hll
 generalize hnn : a.last + 1 = n1 at *
 have hnb : n1 ≤ 1000001 := by omega
 have HNN := Lib.hid hnn
 clear hnn
 clear h hg he1 he2 hl1 hl2 hd hid hfew hdir hdl hz hlive hil hd2 hw hdir2 hdl2 hne hwz hlw hwl hk hi hkw hn hl hg1 hg2
 go_enter Tryz.func38, Tryz.ntmps38
 go_upto_region 1 with (fail)
 obtain ⟨w1, hwe, HO1, HB1⟩ := asked w (oc o A n cap)
 rw [← hwe]
 clear hwe
 have ua0 := (HO1.out).b0.c8
 have ur0 := (HO1.out).b1.cf7
 have ul := (HO1.out).b1.lt
 go_wp2_with fail
 refine (HS1.out _).mono ?_
 rintro e w2 ⟨v1, rfl, hv1, hb2⟩
 obtain ⟨A1, c1, rfl, hx1⟩ := hv1
 clear ua0 ur0 ul
 have HV1 := Lib.hid (show Texts w1.heap.size w2 (.slice A1 (splitN o.path).1.length c1) (splitN o.path).1 from ⟨A1, c1, rfl, hx1⟩)
 have HO2 := Lib.hid (HO1.out.below hb2)
 have HB2 := Lib.hid (HB1.out.trans (hb2.mono HB1.out.size))
 clear hb2 hx1
 have za0 := (HO2.out).b0.c8
 have zr0 := (HO2.out).b1.cf7
 have zl := (HO2.out).b1.lt
 rw [HE1.out]
 go_wp2_with fail
 refine (HS2.out _).mono ?_
 rintro e w3 ⟨v2, rfl, hv2, hb3⟩
 obtain ⟨A2, c2, rfl, hx2⟩ := hv2
 clear za0 zr0 zl
 have HV2 := Lib.hid (show Texts w2.heap.size w3 (.slice A2 (splitN o.to).1.length c2) (splitN o.to).1 from ⟨A2, c2, rfl, hx2⟩)
 have HW1 := Lib.hid (HV1.out.below hb3)
 have HO3 := Lib.hid (HO2.out.below hb3)
 have HB3 := Lib.hid (HB2.out.trans (hb3.mono HB2.out.size))
 clear hb3 hx2
 have xa0 := (HO3.out).b0.c8
 have xr0 := (HO3.out).b1.cf7
 have xl := (HO3.out).b1.lt
 rw [HE2.out]
 go_wp2_with fail
 refine (HPA.out _ (HH.out _ HB3.out)).mono ?_
 rintro e w4 ⟨rfl, hb4⟩
 clear xa0 xr0 xl
 have HX1 := Lib.hid (HW1.out.below hb4)
 have HX2 := Lib.hid (HV2.out.below hb4)
 have HO4 := Lib.hid (HO3.out.below hb4)
 have HB4 := Lib.hid (HB3.out.trans (hb4.mono HB3.out.size))
 clear hb4
 have ra0 := (HO4.out).b0.c8
 have rr0 := (HO4.out).b1.cf7
 have rl := (HO4.out).b1.lt
 have HR4 := Lib.hid (HH.out _ HB4.out)
 go_wp2_with fail
 refine (HFI.out _ HR4.out).mono ?_
 rintro e w' ⟨rfl, h8⟩
 obtain rfl := h8
 obtain ⟨g0, g1⟩ := HR4.out.cells
 rw [HNN.out] at g0
 obtain ⟨k0, k1, k2, k3⟩ := HR4.out.cel id HIB.out
 rw [HKK.out] at k0
 go_wp2_with fail
 refine (rinside_any _ _ _ _ _ HX1.out HX2.out).mono ?_
 rintro e w' ⟨rfl, n0, h9⟩
 rw [HIN.out]
 subst h9
 clear ra0 rr0 rl g0 g1 k0 k1 k2 k3
 have HO5 := Lib.hid (show OO (w4.drewN n0) w.heap.size (oc o A n cap) from ⟨HO4.out.b0.drewN n0, HO4.out.b1.drewN n0⟩)
 have HB5 := Lib.hid (show Below w.heap.size w (w4.drewN n0) from HB4.out.trans ⟨rfl, rfl, rfl, Nat.le_refl _, fun _ _ => rfl⟩)
 generalize w4.drewN n0 = w5 at *
 have sa0 := (HO5.out).b0.c8
 have sr0 := (HO5.out).b1.cf7
 have sl := (HO5.out).b1.lt
 go_wp2_with fail
 refine (HPB.out _ (HH.out _ HB5.out)).mono ?_
 rintro e w6 ⟨rfl, hb6⟩
 clear sa0 sr0 sl
 have HO6 := Lib.hid (HO5.out.below hb6)
 have HB6 := Lib.hid (HB5.out.trans (hb6.mono HB5.out.size))
 clear hb6
 have ma0 := (HO6.out).b0.c8
 have mr0 := (HO6.out).b1.cf7
 have ml := (HO6.out).b1.lt
 have HR6 := Lib.hid (HH.out _ HB6.out)
 go_wp2_with fail
 refine (HFJ.out _ HR6.out).mono ?_
 rintro e w' ⟨rfl, h8⟩
 obtain rfl := h8
 obtain ⟨g0, g1⟩ := HR6.out.cells
 rw [HNN.out] at g0
 obtain ⟨k0, k1, k2, k3⟩ := HR6.out.cel id HIB.out
 rw [HKK.out] at k0
 obtain ⟨j0, j1, j2, j3⟩ := HR6.out.cel was HWB.out
 rw [HWK.out] at j0
 rw [H3.out] at j3
 rw [HLL.out] at k1
 go_wp2_with fail
 refine (HP1.out _ HR6.out).mono ?_
 rintro e w7 ⟨rfl, hs7, hTu7⟩
 clear ma0 mr0 ml g0 g1 k0 k1 k2 k3 j0 j1 j2 j3
 have HTu7 := Lib.hid hTu7
 obtain ⟨R7, h7⟩ := hs7
 have H7 := Lib.hid h7
 clear h7 hTu7
 go_wp2_with fail
 refine (HP2.out _ _ _ H7.out).mono ?_
 rintro e w8 ⟨rfl, hs8, hTu8⟩
 have HTu8 := Lib.hid (HTu7.out.grow2' hTu8)
 have hs8' := hs8.grow2 HTu7.out.size hTu8.size
 obtain ⟨R8, h8⟩ := hs8'
 have H8 := Lib.hid h8
 clear h8 hTu8 hs8
 go_wp2_with fail
 refine (HP3.out _ _ _ H8.out).mono ?_
 rintro e w10 ⟨rfl, hs10, hTu10⟩
 rw [HPP.out] at hs10
 have HTu10 := Lib.hid (HTu8.out.grow2' hTu10)
 have hs10' := hs10.grow2 HTu8.out.size hTu10.size
 have HS10 := Lib.hid hs10'
 clear hTu10 hs10 hs10'
 obtain ⟨R10, h10⟩ := HS10.out
 have H10 := Lib.hid h10
 clear h10
 go_wp2_with fail
 refine (HLE.out _ _ _ H10.out).mono ?_
 rintro e w9 ⟨rfl, hs9, hTu9⟩
 have HTu9 := Lib.hid (HTu10.out.grow2' hTu9)
 have HS9 := Lib.hid (hs9.grow2 HTu10.out.size hTu9.size)
 clear hs9 hTu9
 have HO9 := Lib.hid (HO6.out.turn2 HTu9.out (fun e => by have := HFL.out _ e; omega) (fun e => by have := HFL.out _ e; omega))
 have vr0 := (HO9.out).b1.cf7
 have vl := (HO9.out).b1.lt
 go_wp2_with fail
 refine bodyPost_ret (v := .agg #[.int .i64 0, .int .i64 0, .slice none 0 0, .slice none 0 0, .int .i64 0, .int .i64 0, .int .i64 0]) (by simp [results, Tryz.results38, go_sem, vr0, vl]) rfl ?_
 exact rans_fin (F' := F) (wX := w6) HT.out HS9.out ((Turn.of_below (S := F) HB6.out).trans (S' := F) HTu9.out fun _ _ e => e) HB6.out.size (fun j e => .inl e) (by omega) HO6.out.b1.lt (fun e => by have := HFL.out _ e; omega)
theorem rren_48_0f (o : OpT) (A : Option Addr) (n cap : Nat) (w : World) (h : RIs F w y R a) (hg : Good a c) (hc : c + 20 ≤ 100000) (hp : o.path.size ≤ 1000) (hp2 : o.to.size ≤ 1000) (he1 : (splitN o.path).2 = 0) (he2 : (splitN o.to).2 = 0) (hl1 : (splitN o.path).1.length ≠ 0) (hl2 : (splitN o.to).1.length ≠ 0) (d id : Nat) (hd : a.par o.path 51 = (d, 0)) (hid : a.find d (nameN o.path) = id) (hz : id ≠ 0) (hk : (a.nd id).kind ≠ 2) (d2 : Nat) (hd2 : a.par o.to 51 = (d2, 0)) (hw : a.find d2 (nameN o.to) = 0) (hl : (a.nd id).links = 200) :
  Calls Tryz.prog 38 #[.pointer (some ⟨y, 0, none⟩), o.val A n cap] w (RAnsPost F y (a) w) := by
 unfold OpT.val
 have HT := Lib.hid h
 have HH := Lib.hid (fun W (hb : Below w.heap.size w W) => h.below hb)
 have HS1 := Lib.hid (fun W => rsplit_any o.path W (by omega))
 have HS2 := Lib.hid (fun W => rsplit_any o.to W (by omega))
 have HE1 := Lib.hid he1
 have HE2 := Lib.hid he2
 have l1 : ((((splitN o.path).1.length : Nat) : Int) == 0) = false := beq_eq_false_iff_ne.2 (by omega)
 have l2 : ((((splitN o.to).1.length : Nat) : Int) == 0) = false := beq_eq_false_iff_ne.2 (by omega)
 have HPA := Lib.hid (fun W (h : RIs F W y R a) => show Calls Tryz.prog 74 #[.pointer (some ⟨y, 0, none⟩), .string o.path, .int .i64 51] W (fun e w' => e = .returned (.tuple #[.int .i64 (d : Nat), .string (nameN o.path), .int .i64 0]) ∧ Below W.heap.size W w') from
  (rparent_any o.path 51 W h hg (by omega) hp (by decide)).mono fun e w' hx => by
   obtain ⟨⟨d0, s0, rfl, hq⟩, hb⟩ := hx
   rw [hd] at hq
   obtain ⟨rfl, rfl⟩ := hq rfl
   rw [hd]
   exact ⟨rfl, hb⟩)
 have hfew := hg.few
 have hdir := par_dir (show (51 : Int) ≠ 0 by decide) (show (a.par o.path 51).2 = 0 by rw [hd])
 rw [hd] at hdir
 have hdl := (hg.in_last (k := d) (by rw [hdir]; decide)).2
 have HFI := Lib.hid (fun W (h : RIs F W y R a) => show Calls Tryz.prog 75 #[.pointer (some ⟨y, 0, none⟩), .int .i64 (d : Nat), .string (nameN o.path)] W (fun e w' => e = .returned (.int .i64 (id : Nat)) ∧ W = w') from by
  have := rfind_any d (nameN o.path) W h hdl (by omega) (Nat.le_trans (hg.len d) (by omega))
  rw [hid] at this
  exact this)
 have hlive : (a.nd id).kind ≠ 0 := by rw [← hid]; exact hg.find_live (by rw [hid]; exact hz)
 have hil := (hg.in_last hlive).2
 have t1 : (((id : Nat) : Int) != 0) = true := bne_iff_ne.2 (by omega)
 have t2 : (((id : Nat) : Int) == 0) = false := beq_eq_false_iff_ne.2 (by omega)
 have HIB := Lib.hid hil
 have hin : ((id : Nat) : Int) < ((a.last + 1 : Nat) : Int) := by omega
 have HPB := Lib.hid (fun W (h : RIs F W y R a) => show Calls Tryz.prog 74 #[.pointer (some ⟨y, 0, none⟩), .string o.to, .int .i64 51] W (fun e w' => e = .returned (.tuple #[.int .i64 (d2 : Nat), .string (nameN o.to), .int .i64 0]) ∧ Below W.heap.size W w') from
  (rparent_any o.to 51 W h hg (by omega) hp2 (by decide)).mono fun e w' hx => by
   obtain ⟨⟨d0, s0, rfl, hq⟩, hb⟩ := hx
   rw [hd2] at hq
   obtain ⟨rfl, rfl⟩ := hq rfl
   rw [hd2]
   exact ⟨rfl, hb⟩)
 have hdir2 := par_dir (show (51 : Int) ≠ 0 by decide) (show (a.par o.to 51).2 = 0 by rw [hd2])
 rw [hd2] at hdir2
 have hdl2 := (hg.in_last (k := d2) (by rw [hdir2]; decide)).2
 have HFJ := Lib.hid (fun W (h : RIs F W y R a) => show Calls Tryz.prog 75 #[.pointer (some ⟨y, 0, none⟩), .int .i64 (d2 : Nat), .string (nameN o.to)] W (fun e w' => e = .returned (.int .i64 0) ∧ W = w') from by
  have := rfind_any d2 (nameN o.to) W h hdl2 (by omega) (Nat.le_trans (hg.len d2) (by omega))
  rw [hw] at this
  exact this)
 have tq : (((0 : Nat) : Int) == ((id : Nat) : Int)) = false := beq_eq_false_iff_ne.2 (by omega)
 have tq' : ((0 : Int) == ((id : Nat) : Int)) = false := beq_eq_false_iff_ne.2 (by omega)
 have t5 : ((a.nd id).kind == 2) = false := beq_eq_false_iff_ne.2 hk
 have t6 : ((a.nd id).kind != 2) = true := bne_iff_ne.2 hk
 generalize hkk : (a.nd id).kind = kd at *
 have HKK := Lib.hid hkk
 clear hkk
 have HLL := Lib.hid hl
 generalize hnn : a.last + 1 = n1 at *
 have hnb : n1 ≤ 1000001 := by omega
 have HNN := Lib.hid hnn
 clear hnn
 clear h hg he1 he2 hl1 hl2 hd hid hfew hdir hdl hz hlive hil hd2 hw hdir2 hdl2 hk hl
 go_enter Tryz.func38, Tryz.ntmps38
 go_upto_region 1 with (fail)
 obtain ⟨w1, hwe, HO1, HB1⟩ := asked w (oc o A n cap)
 rw [← hwe]
 clear hwe
 have ua0 := (HO1.out).b0.c8
 have ur0 := (HO1.out).b1.cf7
 have ul := (HO1.out).b1.lt
 go_wp2_with fail
 refine (HS1.out _).mono ?_
 rintro e w2 ⟨v1, rfl, hv1, hb2⟩
 obtain ⟨A1, c1, rfl, hx1⟩ := hv1
 clear ua0 ur0 ul
 have HV1 := Lib.hid (show Texts w1.heap.size w2 (.slice A1 (splitN o.path).1.length c1) (splitN o.path).1 from ⟨A1, c1, rfl, hx1⟩)
 have HO2 := Lib.hid (HO1.out.below hb2)
 have HB2 := Lib.hid (HB1.out.trans (hb2.mono HB1.out.size))
 clear hb2 hx1
 have za0 := (HO2.out).b0.c8
 have zr0 := (HO2.out).b1.cf7
 have zl := (HO2.out).b1.lt
 rw [HE1.out]
 go_wp2_with fail
 refine (HS2.out _).mono ?_
 rintro e w3 ⟨v2, rfl, hv2, hb3⟩
 obtain ⟨A2, c2, rfl, hx2⟩ := hv2
 clear za0 zr0 zl
 have HV2 := Lib.hid (show Texts w2.heap.size w3 (.slice A2 (splitN o.to).1.length c2) (splitN o.to).1 from ⟨A2, c2, rfl, hx2⟩)
 have HW1 := Lib.hid (HV1.out.below hb3)
 have HO3 := Lib.hid (HO2.out.below hb3)
 have HB3 := Lib.hid (HB2.out.trans (hb3.mono HB2.out.size))
 clear hb3 hx2
 have xa0 := (HO3.out).b0.c8
 have xr0 := (HO3.out).b1.cf7
 have xl := (HO3.out).b1.lt
 rw [HE2.out]
 go_wp2_with fail
 refine (HPA.out _ (HH.out _ HB3.out)).mono ?_
 rintro e w4 ⟨rfl, hb4⟩
 clear xa0 xr0 xl
 have HX1 := Lib.hid (HW1.out.below hb4)
 have HX2 := Lib.hid (HV2.out.below hb4)
 have HO4 := Lib.hid (HO3.out.below hb4)
 have HB4 := Lib.hid (HB3.out.trans (hb4.mono HB3.out.size))
 clear hb4
 have ra0 := (HO4.out).b0.c8
 have rr0 := (HO4.out).b1.cf7
 have rl := (HO4.out).b1.lt
 have HR4 := Lib.hid (HH.out _ HB4.out)
 go_wp2_with fail
 refine (HFI.out _ HR4.out).mono ?_
 rintro e w' ⟨rfl, h8⟩
 obtain rfl := h8
 obtain ⟨g0, g1⟩ := HR4.out.cells
 rw [HNN.out] at g0
 obtain ⟨k0, k1, k2, k3⟩ := HR4.out.cel id HIB.out
 rw [HKK.out] at k0
 go_wp2_with fail
 refine (HPB.out _ (HH.out _ HB4.out)).mono ?_
 rintro e w6 ⟨rfl, hb6⟩
 clear ra0 rr0 rl g0 g1 k0 k1 k2 k3
 have HO6 := Lib.hid (HO4.out.below hb6)
 have HB6 := Lib.hid (HB4.out.trans (hb6.mono HB4.out.size))
 clear hb6
 have ma0 := (HO6.out).b0.c8
 have mr0 := (HO6.out).b1.cf7
 have ml := (HO6.out).b1.lt
 have HR6 := Lib.hid (HH.out _ HB6.out)
 go_wp2_with fail
 refine (HFJ.out _ HR6.out).mono ?_
 rintro e w' ⟨rfl, h8⟩
 obtain rfl := h8
 obtain ⟨g0, g1⟩ := HR6.out.cells
 rw [HNN.out] at g0
 obtain ⟨k0, k1, k2, k3⟩ := HR6.out.cel id HIB.out
 rw [HKK.out] at k0
 rw [HLL.out] at k1
 go_wp2_with fail
 refine (failed_any _ _).mono ?_
 rintro e w5 ⟨rfl, hb5⟩
 have HOF := Lib.hid (HO6.out.below hb5)
 have HBF := Lib.hid (HB6.out.trans (hb5.mono HB6.out.size))
 clear hb5
 have vr0 := (HOF.out).b1.cf7
 have vl := (HOF.out).b1.lt
 go_wp2_with fail
 refine bodyPost_ret (v := .agg #[.int .i64 48, .int .i64 0, .slice none 0 0, .slice none 0 0, .int .i64 0, .int .i64 0, .int .i64 0]) (by simp [results, Tryz.results38, go_sem, vr0, vl]) rfl ?_
 exact rans_same HT.out (ans_set HBF.out (by omega) _ _ _ _ _ _ _)
theorem rren_48_f (o : OpT) (A : Option Addr) (n cap : Nat) (w : World) (h : RIs F w y R a) (hg : Good a c) (hc : c + 20 ≤ 100000) (hp : o.path.size ≤ 1000) (hp2 : o.to.size ≤ 1000) (he1 : (splitN o.path).2 = 0) (he2 : (splitN o.to).2 = 0) (hl1 : (splitN o.path).1.length ≠ 0) (hl2 : (splitN o.to).1.length ≠ 0) (d id : Nat) (hd : a.par o.path 51 = (d, 0)) (hid : a.find d (nameN o.path) = id) (hz : id ≠ 0) (hk : (a.nd id).kind ≠ 2) (d2 was : Nat) (hd2 : a.par o.to 51 = (d2, 0)) (hw : a.find d2 (nameN o.to) = was) (hne : was ≠ id) (hwz : was ≠ 0) (hkw : (a.nd was).kind ≠ 2) (hn : (a.nd was).names.length = 0) (hl : (a.nd id).links = 200) :
  Calls Tryz.prog 38 #[.pointer (some ⟨y, 0, none⟩), o.val A n cap] w (RAnsPost F y (a) w) := by
 unfold OpT.val
 have HT := Lib.hid h
 have HH := Lib.hid (fun W (hb : Below w.heap.size w W) => h.below hb)
 have HS1 := Lib.hid (fun W => rsplit_any o.path W (by omega))
 have HS2 := Lib.hid (fun W => rsplit_any o.to W (by omega))
 have HE1 := Lib.hid he1
 have HE2 := Lib.hid he2
 have l1 : ((((splitN o.path).1.length : Nat) : Int) == 0) = false := beq_eq_false_iff_ne.2 (by omega)
 have l2 : ((((splitN o.to).1.length : Nat) : Int) == 0) = false := beq_eq_false_iff_ne.2 (by omega)
 have HPA := Lib.hid (fun W (h : RIs F W y R a) => show Calls Tryz.prog 74 #[.pointer (some ⟨y, 0, none⟩), .string o.path, .int .i64 51] W (fun e w' => e = .returned (.tuple #[.int .i64 (d : Nat), .string (nameN o.path), .int .i64 0]) ∧ Below W.heap.size W w') from
  (rparent_any o.path 51 W h hg (by omega) hp (by decide)).mono fun e w' hx => by
   obtain ⟨⟨d0, s0, rfl, hq⟩, hb⟩ := hx
   rw [hd] at hq
   obtain ⟨rfl, rfl⟩ := hq rfl
   rw [hd]
   exact ⟨rfl, hb⟩)
 have hfew := hg.few
 have hdir := par_dir (show (51 : Int) ≠ 0 by decide) (show (a.par o.path 51).2 = 0 by rw [hd])
 rw [hd] at hdir
 have hdl := (hg.in_last (k := d) (by rw [hdir]; decide)).2
 have HFI := Lib.hid (fun W (h : RIs F W y R a) => show Calls Tryz.prog 75 #[.pointer (some ⟨y, 0, none⟩), .int .i64 (d : Nat), .string (nameN o.path)] W (fun e w' => e = .returned (.int .i64 (id : Nat)) ∧ W = w') from by
  have := rfind_any d (nameN o.path) W h hdl (by omega) (Nat.le_trans (hg.len d) (by omega))
  rw [hid] at this
  exact this)
 have hlive : (a.nd id).kind ≠ 0 := by rw [← hid]; exact hg.find_live (by rw [hid]; exact hz)
 have hil := (hg.in_last hlive).2
 have t1 : (((id : Nat) : Int) != 0) = true := bne_iff_ne.2 (by omega)
 have t2 : (((id : Nat) : Int) == 0) = false := beq_eq_false_iff_ne.2 (by omega)
 have HIB := Lib.hid hil
 have hin : ((id : Nat) : Int) < ((a.last + 1 : Nat) : Int) := by omega
 have HPB := Lib.hid (fun W (h : RIs F W y R a) => show Calls Tryz.prog 74 #[.pointer (some ⟨y, 0, none⟩), .string o.to, .int .i64 51] W (fun e w' => e = .returned (.tuple #[.int .i64 (d2 : Nat), .string (nameN o.to), .int .i64 0]) ∧ Below W.heap.size W w') from
  (rparent_any o.to 51 W h hg (by omega) hp2 (by decide)).mono fun e w' hx => by
   obtain ⟨⟨d0, s0, rfl, hq⟩, hb⟩ := hx
   rw [hd2] at hq
   obtain ⟨rfl, rfl⟩ := hq rfl
   rw [hd2]
   exact ⟨rfl, hb⟩)
 have hdir2 := par_dir (show (51 : Int) ≠ 0 by decide) (show (a.par o.to 51).2 = 0 by rw [hd2])
 rw [hd2] at hdir2
 have hdl2 := (hg.in_last (k := d2) (by rw [hdir2]; decide)).2
 have HFJ := Lib.hid (fun W (h : RIs F W y R a) => show Calls Tryz.prog 75 #[.pointer (some ⟨y, 0, none⟩), .int .i64 (d2 : Nat), .string (nameN o.to)] W (fun e w' => e = .returned (.int .i64 (was : Nat)) ∧ W = w') from by
  have := rfind_any d2 (nameN o.to) W h hdl2 (by omega) (Nat.le_trans (hg.len d2) (by omega))
  rw [hw] at this
  exact this)
 have tq : (((was : Nat) : Int) == ((id : Nat) : Int)) = false := beq_eq_false_iff_ne.2 (by omega)
 have hlw : (a.nd was).kind ≠ 0 := by rw [← hw]; exact hg.find_live (by rw [hw]; exact hwz)
 have hwl := (hg.in_last hlw).2
 have tw : (((was : Nat) : Int) != 0) = true := bne_iff_ne.2 (by omega)
 have HWB := Lib.hid hwl
 have hwn : ((was : Nat) : Int) < ((a.last + 1 : Nat) : Int) := by omega
 have t5 : ((a.nd id).kind == 2) = false := beq_eq_false_iff_ne.2 hk
 have t6 : ((a.nd id).kind != 2) = true := bne_iff_ne.2 hk
 generalize hkk : (a.nd id).kind = kd at *
 have HKK := Lib.hid hkk
 clear hkk
 have t7 : ((a.nd was).kind == 2) = false := beq_eq_false_iff_ne.2 hkw
 have t8 : ((a.nd was).kind != 2) = true := bne_iff_ne.2 hkw
 generalize hkw2 : (a.nd was).kind = kw at *
 have HWK := Lib.hid hkw2
 clear hkw2
 obtain ⟨A3, e3, h3⟩ := (HT.out.nam was HWB.out).1.shape
 have H3 := Lib.hid h3
 clear h3
 rw [hn] at H3
 have HLL := Lib.hid hl
 generalize hnn : a.last + 1 = n1 at *
 have hnb : n1 ≤ 1000001 := by omega
 have HNN := Lib.hid hnn
 clear hnn
 clear h hg he1 he2 hl1 hl2 hd hid hfew hdir hdl hz hlive hil hd2 hw hdir2 hdl2 hne hwz hlw hwl hk hkw hn hl
 go_enter Tryz.func38, Tryz.ntmps38
 go_upto_region 1 with (fail)
 obtain ⟨w1, hwe, HO1, HB1⟩ := asked w (oc o A n cap)
 rw [← hwe]
 clear hwe
 have ua0 := (HO1.out).b0.c8
 have ur0 := (HO1.out).b1.cf7
 have ul := (HO1.out).b1.lt
 go_wp2_with fail
 refine (HS1.out _).mono ?_
 rintro e w2 ⟨v1, rfl, hv1, hb2⟩
 obtain ⟨A1, c1, rfl, hx1⟩ := hv1
 clear ua0 ur0 ul
 have HV1 := Lib.hid (show Texts w1.heap.size w2 (.slice A1 (splitN o.path).1.length c1) (splitN o.path).1 from ⟨A1, c1, rfl, hx1⟩)
 have HO2 := Lib.hid (HO1.out.below hb2)
 have HB2 := Lib.hid (HB1.out.trans (hb2.mono HB1.out.size))
 clear hb2 hx1
 have za0 := (HO2.out).b0.c8
 have zr0 := (HO2.out).b1.cf7
 have zl := (HO2.out).b1.lt
 rw [HE1.out]
 go_wp2_with fail
 refine (HS2.out _).mono ?_
 rintro e w3 ⟨v2, rfl, hv2, hb3⟩
 obtain ⟨A2, c2, rfl, hx2⟩ := hv2
 clear za0 zr0 zl
 have HV2 := Lib.hid (show Texts w2.heap.size w3 (.slice A2 (splitN o.to).1.length c2) (splitN o.to).1 from ⟨A2, c2, rfl, hx2⟩)
 have HW1 := Lib.hid (HV1.out.below hb3)
 have HO3 := Lib.hid (HO2.out.below hb3)
 have HB3 := Lib.hid (HB2.out.trans (hb3.mono HB2.out.size))
 clear hb3 hx2
 have xa0 := (HO3.out).b0.c8
 have xr0 := (HO3.out).b1.cf7
 have xl := (HO3.out).b1.lt
 rw [HE2.out]
 go_wp2_with fail
 refine (HPA.out _ (HH.out _ HB3.out)).mono ?_
 rintro e w4 ⟨rfl, hb4⟩
 clear xa0 xr0 xl
 have HX1 := Lib.hid (HW1.out.below hb4)
 have HX2 := Lib.hid (HV2.out.below hb4)
 have HO4 := Lib.hid (HO3.out.below hb4)
 have HB4 := Lib.hid (HB3.out.trans (hb4.mono HB3.out.size))
 clear hb4
 have ra0 := (HO4.out).b0.c8
 have rr0 := (HO4.out).b1.cf7
 have rl := (HO4.out).b1.lt
 have HR4 := Lib.hid (HH.out _ HB4.out)
 go_wp2_with fail
 refine (HFI.out _ HR4.out).mono ?_
 rintro e w' ⟨rfl, h8⟩
 obtain rfl := h8
 obtain ⟨g0, g1⟩ := HR4.out.cells
 rw [HNN.out] at g0
 obtain ⟨k0, k1, k2, k3⟩ := HR4.out.cel id HIB.out
 rw [HKK.out] at k0
 go_wp2_with fail
 refine (HPB.out _ (HH.out _ HB4.out)).mono ?_
 rintro e w6 ⟨rfl, hb6⟩
 clear ra0 rr0 rl g0 g1 k0 k1 k2 k3
 have HO6 := Lib.hid (HO4.out.below hb6)
 have HB6 := Lib.hid (HB4.out.trans (hb6.mono HB4.out.size))
 clear hb6
 have ma0 := (HO6.out).b0.c8
 have mr0 := (HO6.out).b1.cf7
 have ml := (HO6.out).b1.lt
 have HR6 := Lib.hid (HH.out _ HB6.out)
 go_wp2_with fail
 refine (HFJ.out _ HR6.out).mono ?_
 rintro e w' ⟨rfl, h8⟩
 obtain rfl := h8
 obtain ⟨g0, g1⟩ := HR6.out.cells
 rw [HNN.out] at g0
 obtain ⟨k0, k1, k2, k3⟩ := HR6.out.cel id HIB.out
 rw [HKK.out] at k0
 obtain ⟨j0, j1, j2, j3⟩ := HR6.out.cel was HWB.out
 rw [HWK.out] at j0
 rw [H3.out] at j3
 rw [HLL.out] at k1
 go_wp2_with fail
 refine (failed_any _ _).mono ?_
 rintro e w5 ⟨rfl, hb5⟩
 have HOF := Lib.hid (HO6.out.below hb5)
 have HBF := Lib.hid (HB6.out.trans (hb5.mono HB6.out.size))
 clear hb5
 have vr0 := (HOF.out).b1.cf7
 have vl := (HOF.out).b1.lt
 go_wp2_with fail
 refine bodyPost_ret (v := .agg #[.int .i64 48, .int .i64 0, .slice none 0 0, .slice none 0 0, .int .i64 0, .int .i64 0, .int .i64 0]) (by simp [results, Tryz.results38, go_sem, vr0, vl]) rfl ?_
 exact rans_same HT.out (ans_set HBF.out (by omega) _ _ _ _ _ _ _)
theorem rren_ok0f (o : OpT) (A : Option Addr) (n cap : Nat) (w : World) (h : RIs F w y R a) (hg : Good a c) (hc : c + 20 ≤ 100000) (hp : o.path.size ≤ 1000) (hp2 : o.to.size ≤ 1000) (he1 : (splitN o.path).2 = 0) (he2 : (splitN o.to).2 = 0) (hl1 : (splitN o.path).1.length ≠ 0) (hl2 : (splitN o.to).1.length ≠ 0) (d id : Nat) (hd : a.par o.path 51 = (d, 0)) (hid : a.find d (nameN o.path) = id) (hz : id ≠ 0) (hk : (a.nd id).kind ≠ 2) (d2 : Nat) (hd2 : a.par o.to 51 = (d2, 0)) (hw : a.find d2 (nameN o.to) = 0) (hl : (a.nd id).links ≠ 200) :
  Calls Tryz.prog 38 #[.pointer (some ⟨y, 0, none⟩), o.val A n cap] w (RAnsPost F y ((a.put d (nameN o.path) 0).put d2 (nameN o.to) id) w) := by
 unfold OpT.val
 have HT := Lib.hid h
 have HH := Lib.hid (fun W (hb : Below w.heap.size w W) => h.below hb)
 have HS1 := Lib.hid (fun W => rsplit_any o.path W (by omega))
 have HS2 := Lib.hid (fun W => rsplit_any o.to W (by omega))
 have HE1 := Lib.hid he1
 have HE2 := Lib.hid he2
 have l1 : ((((splitN o.path).1.length : Nat) : Int) == 0) = false := beq_eq_false_iff_ne.2 (by omega)
 have l2 : ((((splitN o.to).1.length : Nat) : Int) == 0) = false := beq_eq_false_iff_ne.2 (by omega)
 have HPA := Lib.hid (fun W (h : RIs F W y R a) => show Calls Tryz.prog 74 #[.pointer (some ⟨y, 0, none⟩), .string o.path, .int .i64 51] W (fun e w' => e = .returned (.tuple #[.int .i64 (d : Nat), .string (nameN o.path), .int .i64 0]) ∧ Below W.heap.size W w') from
  (rparent_any o.path 51 W h hg (by omega) hp (by decide)).mono fun e w' hx => by
   obtain ⟨⟨d0, s0, rfl, hq⟩, hb⟩ := hx
   rw [hd] at hq
   obtain ⟨rfl, rfl⟩ := hq rfl
   rw [hd]
   exact ⟨rfl, hb⟩)
 have hfew := hg.few
 have hdir := par_dir (show (51 : Int) ≠ 0 by decide) (show (a.par o.path 51).2 = 0 by rw [hd])
 rw [hd] at hdir
 have hdl := (hg.in_last (k := d) (by rw [hdir]; decide)).2
 have HFI := Lib.hid (fun W (h : RIs F W y R a) => show Calls Tryz.prog 75 #[.pointer (some ⟨y, 0, none⟩), .int .i64 (d : Nat), .string (nameN o.path)] W (fun e w' => e = .returned (.int .i64 (id : Nat)) ∧ W = w') from by
  have := rfind_any d (nameN o.path) W h hdl (by omega) (Nat.le_trans (hg.len d) (by omega))
  rw [hid] at this
  exact this)
 have hlive : (a.nd id).kind ≠ 0 := by rw [← hid]; exact hg.find_live (by rw [hid]; exact hz)
 have hil := (hg.in_last hlive).2
 have t1 : (((id : Nat) : Int) != 0) = true := bne_iff_ne.2 (by omega)
 have t2 : (((id : Nat) : Int) == 0) = false := beq_eq_false_iff_ne.2 (by omega)
 have HIB := Lib.hid hil
 have hin : ((id : Nat) : Int) < ((a.last + 1 : Nat) : Int) := by omega
 have HPB := Lib.hid (fun W (h : RIs F W y R a) => show Calls Tryz.prog 74 #[.pointer (some ⟨y, 0, none⟩), .string o.to, .int .i64 51] W (fun e w' => e = .returned (.tuple #[.int .i64 (d2 : Nat), .string (nameN o.to), .int .i64 0]) ∧ Below W.heap.size W w') from
  (rparent_any o.to 51 W h hg (by omega) hp2 (by decide)).mono fun e w' hx => by
   obtain ⟨⟨d0, s0, rfl, hq⟩, hb⟩ := hx
   rw [hd2] at hq
   obtain ⟨rfl, rfl⟩ := hq rfl
   rw [hd2]
   exact ⟨rfl, hb⟩)
 have hdir2 := par_dir (show (51 : Int) ≠ 0 by decide) (show (a.par o.to 51).2 = 0 by rw [hd2])
 rw [hd2] at hdir2
 have hdl2 := (hg.in_last (k := d2) (by rw [hdir2]; decide)).2
 have HFJ := Lib.hid (fun W (h : RIs F W y R a) => show Calls Tryz.prog 75 #[.pointer (some ⟨y, 0, none⟩), .int .i64 (d2 : Nat), .string (nameN o.to)] W (fun e w' => e = .returned (.int .i64 0) ∧ W = w') from by
  have := rfind_any d2 (nameN o.to) W h hdl2 (by omega) (Nat.le_trans (hg.len d2) (by omega))
  rw [hw] at this
  exact this)
 have tq : (((0 : Nat) : Int) == ((id : Nat) : Int)) = false := beq_eq_false_iff_ne.2 (by omega)
 have tq' : ((0 : Int) == ((id : Nat) : Int)) = false := beq_eq_false_iff_ne.2 (by omega)
 have hg1 := hg.drop hdir (s := nameN o.path) (Nat.le_trans (nameN_size _) (by omega))
 have hg2 := hg1.drop (d := d2) (by rw [kind_put]; exact hdir2) (s := nameN o.to) (Nat.le_trans (nameN_size _) (by omega))
 have HP1 := Lib.hid (fun W (h : RIs F W y R a) => rput0_any d (nameN o.path) W h hg (by omega) hdl)
 have HP2 := Lib.hid (fun F' W R' (h : RIs F' W y R' (a.put d (nameN o.path) 0)) => rput0_any d2 (nameN o.to) W h hg1 (by omega) hdl2)
 have HP3 := Lib.hid (fun F' W R' (h : RIs F' W y R' ((a.put d (nameN o.path) 0).put d2 (nameN o.to) 0)) => rput_any d2 (nameN o.to) id W h hg2 (by omega) hdl2)
 have HPP := Lib.hid (put_put hg1 d2 (nameN o.to) id)
 have HFL : Hid (∀ j, F j → j < w.heap.size) := Lib.hid fun j e => HT.out.lt j e
 have t5 : ((a.nd id).kind == 2) = false := beq_eq_false_iff_ne.2 hk
 have t6 : ((a.nd id).kind != 2) = true := bne_iff_ne.2 hk
 generalize hkk : (a.nd id).kind = kd at *
 have HKK := Lib.hid hkk
 clear hkk
 have hlk2 : ((a.nd id).links == 200) = false := beq_eq_false_iff_ne.2 hl
 generalize hll : (a.nd id).links = ll at *
 have HLL := Lib.hid hll
 clear hll
 generalize hnn : a.last + 1 = n1 at *
 have hnb : n1 ≤ 1000001 := by omega
 have HNN := Lib.hid hnn
 clear hnn
 clear h hg he1 he2 hl1 hl2 hd hid hfew hdir hdl hz hlive hil hd2 hw hdir2 hdl2 hk hl hg1 hg2
 go_enter Tryz.func38, Tryz.ntmps38
 go_upto_region 1 with (fail)
 obtain ⟨w1, hwe, HO1, HB1⟩ := asked w (oc o A n cap)
 rw [← hwe]
 clear hwe
 have ua0 := (HO1.out).b0.c8
 have ur0 := (HO1.out).b1.cf7
 have ul := (HO1.out).b1.lt
 go_wp2_with fail
 refine (HS1.out _).mono ?_
 rintro e w2 ⟨v1, rfl, hv1, hb2⟩
 obtain ⟨A1, c1, rfl, hx1⟩ := hv1
 clear ua0 ur0 ul
 have HV1 := Lib.hid (show Texts w1.heap.size w2 (.slice A1 (splitN o.path).1.length c1) (splitN o.path).1 from ⟨A1, c1, rfl, hx1⟩)
 have HO2 := Lib.hid (HO1.out.below hb2)
 have HB2 := Lib.hid (HB1.out.trans (hb2.mono HB1.out.size))
 clear hb2 hx1
 have za0 := (HO2.out).b0.c8
 have zr0 := (HO2.out).b1.cf7
 have zl := (HO2.out).b1.lt
 rw [HE1.out]
 go_wp2_with fail
 refine (HS2.out _).mono ?_
 rintro e w3 ⟨v2, rfl, hv2, hb3⟩
 obtain ⟨A2, c2, rfl, hx2⟩ := hv2
 clear za0 zr0 zl
 have HV2 := Lib.hid (show Texts w2.heap.size w3 (.slice A2 (splitN o.to).1.length c2) (splitN o.to).1 from ⟨A2, c2, rfl, hx2⟩)
 have HW1 := Lib.hid (HV1.out.below hb3)
 have HO3 := Lib.hid (HO2.out.below hb3)
 have HB3 := Lib.hid (HB2.out.trans (hb3.mono HB2.out.size))
 clear hb3 hx2
 have xa0 := (HO3.out).b0.c8
 have xr0 := (HO3.out).b1.cf7
 have xl := (HO3.out).b1.lt
 rw [HE2.out]
 go_wp2_with fail
 refine (HPA.out _ (HH.out _ HB3.out)).mono ?_
 rintro e w4 ⟨rfl, hb4⟩
 clear xa0 xr0 xl
 have HX1 := Lib.hid (HW1.out.below hb4)
 have HX2 := Lib.hid (HV2.out.below hb4)
 have HO4 := Lib.hid (HO3.out.below hb4)
 have HB4 := Lib.hid (HB3.out.trans (hb4.mono HB3.out.size))
 clear hb4
 have ra0 := (HO4.out).b0.c8
 have rr0 := (HO4.out).b1.cf7
 have rl := (HO4.out).b1.lt
 have HR4 := Lib.hid (HH.out _ HB4.out)
 go_wp2_with fail
 refine (HFI.out _ HR4.out).mono ?_
 rintro e w' ⟨rfl, h8⟩
 obtain rfl := h8
 obtain ⟨g0, g1⟩ := HR4.out.cells
 rw [HNN.out] at g0
 obtain ⟨k0, k1, k2, k3⟩ := HR4.out.cel id HIB.out
 rw [HKK.out] at k0
 go_wp2_with fail
 refine (HPB.out _ (HH.out _ HB4.out)).mono ?_
 rintro e w6 ⟨rfl, hb6⟩
 clear ra0 rr0 rl g0 g1 k0 k1 k2 k3
 have HO6 := Lib.hid (HO4.out.below hb6)
 have HB6 := Lib.hid (HB4.out.trans (hb6.mono HB4.out.size))
 clear hb6
 have ma0 := (HO6.out).b0.c8
 have mr0 := (HO6.out).b1.cf7
 have ml := (HO6.out).b1.lt
 have HR6 := Lib.hid (HH.out _ HB6.out)
 go_wp2_with fail
 refine (HFJ.out _ HR6.out).mono ?_
 rintro e w' ⟨rfl, h8⟩
 obtain rfl := h8
 obtain ⟨g0, g1⟩ := HR6.out.cells
 rw [HNN.out] at g0
 obtain ⟨k0, k1, k2, k3⟩ := HR6.out.cel id HIB.out
 rw [HKK.out] at k0
 rw [HLL.out] at k1
 go_wp2_with fail
 refine (HP1.out _ HR6.out).mono ?_
 rintro e w7 ⟨rfl, hs7, hTu7⟩
 clear ma0 mr0 ml g0 g1 k0 k1 k2 k3
 have HTu7 := Lib.hid hTu7
 obtain ⟨R7, h7⟩ := hs7
 have H7 := Lib.hid h7
 clear h7 hTu7
 go_wp2_with fail
 refine (HP2.out _ _ _ H7.out).mono ?_
 rintro e w8 ⟨rfl, hs8, hTu8⟩
 have HTu8 := Lib.hid (HTu7.out.grow2' hTu8)
 have hs8' := hs8.grow2 HTu7.out.size hTu8.size
 obtain ⟨R8, h8⟩ := hs8'
 have H8 := Lib.hid h8
 clear h8 hTu8 hs8
 go_wp2_with fail
 refine (HP3.out _ _ _ H8.out).mono ?_
 rintro e w10 ⟨rfl, hs10, hTu10⟩
 rw [HPP.out] at hs10
 have HTu10 := Lib.hid (HTu8.out.grow2' hTu10)
 have hs10' := hs10.grow2 HTu8.out.size hTu10.size
 have HS10 := Lib.hid hs10'
 clear hTu10 hs10 hs10'
 have HS9 := HS10
 have HTu9 := HTu10
 have HO9 := Lib.hid (HO6.out.turn2 HTu9.out (fun e => by have := HFL.out _ e; omega) (fun e => by have := HFL.out _ e; omega))
 have vr0 := (HO9.out).b1.cf7
 have vl := (HO9.out).b1.lt
 go_wp2_with fail
 refine bodyPost_ret (v := .agg #[.int .i64 0, .int .i64 0, .slice none 0 0, .slice none 0 0, .int .i64 0, .int .i64 0, .int .i64 0]) (by simp [results, Tryz.results38, go_sem, vr0, vl]) rfl ?_
 exact rans_fin (F' := F) (wX := w6) HT.out HS9.out ((Turn.of_below (S := F) HB6.out).trans (S' := F) HTu9.out fun _ _ e => e) HB6.out.size (fun j e => .inl e) (by omega) HO6.out.b1.lt (fun e => by have := HFL.out _ e; omega)
theorem rren_ok1f (o : OpT) (A : Option Addr) (n cap : Nat) (w : World) (h : RIs F w y R a) (hg : Good a c) (hc : c + 20 ≤ 100000) (hp : o.path.size ≤ 1000) (hp2 : o.to.size ≤ 1000) (he1 : (splitN o.path).2 = 0) (he2 : (splitN o.to).2 = 0) (hl1 : (splitN o.path).1.length ≠ 0) (hl2 : (splitN o.to).1.length ≠ 0) (d id : Nat) (hd : a.par o.path 51 = (d, 0)) (hid : a.find d (nameN o.path) = id) (hz : id ≠ 0) (hk : (a.nd id).kind ≠ 2) (d2 was : Nat) (hd2 : a.par o.to 51 = (d2, 0)) (hw : a.find d2 (nameN o.to) = was) (hne : was ≠ id) (hwz : was ≠ 0) (hkw : (a.nd was).kind ≠ 2) (hn : (a.nd was).names.length = 0) (hl : (a.nd id).links ≠ 200) :
  Calls Tryz.prog 38 #[.pointer (some ⟨y, 0, none⟩), o.val A n cap] w (RAnsPost F y (((a.put d (nameN o.path) 0).put d2 (nameN o.to) id).less was) w) := by
 unfold OpT.val
 have HT := Lib.hid h
 have HH := Lib.hid (fun W (hb : Below w.heap.size w W) => h.below hb)
 have HS1 := Lib.hid (fun W => rsplit_any o.path W (by omega))
 have HS2 := Lib.hid (fun W => rsplit_any o.to W (by omega))
 have HE1 := Lib.hid he1
 have HE2 := Lib.hid he2
 have l1 : ((((splitN o.path).1.length : Nat) : Int) == 0) = false := beq_eq_false_iff_ne.2 (by omega)
 have l2 : ((((splitN o.to).1.length : Nat) : Int) == 0) = false := beq_eq_false_iff_ne.2 (by omega)
 have HPA := Lib.hid (fun W (h : RIs F W y R a) => show Calls Tryz.prog 74 #[.pointer (some ⟨y, 0, none⟩), .string o.path, .int .i64 51] W (fun e w' => e = .returned (.tuple #[.int .i64 (d : Nat), .string (nameN o.path), .int .i64 0]) ∧ Below W.heap.size W w') from
  (rparent_any o.path 51 W h hg (by omega) hp (by decide)).mono fun e w' hx => by
   obtain ⟨⟨d0, s0, rfl, hq⟩, hb⟩ := hx
   rw [hd] at hq
   obtain ⟨rfl, rfl⟩ := hq rfl
   rw [hd]
   exact ⟨rfl, hb⟩)
 have hfew := hg.few
 have hdir := par_dir (show (51 : Int) ≠ 0 by decide) (show (a.par o.path 51).2 = 0 by rw [hd])
 rw [hd] at hdir
 have hdl := (hg.in_last (k := d) (by rw [hdir]; decide)).2
 have HFI := Lib.hid (fun W (h : RIs F W y R a) => show Calls Tryz.prog 75 #[.pointer (some ⟨y, 0, none⟩), .int .i64 (d : Nat), .string (nameN o.path)] W (fun e w' => e = .returned (.int .i64 (id : Nat)) ∧ W = w') from by
  have := rfind_any d (nameN o.path) W h hdl (by omega) (Nat.le_trans (hg.len d) (by omega))
  rw [hid] at this
  exact this)
 have hlive : (a.nd id).kind ≠ 0 := by rw [← hid]; exact hg.find_live (by rw [hid]; exact hz)
 have hil := (hg.in_last hlive).2
 have t1 : (((id : Nat) : Int) != 0) = true := bne_iff_ne.2 (by omega)
 have t2 : (((id : Nat) : Int) == 0) = false := beq_eq_false_iff_ne.2 (by omega)
 have HIB := Lib.hid hil
 have hin : ((id : Nat) : Int) < ((a.last + 1 : Nat) : Int) := by omega
 have HPB := Lib.hid (fun W (h : RIs F W y R a) => show Calls Tryz.prog 74 #[.pointer (some ⟨y, 0, none⟩), .string o.to, .int .i64 51] W (fun e w' => e = .returned (.tuple #[.int .i64 (d2 : Nat), .string (nameN o.to), .int .i64 0]) ∧ Below W.heap.size W w') from
  (rparent_any o.to 51 W h hg (by omega) hp2 (by decide)).mono fun e w' hx => by
   obtain ⟨⟨d0, s0, rfl, hq⟩, hb⟩ := hx
   rw [hd2] at hq
   obtain ⟨rfl, rfl⟩ := hq rfl
   rw [hd2]
   exact ⟨rfl, hb⟩)
 have hdir2 := par_dir (show (51 : Int) ≠ 0 by decide) (show (a.par o.to 51).2 = 0 by rw [hd2])
 rw [hd2] at hdir2
 have hdl2 := (hg.in_last (k := d2) (by rw [hdir2]; decide)).2
 have HFJ := Lib.hid (fun W (h : RIs F W y R a) => show Calls Tryz.prog 75 #[.pointer (some ⟨y, 0, none⟩), .int .i64 (d2 : Nat), .string (nameN o.to)] W (fun e w' => e = .returned (.int .i64 (was : Nat)) ∧ W = w') from by
  have := rfind_any d2 (nameN o.to) W h hdl2 (by omega) (Nat.le_trans (hg.len d2) (by omega))
  rw [hw] at this
  exact this)
 have tq : (((was : Nat) : Int) == ((id : Nat) : Int)) = false := beq_eq_false_iff_ne.2 (by omega)
 have hlw : (a.nd was).kind ≠ 0 := by rw [← hw]; exact hg.find_live (by rw [hw]; exact hwz)
 have hwl := (hg.in_last hlw).2
 have tw : (((was : Nat) : Int) != 0) = true := bne_iff_ne.2 (by omega)
 have HWB := Lib.hid hwl
 have hwn : ((was : Nat) : Int) < ((a.last + 1 : Nat) : Int) := by omega
 have hg1 := hg.drop hdir (s := nameN o.path) (Nat.le_trans (nameN_size _) (by omega))
 have hg2 := hg1.drop (d := d2) (by rw [kind_put]; exact hdir2) (s := nameN o.to) (Nat.le_trans (nameN_size _) (by omega))
 have HP1 := Lib.hid (fun W (h : RIs F W y R a) => rput0_any d (nameN o.path) W h hg (by omega) hdl)
 have HP2 := Lib.hid (fun F' W R' (h : RIs F' W y R' (a.put d (nameN o.path) 0)) => rput0_any d2 (nameN o.to) W h hg1 (by omega) hdl2)
 have HP3 := Lib.hid (fun F' W R' (h : RIs F' W y R' ((a.put d (nameN o.path) 0).put d2 (nameN o.to) 0)) => rput_any d2 (nameN o.to) id W h hg2 (by omega) hdl2)
 have HPP := Lib.hid (put_put hg1 d2 (nameN o.to) id)
 have HLE := Lib.hid (fun F' W R' (h : RIs F' W y R' ((a.put d (nameN o.path) 0).put d2 (nameN o.to) id)) => rless_any was W h hwl (show a.last ≤ 1000000 by omega) (by rw [links_put, links_put]; exact hg.links was))
 have HFL : Hid (∀ j, F j → j < w.heap.size) := Lib.hid fun j e => HT.out.lt j e
 have t5 : ((a.nd id).kind == 2) = false := beq_eq_false_iff_ne.2 hk
 have t6 : ((a.nd id).kind != 2) = true := bne_iff_ne.2 hk
 generalize hkk : (a.nd id).kind = kd at *
 have HKK := Lib.hid hkk
 clear hkk
 have t7 : ((a.nd was).kind == 2) = false := beq_eq_false_iff_ne.2 hkw
 have t8 : ((a.nd was).kind != 2) = true := bne_iff_ne.2 hkw
 generalize hkw2 : (a.nd was).kind = kw at *
 have HWK := Lib.hid hkw2
 clear hkw2
 obtain ⟨A3, e3, h3⟩ := (HT.out.nam was HWB.out).1.shape
 have H3 := Lib.hid h3
 clear h3
 rw [hn] at H3
 have hlk2 : ((a.nd id).links == 200) = false := beq_eq_false_iff_ne.2 hl
 generalize hll : (a.nd id).links = ll at *
 have HLL := Lib.hid hll
 clear hll
 generalize hnn : a.last + 1 = n1 at *
 have hnb : n1 ≤ 1000001 := by omega
 have HNN := Lib.hid hnn
 clear hnn
 clear h hg he1 he2 hl1 hl2 hd hid hfew hdir hdl hz hlive hil hd2 hw hdir2 hdl2 hne hwz hlw hwl hk hkw hn hl hg1 hg2
 go_enter Tryz.func38, Tryz.ntmps38
 go_upto_region 1 with (fail)
 obtain ⟨w1, hwe, HO1, HB1⟩ := asked w (oc o A n cap)
 rw [← hwe]
 clear hwe
 have ua0 := (HO1.out).b0.c8
 have ur0 := (HO1.out).b1.cf7
 have ul := (HO1.out).b1.lt
 go_wp2_with fail
 refine (HS1.out _).mono ?_
 rintro e w2 ⟨v1, rfl, hv1, hb2⟩
 obtain ⟨A1, c1, rfl, hx1⟩ := hv1
 clear ua0 ur0 ul
 have HV1 := Lib.hid (show Texts w1.heap.size w2 (.slice A1 (splitN o.path).1.length c1) (splitN o.path).1 from ⟨A1, c1, rfl, hx1⟩)
 have HO2 := Lib.hid (HO1.out.below hb2)
 have HB2 := Lib.hid (HB1.out.trans (hb2.mono HB1.out.size))
 clear hb2 hx1
 have za0 := (HO2.out).b0.c8
 have zr0 := (HO2.out).b1.cf7
 have zl := (HO2.out).b1.lt
 rw [HE1.out]
 go_wp2_with fail
 refine (HS2.out _).mono ?_
 rintro e w3 ⟨v2, rfl, hv2, hb3⟩
 obtain ⟨A2, c2, rfl, hx2⟩ := hv2
 clear za0 zr0 zl
 have HV2 := Lib.hid (show Texts w2.heap.size w3 (.slice A2 (splitN o.to).1.length c2) (splitN o.to).1 from ⟨A2, c2, rfl, hx2⟩)
 have HW1 := Lib.hid (HV1.out.below hb3)
 have HO3 := Lib.hid (HO2.out.below hb3)
 have HB3 := Lib.hid (HB2.out.trans (hb3.mono HB2.out.size))
 clear hb3 hx2
 have xa0 := (HO3.out).b0.c8
 have xr0 := (HO3.out).b1.cf7
 have xl := (HO3.out).b1.lt
 rw [HE2.out]
 go_wp2_with fail
 refine (HPA.out _ (HH.out _ HB3.out)).mono ?_
 rintro e w4 ⟨rfl, hb4⟩
 clear xa0 xr0 xl
 have HX1 := Lib.hid (HW1.out.below hb4)
 have HX2 := Lib.hid (HV2.out.below hb4)
 have HO4 := Lib.hid (HO3.out.below hb4)
 have HB4 := Lib.hid (HB3.out.trans (hb4.mono HB3.out.size))
 clear hb4
 have ra0 := (HO4.out).b0.c8
 have rr0 := (HO4.out).b1.cf7
 have rl := (HO4.out).b1.lt
 have HR4 := Lib.hid (HH.out _ HB4.out)
 go_wp2_with fail
 refine (HFI.out _ HR4.out).mono ?_
 rintro e w' ⟨rfl, h8⟩
 obtain rfl := h8
 obtain ⟨g0, g1⟩ := HR4.out.cells
 rw [HNN.out] at g0
 obtain ⟨k0, k1, k2, k3⟩ := HR4.out.cel id HIB.out
 rw [HKK.out] at k0
 go_wp2_with fail
 refine (HPB.out _ (HH.out _ HB4.out)).mono ?_
 rintro e w6 ⟨rfl, hb6⟩
 clear ra0 rr0 rl g0 g1 k0 k1 k2 k3
 have HO6 := Lib.hid (HO4.out.below hb6)
 have HB6 := Lib.hid (HB4.out.trans (hb6.mono HB4.out.size))
 clear hb6
 have ma0 := (HO6.out).b0.c8
 have mr0 := (HO6.out).b1.cf7
 have ml := (HO6.out).b1.lt
 have HR6 := Lib.hid (HH.out _ HB6.out)
 go_wp2_with fail
 refine (HFJ.out _ HR6.out).mono ?_
 rintro e w' ⟨rfl, h8⟩
 obtain rfl := h8
 obtain ⟨g0, g1⟩ := HR6.out.cells
 rw [HNN.out] at g0
 obtain ⟨k0, k1, k2, k3⟩ := HR6.out.cel id HIB.out
 rw [HKK.out] at k0
 obtain ⟨j0, j1, j2, j3⟩ := HR6.out.cel was HWB.out
 rw [HWK.out] at j0
 rw [H3.out] at j3
 rw [HLL.out] at k1
 go_wp2_with fail
 refine (HP1.out _ HR6.out).mono ?_
 rintro e w7 ⟨rfl, hs7, hTu7⟩
 clear ma0 mr0 ml g0 g1 k0 k1 k2 k3 j0 j1 j2 j3
 have HTu7 := Lib.hid hTu7
 obtain ⟨R7, h7⟩ := hs7
 have H7 := Lib.hid h7
 clear h7 hTu7
 go_wp2_with fail
 refine (HP2.out _ _ _ H7.out).mono ?_
 rintro e w8 ⟨rfl, hs8, hTu8⟩
 have HTu8 := Lib.hid (HTu7.out.grow2' hTu8)
 have hs8' := hs8.grow2 HTu7.out.size hTu8.size
 obtain ⟨R8, h8⟩ := hs8'
 have H8 := Lib.hid h8
 clear h8 hTu8 hs8
 go_wp2_with fail
 refine (HP3.out _ _ _ H8.out).mono ?_
 rintro e w10 ⟨rfl, hs10, hTu10⟩
 rw [HPP.out] at hs10
 have HTu10 := Lib.hid (HTu8.out.grow2' hTu10)
 have hs10' := hs10.grow2 HTu8.out.size hTu10.size
 have HS10 := Lib.hid hs10'
 clear hTu10 hs10 hs10'
 obtain ⟨R10, h10⟩ := HS10.out
 have H10 := Lib.hid h10
 clear h10
 go_wp2_with fail
 refine (HLE.out _ _ _ H10.out).mono ?_
 rintro e w9 ⟨rfl, hs9, hTu9⟩
 have HTu9 := Lib.hid (HTu10.out.grow2' hTu9)
 have HS9 := Lib.hid (hs9.grow2 HTu10.out.size hTu9.size)
 clear hs9 hTu9
 have HO9 := Lib.hid (HO6.out.turn2 HTu9.out (fun e => by have := HFL.out _ e; omega) (fun e => by have := HFL.out _ e; omega))
 have vr0 := (HO9.out).b1.cf7
 have vl := (HO9.out).b1.lt
 go_wp2_with fail
 refine bodyPost_ret (v := .agg #[.int .i64 0, .int .i64 0, .slice none 0 0, .slice none 0 0, .int .i64 0, .int .i64 0, .int .i64 0]) (by simp [results, Tryz.results38, go_sem, vr0, vl]) rfl ?_
 exact rans_fin (F' := F) (wX := w6) HT.out HS9.out ((Turn.of_below (S := F) HB6.out).trans (S' := F) HTu9.out fun _ _ e => e) HB6.out.size (fun j e => .inl e) (by omega) HO6.out.b1.lt (fun e => by have := HFL.out _ e; omega)
theorem rren_any (o : OpT) (A : Option Addr) (n cap : Nat) (w : World) (h : RIs F w y R a) (hg : Good a c) (hc : c + 20 ≤ 100000) (hp : o.path.size ≤ 1000) (hp2 : o.to.size ≤ 1000) :
  Calls Tryz.prog 38 #[.pointer (some ⟨y, 0, none⟩), o.val A n cap] w (RAnsPost F y (a.renameT o) w) := by
 have hbad : a.endsE o ≠ 0 → a.renameT o = a := fun hx => by unfold TS.renameT; rw [if_neg hx]
 by_cases he1 : (splitN o.path).2 = 0
 rotate_left
 ·rw [hbad (by unfold TS.endsE; rw [if_pos he1]; exact he1)]
  exact rren_s1 o A n cap w h hg hc hp hp2 he1
 by_cases he2 : (splitN o.to).2 = 0
 rotate_left
 ·rw [hbad (by unfold TS.endsE; rw [if_neg (fun x => x he1), if_pos he2]; exact he2)]
  exact rren_s2 o A n cap w h hg hc hp hp2 he1 he2
 by_cases hl : (splitN o.path).1.length = 0 ∨ (splitN o.to).1.length = 0
 ·rw [hbad (by unfold TS.endsE; rw [if_neg (fun x => x he1), if_neg (fun x => x he2), if_pos hl]; decide)]
  exact rren_51 o A n cap w h hg hc hp hp2 he1 he2 hl
 have hl1 : (splitN o.path).1.length ≠ 0 := fun e => hl (.inl e)
 have hl2 : (splitN o.to).1.length ≠ 0 := fun e => hl (.inr e)
 by_cases he : (a.par o.path 51).2 = 0
 rotate_left
 ·rw [hbad (by unfold TS.endsE; rw [if_neg (fun x => x he1), if_neg (fun x => x he2), if_neg hl, if_pos he]; exact he)]
  exact rren_par o A n cap w h hg hc hp hp2 he1 he2 hl1 hl2 he
 obtain ⟨d, hd⟩ : ∃ d, a.par o.path 51 = (d, 0) := ⟨(a.par o.path 51).1, by rw [← he]⟩
 have hE : a.endsE o = if a.find d (nameN o.path) = 0 then 40 else if (a.nd (a.find d (nameN o.path))).kind = 2 ∧ insideB (splitN o.path).1 (splitN o.to).1 = true then 49 else (a.par o.to 51).2 := by
  unfold TS.endsE; rw [if_neg (fun x => x he1), if_neg (fun x => x he2), if_neg hl, if_neg (fun x => x he), hd]
 by_cases hz : a.find d (nameN o.path) = 0
 ·rw [hbad (by rw [hE, if_pos hz]; decide)]
  exact rren_40 o A n cap w h hg hc hp hp2 he1 he2 hl1 hl2 d hd hz
 rw [if_neg hz] at hE
 by_cases hi : (a.nd (a.find d (nameN o.path))).kind = 2 ∧ insideB (splitN o.path).1 (splitN o.to).1 = true
 ·rw [hbad (by rw [hE, if_pos hi]; decide)]
  exact rren_49 o A n cap w h hg hc hp hp2 he1 he2 hl1 hl2 d _ hd rfl hz hi.1 hi.2
 rw [if_neg hi] at hE
 have hi2 : (a.nd (a.find d (nameN o.path))).kind = 2 → insideB (splitN o.path).1 (splitN o.to).1 = false := fun hk => by
  cases e : insideB (splitN o.path).1 (splitN o.to).1 with
  | false => rfl
  | true => exact absurd ⟨hk, e⟩ hi
 by_cases hp3 : (a.par o.to 51).2 = 0
 rotate_left
 ·rw [hbad (by rw [hE]; exact hp3)]
  by_cases hk : (a.nd (a.find d (nameN o.path))).kind = 2
  ·exact rren_par2d o A n cap w h hg hc hp hp2 he1 he2 hl1 hl2 d _ hd rfl hz hk (hi2 hk) hp3
  ·exact rren_par2f o A n cap w h hg hc hp hp2 he1 he2 hl1 hl2 d _ hd rfl hz hk hp3
 obtain ⟨d2, hd2⟩ : ∃ d2, a.par o.to 51 = (d2, 0) := ⟨(a.par o.to 51).1, by rw [← hp3]⟩
 have hT : a.renameT o = a.ren d (nameN o.path) d2 (nameN o.to) := by unfold TS.renameT; rw [if_pos (by rw [hE]; exact hp3), hd, hd2]
 rw [hT]
 unfold TS.ren
 by_cases hsame : a.find d2 (nameN o.to) = a.find d (nameN o.path)
 ·rw [if_pos hsame.symm]
  by_cases hk : (a.nd (a.find d (nameN o.path))).kind = 2
  ·exact rren_samed o A n cap w h hg hc hp hp2 he1 he2 hl1 hl2 d _ hd rfl hz hk (hi2 hk) d2 hd2 hsame
  ·exact rren_samef o A n cap w h hg hc hp hp2 he1 he2 hl1 hl2 d _ hd rfl hz hk d2 hd2 hsame
 rw [if_neg (fun e => hsame e.symm)]
 by_cases hwz : a.find d2 (nameN o.to) = 0
 ·have hrE : a.renE (a.find d (nameN o.path)) (a.find d2 (nameN o.to)) = if (a.nd (a.find d (nameN o.path))).links = 200 then 48 else 0 := by unfold TS.renE; rw [if_neg (fun x => x.1 hwz)]
  have hrS : a.renS d (nameN o.path) d2 (nameN o.to) (a.find d (nameN o.path)) (a.find d2 (nameN o.to)) = (a.put d (nameN o.path) 0).put d2 (nameN o.to) (a.find d (nameN o.path)) := by unfold TS.renS; rw [if_neg (fun x => x hwz)]
  rw [hrE, hrS]
  by_cases hlk : (a.nd (a.find d (nameN o.path))).links = 200
  ·rw [if_pos hlk, if_neg (by decide)]
   by_cases hk : (a.nd (a.find d (nameN o.path))).kind = 2
   ·exact rren_48_0d o A n cap w h hg hc hp hp2 he1 he2 hl1 hl2 d _ hd rfl hz hk (hi2 hk) d2 hd2 hwz hlk
   ·exact rren_48_0f o A n cap w h hg hc hp hp2 he1 he2 hl1 hl2 d _ hd rfl hz hk d2 hd2 hwz hlk
  ·rw [if_neg hlk, if_pos rfl]
   by_cases hk : (a.nd (a.find d (nameN o.path))).kind = 2
   ·exact rren_ok0d o A n cap w h hg hc hp hp2 he1 he2 hl1 hl2 d _ hd rfl hz hk (hi2 hk) d2 hd2 hwz hlk
   ·exact rren_ok0f o A n cap w h hg hc hp hp2 he1 he2 hl1 hl2 d _ hd rfl hz hk d2 hd2 hwz hlk
 have hrS : a.renS d (nameN o.path) d2 (nameN o.to) (a.find d (nameN o.path)) (a.find d2 (nameN o.to)) = ((a.put d (nameN o.path) 0).put d2 (nameN o.to) (a.find d (nameN o.path))).less (a.find d2 (nameN o.to)) := by unfold TS.renS; rw [if_pos hwz]
 rw [hrS]
 have hov : a.overE (a.find d (nameN o.path)) (a.find d2 (nameN o.to)) = if (a.nd (a.find d (nameN o.path))).kind = 2 ∧ (a.nd (a.find d2 (nameN o.to))).kind ≠ 2 then 42 else if (a.nd (a.find d (nameN o.path))).kind ≠ 2 ∧ (a.nd (a.find d2 (nameN o.to))).kind = 2 then 43 else if (a.nd (a.find d2 (nameN o.to))).names.length ≠ 0 then 44 else 0 := rfl
 have hren : ∀ {x : Int}, a.overE (a.find d (nameN o.path)) (a.find d2 (nameN o.to)) = x → x ≠ 0 → a.renE (a.find d (nameN o.path)) (a.find d2 (nameN o.to)) ≠ 0 := fun {x} hx hx0 => by unfold TS.renE; rw [if_pos ⟨hwz, by rw [hx]; exact hx0⟩, hx]; exact hx0
 by_cases hk : (a.nd (a.find d (nameN o.path))).kind = 2
 ·by_cases hkw : (a.nd (a.find d2 (nameN o.to))).kind = 2
  ·rw [if_neg (fun x => x.2 hkw), if_neg (fun x => x.1 hk)] at hov
   by_cases hn : (a.nd (a.find d2 (nameN o.to))).names.length = 0
   ·rw [if_neg (fun x => x hn)] at hov
    have hrE : a.renE (a.find d (nameN o.path)) (a.find d2 (nameN o.to)) = if (a.nd (a.find d (nameN o.path))).links = 200 then 48 else 0 := by unfold TS.renE; rw [if_neg (fun x => x.2 hov)]
    rw [hrE]
    by_cases hlk : (a.nd (a.find d (nameN o.path))).links = 200
    ·rw [if_pos hlk, if_neg (by decide)]
     exact rren_48_d o A n cap w h hg hc hp hp2 he1 he2 hl1 hl2 d _ hd rfl hz hk (hi2 hk) d2 _ hd2 rfl hsame hwz hkw hn hlk
    ·rw [if_neg hlk, if_pos rfl]
     exact rren_ok1d o A n cap w h hg hc hp hp2 he1 he2 hl1 hl2 d _ hd rfl hz hk (hi2 hk) d2 _ hd2 rfl hsame hwz hkw hn hlk
   ·rw [if_pos hn] at hov
    rw [if_neg (hren hov (by decide))]
    exact rren_44 o A n cap w h hg hc hp hp2 he1 he2 hl1 hl2 d _ hd rfl hz hk (hi2 hk) d2 _ hd2 rfl hsame hwz hkw hn
  ·rw [if_pos ⟨hk, hkw⟩] at hov
   rw [if_neg (hren hov (by decide))]
   exact rren_42 o A n cap w h hg hc hp hp2 he1 he2 hl1 hl2 d _ hd rfl hz hk (hi2 hk) d2 _ hd2 rfl hsame hwz hkw
 ·by_cases hkw : (a.nd (a.find d2 (nameN o.to))).kind = 2
  ·rw [if_neg (fun x => hk x.1), if_pos ⟨hk, hkw⟩] at hov
   rw [if_neg (hren hov (by decide))]
   exact rren_43 o A n cap w h hg hc hp hp2 he1 he2 hl1 hl2 d _ hd rfl hz hk d2 _ hd2 rfl hsame hwz hkw
  ·have hnil := (kind_one hg (hg.find_live hwz) hkw).2
   have hn : (a.nd (a.find d2 (nameN o.to))).names.length = 0 := by rw [hnil]; rfl
   rw [if_neg (fun x => hk x.1), if_neg (fun x => hkw x.2), if_neg (fun x => x hn)] at hov
   have hrE : a.renE (a.find d (nameN o.path)) (a.find d2 (nameN o.to)) = if (a.nd (a.find d (nameN o.path))).links = 200 then 48 else 0 := by unfold TS.renE; rw [if_neg (fun x => x.2 hov)]
   rw [hrE]
   by_cases hlk : (a.nd (a.find d (nameN o.path))).links = 200
   ·rw [if_pos hlk, if_neg (by decide)]
    exact rren_48_f o A n cap w h hg hc hp hp2 he1 he2 hl1 hl2 d _ hd rfl hz hk d2 _ hd2 rfl hsame hwz hkw hn hlk
   ·rw [if_neg hlk, if_pos rfl]
    exact rren_ok1f o A n cap w h hg hc hp hp2 he1 he2 hl1 hl2 d _ hd rfl hz hk d2 _ hd2 rfl hsame hwz hkw hn hlk
end
end Go.Proofs.YtpkhglfhpggceaaGreatDoor
namespace Go.Proofs.YtpkhglfhpggceaaGreatDoor
set_option maxRecDepth 100000
set_option maxHeartbeats 16000000
open Go.RowKit
set_option linter.unusedVariables false
set_option linter.unusedSimpArgs false
section
variable {F : Nat → Prop} {w w' : World} {y c : Nat} {R : RMem} {a : TS}
theorem ropen_range (o : OpT) (A : Option Addr) (n cap : Nat) (w : World) (h : RIs F w y R a) (hg : Good a c) (hc : c + 20 ≤ 100000) (hp : o.path.size ≤ 1000) (hf : o.flags < 0 ∨ 31 < o.flags) :
  Calls Tryz.prog 34 #[.pointer (some ⟨y, 0, none⟩), o.val A n cap] w (RAnsPost F y (a.openT o) w) := by
 unfold OpT.val
 have HT := Lib.hid h
 have HH := Lib.hid (fun W (hb : Below w.heap.size w W) => h.below hb)
 have HR := Lib.hid (show a.openT o = a by unfold TS.openT TS.openE; rw [flags_lo hf, if_pos rfl, if_neg (by decide)])
 clear h hg
 rcases hf with hf | hf
 ·skip
  go_enter Tryz.func34, Tryz.ntmps34
  go_upto_region 1 with (fail)
  obtain ⟨w1, hwe, HO1, HB1⟩ := asked w (oc o A n cap)
  rw [← hwe]
  clear hwe
  have ua0 := (HO1.out).b0.c8
  have ur0 := (HO1.out).b1.cf7
  have ul := (HO1.out).b1.lt
  go_wp2_with fail
  refine (failed_any _ _).mono ?_
  rintro e w5 ⟨rfl, hb5⟩
  have HOF := Lib.hid (HO1.out.below hb5)
  have HBF := Lib.hid (HB1.out.trans (hb5.mono HB1.out.size))
  clear hb5
  have vr0 := (HOF.out).b1.cf7
  have vl := (HOF.out).b1.lt
  go_wp2_with fail
  refine bodyPost_ret (v := .agg #[.int .i64 2, .int .i64 0, .slice none 0 0, .slice none 0 0, .int .i64 0, .int .i64 0, .int .i64 0]) (by simp [results, Tryz.results34, go_sem, vr0, vl]) rfl ?_
  rw [HR.out]
  exact rans_same HT.out (ans_set HBF.out (by omega) _ _ _ _ _ _ _)
 ·skip
  go_enter Tryz.func34, Tryz.ntmps34
  go_upto_region 1 with (fail)
  obtain ⟨w1, hwe, HO1, HB1⟩ := asked w (oc o A n cap)
  rw [← hwe]
  clear hwe
  have ua0 := (HO1.out).b0.c8
  have ur0 := (HO1.out).b1.cf7
  have ul := (HO1.out).b1.lt
  go_wp2_with fail
  refine (failed_any _ _).mono ?_
  rintro e w5 ⟨rfl, hb5⟩
  have HOF := Lib.hid (HO1.out.below hb5)
  have HBF := Lib.hid (HB1.out.trans (hb5.mono HB1.out.size))
  clear hb5
  have vr0 := (HOF.out).b1.cf7
  have vl := (HOF.out).b1.lt
  go_wp2_with fail
  refine bodyPost_ret (v := .agg #[.int .i64 2, .int .i64 0, .slice none 0 0, .slice none 0 0, .int .i64 0, .int .i64 0, .int .i64 0]) (by simp [results, Tryz.results34, go_sem, vr0, vl]) rfl ?_
  rw [HR.out]
  exact rans_same HT.out (ans_set HBF.out (by omega) _ _ _ _ _ _ _)
theorem ropen_bad (o : OpT) (A : Option Addr) (n cap : Nat) (w : World) (h : RIs F w y R a) (hg : Good a c) (hc : c + 20 ≤ 100000) (hp : o.path.size ≤ 1000) (h0 : 0 ≤ o.flags) (h1 : o.flags ≤ 31) (hf : flagsB o.flags = false) :
  Calls Tryz.prog 34 #[.pointer (some ⟨y, 0, none⟩), o.val A n cap] w (RAnsPost F y (a.openT o) w) := by
 unfold OpT.val
 have HT := Lib.hid h
 have HH := Lib.hid (fun W (hb : Below w.heap.size w W) => h.below hb)
 have HR := Lib.hid (show a.openT o = a by unfold TS.openT TS.openE; rw [hf, if_pos rfl, if_neg (by decide)])
 have HFL := Lib.hid hf
 clear h hg hf
 go_enter Tryz.func34, Tryz.ntmps34
 go_upto_region 1 with (fail)
 obtain ⟨w1, hwe, HO1, HB1⟩ := asked w (oc o A n cap)
 rw [← hwe]
 clear hwe
 have ua0 := (HO1.out).b0.c8
 have ur0 := (HO1.out).b1.cf7
 have ul := (HO1.out).b1.lt
 go_upto_region 2 with (fail)
 go_cut [48] from 14 to 48 (fun b wx => b = .bool (!flagsB o.flags) ∧ wx = w1)
 case first =>
  go_wp2
  all_goals
   go_meet
   refine ⟨?_, rfl⟩
   unfold flagsB
   simp_all
   try (rw [Bool.eq_iff_iff]; simp; omega)
 case rest =>
  obtain ⟨rfl, rfl⟩ := hcut
  rw [HFL.out]
  go_wp2_with fail
  refine (failed_any _ _).mono ?_
  rintro e w5 ⟨rfl, hb5⟩
  have HOF := Lib.hid (HO1.out.below hb5)
  have HBF := Lib.hid (HB1.out.trans (hb5.mono HB1.out.size))
  clear hb5
  have vr0 := (HOF.out).b1.cf7
  have vl := (HOF.out).b1.lt
  go_wp2_with fail
  refine bodyPost_ret (v := .agg #[.int .i64 2, .int .i64 0, .slice none 0 0, .slice none 0 0, .int .i64 0, .int .i64 0, .int .i64 0]) (by simp [results, Tryz.results34, go_sem, vr0, vl]) rfl ?_
  rw [HR.out]
  exact rans_same HT.out (ans_set HBF.out (by omega) _ _ _ _ _ _ _)
theorem ropen_par (o : OpT) (A : Option Addr) (n cap : Nat) (w : World) (h : RIs F w y R a) (hg : Good a c) (hc : c + 20 ≤ 100000) (hp : o.path.size ≤ 1000) (hf : flagsB o.flags = true) (he : (a.par o.path 43).2 ≠ 0) :
  Calls Tryz.prog 34 #[.pointer (some ⟨y, 0, none⟩), o.val A n cap] w (RAnsPost F y (a.openT o) w) := by
 unfold OpT.val
 have HT := Lib.hid h
 have HH := Lib.hid (fun W (hb : Below w.heap.size w W) => h.below hb)
 have hE : a.openE o = (a.par o.path 43).2 := by unfold TS.openE; rw [if_neg (by rw [hf]; decide), if_pos he]
 have HR := Lib.hid (show a.openT o = a by unfold TS.openT; rw [if_neg (by rw [hE]; exact he)])
 clear hE
 have HPA := Lib.hid (fun W (h : RIs F W y R a) => rparent_any o.path 43 W h hg (by omega) hp (by decide))
 have t9 : ((a.par o.path 43).2 != 0) = true := bne_iff_ne.2 he
 obtain ⟨f0, f1⟩ := flags_rng hf
 have HFL := Lib.hid hf
 clear h hg hf he
 go_enter Tryz.func34, Tryz.ntmps34
 go_upto_region 1 with (fail)
 obtain ⟨w1, hwe, HO1, HB1⟩ := asked w (oc o A n cap)
 rw [← hwe]
 clear hwe
 have ua0 := (HO1.out).b0.c8
 have ur0 := (HO1.out).b1.cf7
 have ul := (HO1.out).b1.lt
 go_upto_region 2 with (fail)
 go_cut [48] from 14 to 48 (fun b wx => b = .bool (!flagsB o.flags) ∧ wx = w1)
 case first =>
  go_wp2
  all_goals
   go_meet
   refine ⟨?_, rfl⟩
   unfold flagsB
   simp_all
   try (rw [Bool.eq_iff_iff]; simp; omega)
 case rest =>
  obtain ⟨rfl, rfl⟩ := hcut
  rw [HFL.out]
  go_wp2_with fail
  refine (HPA.out _ (HH.out _ HB1.out)).mono ?_
  rintro e w2 ⟨⟨d0, s0, rfl, -⟩, hb2⟩
  clear ua0 ur0 ul
  have HO2 := Lib.hid (HO1.out.below hb2)
  have HB2 := Lib.hid (HB1.out.trans (hb2.mono HB1.out.size))
  clear hb2
  have za0 := (HO2.out).b0.c8
  have zr0 := (HO2.out).b1.cf7
  have zl := (HO2.out).b1.lt
  go_wp2_with fail
  refine (failed_any _ _).mono ?_
  rintro e w5 ⟨rfl, hb5⟩
  have HOF := Lib.hid (HO2.out.below hb5)
  have HBF := Lib.hid (HB2.out.trans (hb5.mono HB2.out.size))
  clear hb5
  have vr0 := (HOF.out).b1.cf7
  have vl := (HOF.out).b1.lt
  go_wp2_with fail
  refine bodyPost_ret (v := .agg #[.int .i64 (a.par o.path 43).2, .int .i64 0, .slice none 0 0, .slice none 0 0, .int .i64 0, .int .i64 0, .int .i64 0]) (by simp [results, Tryz.results34, go_sem, vr0, vl]) rfl ?_
  rw [HR.out]
  exact rans_same HT.out (ans_set HBF.out (by omega) _ _ _ _ _ _ _)
theorem ropen_41 (o : OpT) (A : Option Addr) (n cap : Nat) (w : World) (h : RIs F w y R a) (hg : Good a c) (hc : c + 20 ≤ 100000) (hp : o.path.size ≤ 1000) (d id : Nat) (hd : a.par o.path 43 = (d, 0)) (hf : flagsB o.flags = true) (hid : a.find d (nameN o.path) = id) (hz : id ≠ 0) (h8 : o.flags / 8 % 2 = 1) :
  Calls Tryz.prog 34 #[.pointer (some ⟨y, 0, none⟩), o.val A n cap] w (RAnsPost F y (a) w) := by
 unfold OpT.val
 have HT := Lib.hid h
 have HH := Lib.hid (fun W (hb : Below w.heap.size w W) => h.below hb)
 have HPA := Lib.hid (fun W (h : RIs F W y R a) => show Calls Tryz.prog 74 #[.pointer (some ⟨y, 0, none⟩), .string o.path, .int .i64 43] W (fun e w' => e = .returned (.tuple #[.int .i64 (d : Nat), .string (nameN o.path), .int .i64 0]) ∧ Below W.heap.size W w') from
  (rparent_any o.path 43 W h hg (by omega) hp (by decide)).mono fun e w' hx => by
   obtain ⟨⟨d0, s0, rfl, hq⟩, hb⟩ := hx
   rw [hd] at hq
   obtain ⟨rfl, rfl⟩ := hq rfl
   rw [hd]
   exact ⟨rfl, hb⟩)
 have hfew := hg.few
 have hdir := par_dir (show (43 : Int) ≠ 0 by decide) (show (a.par o.path 43).2 = 0 by rw [hd])
 rw [hd] at hdir
 have hdl := (hg.in_last (k := d) (by rw [hdir]; decide)).2
 have HFI := Lib.hid (fun W (h : RIs F W y R a) => show Calls Tryz.prog 75 #[.pointer (some ⟨y, 0, none⟩), .int .i64 (d : Nat), .string (nameN o.path)] W (fun e w' => e = .returned (.int .i64 (id : Nat)) ∧ W = w') from by
  have := rfind_any d (nameN o.path) W h hdl (by omega) (Nat.le_trans (hg.len d) (by omega))
  rw [hid] at this
  exact this)
 obtain ⟨f0, f1⟩ := flags_rng hf
 have HFL := Lib.hid hf
 have hlive : (a.nd id).kind ≠ 0 := by rw [← hid]; exact hg.find_live (by rw [hid]; exact hz)
 have hil := (hg.in_last hlive).2
 have t1 : (((id : Nat) : Int) != 0) = true := bne_iff_ne.2 (by omega)
 have t2 : (((id : Nat) : Int) == 0) = false := beq_eq_false_iff_ne.2 (by omega)
 have HIB := Lib.hid hil
 have hin : ((id : Nat) : Int) < ((a.last + 1 : Nat) : Int) := by omega
 have t8 : (o.flags / 8 % 2 == 1) = true := beq_iff_eq.2 h8
 clear h hg hd hid hz hf hfew hdir hdl hlive hil h8
 go_enter Tryz.func34, Tryz.ntmps34
 go_upto_region 1 with (fail)
 obtain ⟨w1, hwe, HO1, HB1⟩ := asked w (oc o A n cap)
 rw [← hwe]
 clear hwe
 have ua0 := (HO1.out).b0.c8
 have ur0 := (HO1.out).b1.cf7
 have ul := (HO1.out).b1.lt
 go_upto_region 2 with (fail)
 go_cut [48] from 14 to 48 (fun b wx => b = .bool (!flagsB o.flags) ∧ wx = w1)
 case first =>
  go_wp2
  all_goals
   go_meet
   refine ⟨?_, rfl⟩
   unfold flagsB
   simp_all
   try (rw [Bool.eq_iff_iff]; simp; omega)
 case rest =>
  obtain ⟨rfl, rfl⟩ := hcut
  rw [HFL.out]
  go_wp2_with fail
  refine (HPA.out _ (HH.out _ HB1.out)).mono ?_
  rintro e w2 ⟨rfl, hb2⟩
  clear ua0 ur0 ul
  have HO2 := Lib.hid (HO1.out.below hb2)
  have HB2 := Lib.hid (HB1.out.trans (hb2.mono HB1.out.size))
  clear hb2
  have za0 := (HO2.out).b0.c8
  have zr0 := (HO2.out).b1.cf7
  have zl := (HO2.out).b1.lt
  have HR2 := Lib.hid (HH.out _ HB2.out)
  go_wp2_with fail
  refine (HFI.out _ HR2.out).mono ?_
  rintro e w' ⟨rfl, h8⟩
  obtain rfl := h8
  go_wp2_with fail
  refine (failed_any _ _).mono ?_
  rintro e w5 ⟨rfl, hb5⟩
  have HOF := Lib.hid (HO2.out.below hb5)
  have HBF := Lib.hid (HB2.out.trans (hb5.mono HB2.out.size))
  clear hb5
  have vr0 := (HOF.out).b1.cf7
  have vl := (HOF.out).b1.lt
  go_wp2_with fail
  refine bodyPost_ret (v := .agg #[.int .i64 41, .int .i64 0, .slice none 0 0, .slice none 0 0, .int .i64 0, .int .i64 0, .int .i64 0]) (by simp [results, Tryz.results34, go_sem, vr0, vl]) rfl ?_
  exact rans_same HT.out (ans_set HBF.out (by omega) _ _ _ _ _ _ _)
theorem ropen_43 (o : OpT) (A : Option Addr) (n cap : Nat) (w : World) (h : RIs F w y R a) (hg : Good a c) (hc : c + 20 ≤ 100000) (hp : o.path.size ≤ 1000) (d id : Nat) (hd : a.par o.path 43 = (d, 0)) (hf : flagsB o.flags = true) (hid : a.find d (nameN o.path) = id) (hz : id ≠ 0) (h8 : ¬ o.flags / 8 % 2 = 1) (hk : (a.nd id).kind = 2) :
  Calls Tryz.prog 34 #[.pointer (some ⟨y, 0, none⟩), o.val A n cap] w (RAnsPost F y (a) w) := by
 unfold OpT.val
 have HT := Lib.hid h
 have HH := Lib.hid (fun W (hb : Below w.heap.size w W) => h.below hb)
 have HPA := Lib.hid (fun W (h : RIs F W y R a) => show Calls Tryz.prog 74 #[.pointer (some ⟨y, 0, none⟩), .string o.path, .int .i64 43] W (fun e w' => e = .returned (.tuple #[.int .i64 (d : Nat), .string (nameN o.path), .int .i64 0]) ∧ Below W.heap.size W w') from
  (rparent_any o.path 43 W h hg (by omega) hp (by decide)).mono fun e w' hx => by
   obtain ⟨⟨d0, s0, rfl, hq⟩, hb⟩ := hx
   rw [hd] at hq
   obtain ⟨rfl, rfl⟩ := hq rfl
   rw [hd]
   exact ⟨rfl, hb⟩)
 have hfew := hg.few
 have hdir := par_dir (show (43 : Int) ≠ 0 by decide) (show (a.par o.path 43).2 = 0 by rw [hd])
 rw [hd] at hdir
 have hdl := (hg.in_last (k := d) (by rw [hdir]; decide)).2
 have HFI := Lib.hid (fun W (h : RIs F W y R a) => show Calls Tryz.prog 75 #[.pointer (some ⟨y, 0, none⟩), .int .i64 (d : Nat), .string (nameN o.path)] W (fun e w' => e = .returned (.int .i64 (id : Nat)) ∧ W = w') from by
  have := rfind_any d (nameN o.path) W h hdl (by omega) (Nat.le_trans (hg.len d) (by omega))
  rw [hid] at this
  exact this)
 obtain ⟨f0, f1⟩ := flags_rng hf
 have HFL := Lib.hid hf
 have hlive : (a.nd id).kind ≠ 0 := by rw [← hid]; exact hg.find_live (by rw [hid]; exact hz)
 have hil := (hg.in_last hlive).2
 have t1 : (((id : Nat) : Int) != 0) = true := bne_iff_ne.2 (by omega)
 have t2 : (((id : Nat) : Int) == 0) = false := beq_eq_false_iff_ne.2 (by omega)
 have HIB := Lib.hid hil
 have hin : ((id : Nat) : Int) < ((a.last + 1 : Nat) : Int) := by omega
 have t8 : (o.flags / 8 % 2 == 1) = false := beq_eq_false_iff_ne.2 h8
 generalize hkd : (a.nd id).kind = kd at *
 have HKD := Lib.hid hkd
 generalize hnn : a.last + 1 = n1 at *
 have hnb : n1 ≤ 1000001 := by omega
 have HNN := Lib.hid hnn
 subst hk
 clear h hg hd hid hz hf hfew hdir hdl hlive hil h8 hnn hkd
 go_enter Tryz.func34, Tryz.ntmps34
 go_upto_region 1 with (fail)
 obtain ⟨w1, hwe, HO1, HB1⟩ := asked w (oc o A n cap)
 rw [← hwe]
 clear hwe
 have ua0 := (HO1.out).b0.c8
 have ur0 := (HO1.out).b1.cf7
 have ul := (HO1.out).b1.lt
 go_upto_region 2 with (fail)
 go_cut [48] from 14 to 48 (fun b wx => b = .bool (!flagsB o.flags) ∧ wx = w1)
 case first =>
  go_wp2
  all_goals
   go_meet
   refine ⟨?_, rfl⟩
   unfold flagsB
   simp_all
   try (rw [Bool.eq_iff_iff]; simp; omega)
 case rest =>
  obtain ⟨rfl, rfl⟩ := hcut
  rw [HFL.out]
  go_wp2_with fail
  refine (HPA.out _ (HH.out _ HB1.out)).mono ?_
  rintro e w2 ⟨rfl, hb2⟩
  clear ua0 ur0 ul
  have HO2 := Lib.hid (HO1.out.below hb2)
  have HB2 := Lib.hid (HB1.out.trans (hb2.mono HB1.out.size))
  clear hb2
  have za0 := (HO2.out).b0.c8
  have zr0 := (HO2.out).b1.cf7
  have zl := (HO2.out).b1.lt
  have HR2 := Lib.hid (HH.out _ HB2.out)
  go_wp2_with fail
  refine (HFI.out _ HR2.out).mono ?_
  rintro e w' ⟨rfl, h8⟩
  obtain rfl := h8
  obtain ⟨r0, r1⟩ := HR2.out.cells
  rw [HNN.out] at r0
  have k0 := (HR2.out.cel id HIB.out).1
  rw [HKD.out] at k0
  go_wp2_with fail
  refine (failed_any _ _).mono ?_
  rintro e w5 ⟨rfl, hb5⟩
  have HOF := Lib.hid (HO2.out.below hb5)
  have HBF := Lib.hid (HB2.out.trans (hb5.mono HB2.out.size))
  clear hb5
  have vr0 := (HOF.out).b1.cf7
  have vl := (HOF.out).b1.lt
  go_wp2_with fail
  refine bodyPost_ret (v := .agg #[.int .i64 43, .int .i64 0, .slice none 0 0, .slice none 0 0, .int .i64 0, .int .i64 0, .int .i64 0]) (by simp [results, Tryz.results34, go_sem, vr0, vl]) rfl ?_
  exact rans_same HT.out (ans_set HBF.out (by omega) _ _ _ _ _ _ _)
theorem ropen_47o (o : OpT) (A : Option Addr) (n cap : Nat) (w : World) (h : RIs F w y R a) (hg : Good a c) (hc : c + 20 ≤ 100000) (hp : o.path.size ≤ 1000) (d id : Nat) (hd : a.par o.path 43 = (d, 0)) (hf : flagsB o.flags = true) (hid : a.find d (nameN o.path) = id) (hz : id ≠ 0) (h8 : ¬ o.flags / 8 % 2 = 1) (hk : (a.nd id).kind ≠ 2) (hu : usedN a.op = 8) :
  Calls Tryz.prog 34 #[.pointer (some ⟨y, 0, none⟩), o.val A n cap] w (RAnsPost F y (a) w) := by
 unfold OpT.val
 have HT := Lib.hid h
 have HH := Lib.hid (fun W (hb : Below w.heap.size w W) => h.below hb)
 have HPA := Lib.hid (fun W (h : RIs F W y R a) => show Calls Tryz.prog 74 #[.pointer (some ⟨y, 0, none⟩), .string o.path, .int .i64 43] W (fun e w' => e = .returned (.tuple #[.int .i64 (d : Nat), .string (nameN o.path), .int .i64 0]) ∧ Below W.heap.size W w') from
  (rparent_any o.path 43 W h hg (by omega) hp (by decide)).mono fun e w' hx => by
   obtain ⟨⟨d0, s0, rfl, hq⟩, hb⟩ := hx
   rw [hd] at hq
   obtain ⟨rfl, rfl⟩ := hq rfl
   rw [hd]
   exact ⟨rfl, hb⟩)
 have hfew := hg.few
 have hdir := par_dir (show (43 : Int) ≠ 0 by decide) (show (a.par o.path 43).2 = 0 by rw [hd])
 rw [hd] at hdir
 have hdl := (hg.in_last (k := d) (by rw [hdir]; decide)).2
 have HFI := Lib.hid (fun W (h : RIs F W y R a) => show Calls Tryz.prog 75 #[.pointer (some ⟨y, 0, none⟩), .int .i64 (d : Nat), .string (nameN o.path)] W (fun e w' => e = .returned (.int .i64 (id : Nat)) ∧ W = w') from by
  have := rfind_any d (nameN o.path) W h hdl (by omega) (Nat.le_trans (hg.len d) (by omega))
  rw [hid] at this
  exact this)
 obtain ⟨f0, f1⟩ := flags_rng hf
 have HFL := Lib.hid hf
 have hlive : (a.nd id).kind ≠ 0 := by rw [← hid]; exact hg.find_live (by rw [hid]; exact hz)
 have hil := (hg.in_last hlive).2
 have t1 : (((id : Nat) : Int) != 0) = true := bne_iff_ne.2 (by omega)
 have t2 : (((id : Nat) : Int) == 0) = false := beq_eq_false_iff_ne.2 (by omega)
 have HIB := Lib.hid hil
 have hin : ((id : Nat) : Int) < ((a.last + 1 : Nat) : Int) := by omega
 have t8 : (o.flags / 8 % 2 == 1) = false := beq_eq_false_iff_ne.2 h8
 have t5 : ((a.nd id).kind == 2) = false := beq_eq_false_iff_ne.2 hk
 have HUS := Lib.hid (fun W (h : RIs F W y R a) => rtused_any W h)
 rw [hu] at HUS
 generalize hkd : (a.nd id).kind = kd at *
 have HKD := Lib.hid hkd
 generalize hnn : a.last + 1 = n1 at *
 have hnb : n1 ≤ 1000001 := by omega
 have HNN := Lib.hid hnn
 clear h hg hd hid hz hf hfew hdir hdl hlive hil h8 hnn hkd hk hu
 go_enter Tryz.func34, Tryz.ntmps34
 go_upto_region 1 with (fail)
 obtain ⟨w1, hwe, HO1, HB1⟩ := asked w (oc o A n cap)
 rw [← hwe]
 clear hwe
 have ua0 := (HO1.out).b0.c8
 have ur0 := (HO1.out).b1.cf7
 have ul := (HO1.out).b1.lt
 go_upto_region 2 with (fail)
 go_cut [48] from 14 to 48 (fun b wx => b = .bool (!flagsB o.flags) ∧ wx = w1)
 case first =>
  go_wp2
  all_goals
   go_meet
   refine ⟨?_, rfl⟩
   unfold flagsB
   simp_all
   try (rw [Bool.eq_iff_iff]; simp; omega)
 case rest =>
  obtain ⟨rfl, rfl⟩ := hcut
  rw [HFL.out]
  go_wp2_with fail
  refine (HPA.out _ (HH.out _ HB1.out)).mono ?_
  rintro e w2 ⟨rfl, hb2⟩
  clear ua0 ur0 ul
  have HO2 := Lib.hid (HO1.out.below hb2)
  have HB2 := Lib.hid (HB1.out.trans (hb2.mono HB1.out.size))
  clear hb2
  have za0 := (HO2.out).b0.c8
  have zr0 := (HO2.out).b1.cf7
  have zl := (HO2.out).b1.lt
  have HR2 := Lib.hid (HH.out _ HB2.out)
  go_wp2_with fail
  refine (HFI.out _ HR2.out).mono ?_
  rintro e w' ⟨rfl, h8⟩
  obtain rfl := h8
  obtain ⟨r0, r1⟩ := HR2.out.cells
  rw [HNN.out] at r0
  have k0 := (HR2.out.cel id HIB.out).1
  rw [HKD.out] at k0
  go_wp2_with fail
  refine (HUS.out _ HR2.out).mono ?_
  rintro e w3 ⟨⟨A3, c3, rfl⟩, hb3⟩
  have HO3 := Lib.hid (HO2.out.below hb3)
  have HB3 := Lib.hid (HB2.out.trans (hb3.mono HB2.out.size))
  clear za0 zr0 zl r0 r1 k0 hb3
  have xa0 := (HO3.out).b0.c8
  have xr0 := (HO3.out).b1.cf7
  have xl := (HO3.out).b1.lt
  go_wp2_with fail
  refine (failed_any _ _).mono ?_
  rintro e w5 ⟨rfl, hb5⟩
  have HOF := Lib.hid (HO3.out.below hb5)
  have HBF := Lib.hid (HB3.out.trans (hb5.mono HB3.out.size))
  clear hb5
  have vr0 := (HOF.out).b1.cf7
  have vl := (HOF.out).b1.lt
  go_wp2_with fail
  refine bodyPost_ret (v := .agg #[.int .i64 47, .int .i64 0, .slice none 0 0, .slice none 0 0, .int .i64 0, .int .i64 0, .int .i64 0]) (by simp [results, Tryz.results34, go_sem, vr0, vl]) rfl ?_
  exact rans_same HT.out (ans_set HBF.out (by omega) _ _ _ _ _ _ _)
theorem ropen_40 (o : OpT) (A : Option Addr) (n cap : Nat) (w : World) (h : RIs F w y R a) (hg : Good a c) (hc : c + 20 ≤ 100000) (hp : o.path.size ≤ 1000) (d : Nat) (hd : a.par o.path 43 = (d, 0)) (hf : flagsB o.flags = true) (hid : a.find d (nameN o.path) = 0) (h4 : o.flags / 4 % 2 = 0) :
  Calls Tryz.prog 34 #[.pointer (some ⟨y, 0, none⟩), o.val A n cap] w (RAnsPost F y (a) w) := by
 unfold OpT.val
 have HT := Lib.hid h
 have HH := Lib.hid (fun W (hb : Below w.heap.size w W) => h.below hb)
 have HPA := Lib.hid (fun W (h : RIs F W y R a) => show Calls Tryz.prog 74 #[.pointer (some ⟨y, 0, none⟩), .string o.path, .int .i64 43] W (fun e w' => e = .returned (.tuple #[.int .i64 (d : Nat), .string (nameN o.path), .int .i64 0]) ∧ Below W.heap.size W w') from
  (rparent_any o.path 43 W h hg (by omega) hp (by decide)).mono fun e w' hx => by
   obtain ⟨⟨d0, s0, rfl, hq⟩, hb⟩ := hx
   rw [hd] at hq
   obtain ⟨rfl, rfl⟩ := hq rfl
   rw [hd]
   exact ⟨rfl, hb⟩)
 have hfew := hg.few
 have hdir := par_dir (show (43 : Int) ≠ 0 by decide) (show (a.par o.path 43).2 = 0 by rw [hd])
 rw [hd] at hdir
 have hdl := (hg.in_last (k := d) (by rw [hdir]; decide)).2
 have HFI := Lib.hid (fun W (h : RIs F W y R a) => show Calls Tryz.prog 75 #[.pointer (some ⟨y, 0, none⟩), .int .i64 (d : Nat), .string (nameN o.path)] W (fun e w' => e = .returned (.int .i64 0) ∧ W = w') from by
  have := rfind_any d (nameN o.path) W h hdl (by omega) (Nat.le_trans (hg.len d) (by omega))
  rw [hid] at this
  exact this)
 obtain ⟨f0, f1⟩ := flags_rng hf
 have HFL := Lib.hid hf
 have t4 : (o.flags / 4 % 2 == 0) = true := beq_iff_eq.2 h4
 clear h hg hd hid hf hfew hdir hdl h4
 go_enter Tryz.func34, Tryz.ntmps34
 go_upto_region 1 with (fail)
 obtain ⟨w1, hwe, HO1, HB1⟩ := asked w (oc o A n cap)
 rw [← hwe]
 clear hwe
 have ua0 := (HO1.out).b0.c8
 have ur0 := (HO1.out).b1.cf7
 have ul := (HO1.out).b1.lt
 go_upto_region 2 with (fail)
 go_cut [48] from 14 to 48 (fun b wx => b = .bool (!flagsB o.flags) ∧ wx = w1)
 case first =>
  go_wp2
  all_goals
   go_meet
   refine ⟨?_, rfl⟩
   unfold flagsB
   simp_all
   try (rw [Bool.eq_iff_iff]; simp; omega)
 case rest =>
  obtain ⟨rfl, rfl⟩ := hcut
  rw [HFL.out]
  go_wp2_with fail
  refine (HPA.out _ (HH.out _ HB1.out)).mono ?_
  rintro e w2 ⟨rfl, hb2⟩
  clear ua0 ur0 ul
  have HO2 := Lib.hid (HO1.out.below hb2)
  have HB2 := Lib.hid (HB1.out.trans (hb2.mono HB1.out.size))
  clear hb2
  have za0 := (HO2.out).b0.c8
  have zr0 := (HO2.out).b1.cf7
  have zl := (HO2.out).b1.lt
  have HR2 := Lib.hid (HH.out _ HB2.out)
  go_wp2_with fail
  refine (HFI.out _ HR2.out).mono ?_
  rintro e w' ⟨rfl, h8⟩
  obtain rfl := h8
  go_wp2_with fail
  refine (failed_any _ _).mono ?_
  rintro e w5 ⟨rfl, hb5⟩
  have HOF := Lib.hid (HO2.out.below hb5)
  have HBF := Lib.hid (HB2.out.trans (hb5.mono HB2.out.size))
  clear hb5
  have vr0 := (HOF.out).b1.cf7
  have vl := (HOF.out).b1.lt
  go_wp2_with fail
  refine bodyPost_ret (v := .agg #[.int .i64 40, .int .i64 0, .slice none 0 0, .slice none 0 0, .int .i64 0, .int .i64 0, .int .i64 0]) (by simp [results, Tryz.results34, go_sem, vr0, vl]) rfl ?_
  exact rans_same HT.out (ans_set HBF.out (by omega) _ _ _ _ _ _ _)
theorem ropen_47n (o : OpT) (A : Option Addr) (n cap : Nat) (w : World) (h : RIs F w y R a) (hg : Good a c) (hc : c + 20 ≤ 100000) (hp : o.path.size ≤ 1000) (d : Nat) (hd : a.par o.path 43 = (d, 0)) (hf : flagsB o.flags = true) (hid : a.find d (nameN o.path) = 0) (h4 : ¬ o.flags / 4 % 2 = 0) (hu : usedN a.op = 8) :
  Calls Tryz.prog 34 #[.pointer (some ⟨y, 0, none⟩), o.val A n cap] w (RAnsPost F y (a) w) := by
 unfold OpT.val
 have HT := Lib.hid h
 have HH := Lib.hid (fun W (hb : Below w.heap.size w W) => h.below hb)
 have HPA := Lib.hid (fun W (h : RIs F W y R a) => show Calls Tryz.prog 74 #[.pointer (some ⟨y, 0, none⟩), .string o.path, .int .i64 43] W (fun e w' => e = .returned (.tuple #[.int .i64 (d : Nat), .string (nameN o.path), .int .i64 0]) ∧ Below W.heap.size W w') from
  (rparent_any o.path 43 W h hg (by omega) hp (by decide)).mono fun e w' hx => by
   obtain ⟨⟨d0, s0, rfl, hq⟩, hb⟩ := hx
   rw [hd] at hq
   obtain ⟨rfl, rfl⟩ := hq rfl
   rw [hd]
   exact ⟨rfl, hb⟩)
 have hfew := hg.few
 have hdir := par_dir (show (43 : Int) ≠ 0 by decide) (show (a.par o.path 43).2 = 0 by rw [hd])
 rw [hd] at hdir
 have hdl := (hg.in_last (k := d) (by rw [hdir]; decide)).2
 have HFI := Lib.hid (fun W (h : RIs F W y R a) => show Calls Tryz.prog 75 #[.pointer (some ⟨y, 0, none⟩), .int .i64 (d : Nat), .string (nameN o.path)] W (fun e w' => e = .returned (.int .i64 0) ∧ W = w') from by
  have := rfind_any d (nameN o.path) W h hdl (by omega) (Nat.le_trans (hg.len d) (by omega))
  rw [hid] at this
  exact this)
 obtain ⟨f0, f1⟩ := flags_rng hf
 have HFL := Lib.hid hf
 have t4 : (o.flags / 4 % 2 == 0) = false := beq_eq_false_iff_ne.2 h4
 have HUS := Lib.hid (fun W (h : RIs F W y R a) => rtused_any W h)
 rw [hu] at HUS
 clear h hg hd hid hf hfew hdir hdl h4 hu
 go_enter Tryz.func34, Tryz.ntmps34
 go_upto_region 1 with (fail)
 obtain ⟨w1, hwe, HO1, HB1⟩ := asked w (oc o A n cap)
 rw [← hwe]
 clear hwe
 have ua0 := (HO1.out).b0.c8
 have ur0 := (HO1.out).b1.cf7
 have ul := (HO1.out).b1.lt
 go_upto_region 2 with (fail)
 go_cut [48] from 14 to 48 (fun b wx => b = .bool (!flagsB o.flags) ∧ wx = w1)
 case first =>
  go_wp2
  all_goals
   go_meet
   refine ⟨?_, rfl⟩
   unfold flagsB
   simp_all
   try (rw [Bool.eq_iff_iff]; simp; omega)
 case rest =>
  obtain ⟨rfl, rfl⟩ := hcut
  rw [HFL.out]
  go_wp2_with fail
  refine (HPA.out _ (HH.out _ HB1.out)).mono ?_
  rintro e w2 ⟨rfl, hb2⟩
  clear ua0 ur0 ul
  have HO2 := Lib.hid (HO1.out.below hb2)
  have HB2 := Lib.hid (HB1.out.trans (hb2.mono HB1.out.size))
  clear hb2
  have za0 := (HO2.out).b0.c8
  have zr0 := (HO2.out).b1.cf7
  have zl := (HO2.out).b1.lt
  have HR2 := Lib.hid (HH.out _ HB2.out)
  go_wp2_with fail
  refine (HFI.out _ HR2.out).mono ?_
  rintro e w' ⟨rfl, h8⟩
  obtain rfl := h8
  obtain ⟨r0, r1⟩ := HR2.out.cells
  go_wp2_with fail
  refine (HUS.out _ HR2.out).mono ?_
  rintro e w3 ⟨⟨A3, c3, rfl⟩, hb3⟩
  have HO3 := Lib.hid (HO2.out.below hb3)
  have HB3 := Lib.hid (HB2.out.trans (hb3.mono HB2.out.size))
  clear za0 zr0 zl r0 r1 hb3
  have xa0 := (HO3.out).b0.c8
  have xr0 := (HO3.out).b1.cf7
  have xl := (HO3.out).b1.lt
  go_wp2_with fail
  refine (failed_any _ _).mono ?_
  rintro e w5 ⟨rfl, hb5⟩
  have HOF := Lib.hid (HO3.out.below hb5)
  have HBF := Lib.hid (HB3.out.trans (hb5.mono HB3.out.size))
  clear hb5
  have vr0 := (HOF.out).b1.cf7
  have vl := (HOF.out).b1.lt
  go_wp2_with fail
  refine bodyPost_ret (v := .agg #[.int .i64 47, .int .i64 0, .slice none 0 0, .slice none 0 0, .int .i64 0, .int .i64 0, .int .i64 0]) (by simp [results, Tryz.results34, go_sem, vr0, vl]) rfl ?_
  exact rans_same HT.out (ans_set HBF.out (by omega) _ _ _ _ _ _ _)
end
end Go.Proofs.YtpkhglfhpggceaaGreatDoor
namespace Go.Proofs.YtpkhglfhpggceaaGreatDoor
set_option maxRecDepth 100000
set_option maxHeartbeats 16000000
open Go.RowKit
set_option linter.unusedVariables false
set_option linter.unusedSimpArgs false
section
variable {F : Nat → Prop} {w w' : World} {y c : Nat} {R : RMem} {a : TS}
theorem ropen_old (o : OpT) (A : Option Addr) (n cap : Nat) (w : World) (h : RIs F w y R a) (hg : Good a c) (hc : c + 20 ≤ 100000) (hp : o.path.size ≤ 1000) (d id : Nat) (hd : a.par o.path 43 = (d, 0)) (hf : flagsB o.flags = true) (hid : a.find d (nameN o.path) = id) (hz : id ≠ 0) (h8 : ¬ o.flags / 8 % 2 = 1) (hk : (a.nd id).kind ≠ 2) (hu : usedN a.op ≠ 8) (h16 : ¬ o.flags / 16 % 2 = 1) :
  Calls Tryz.prog 34 #[.pointer (some ⟨y, 0, none⟩), o.val A n cap] w (RAnsPost F y (opensT a (id : Int) (o.flags % 4)) w) := by
 unfold OpT.val
 have HT := Lib.hid h
 have HH := Lib.hid (fun W (hb : Below w.heap.size w W) => h.below hb)
 have HPA := Lib.hid (fun W (h : RIs F W y R a) => show Calls Tryz.prog 74 #[.pointer (some ⟨y, 0, none⟩), .string o.path, .int .i64 43] W (fun e w' => e = .returned (.tuple #[.int .i64 (d : Nat), .string (nameN o.path), .int .i64 0]) ∧ Below W.heap.size W w') from
  (rparent_any o.path 43 W h hg (by omega) hp (by decide)).mono fun e w' hx => by
   obtain ⟨⟨d0, s0, rfl, hq⟩, hb⟩ := hx
   rw [hd] at hq
   obtain ⟨rfl, rfl⟩ := hq rfl
   rw [hd]
   exact ⟨rfl, hb⟩)
 have hfew := hg.few
 have hdir := par_dir (show (43 : Int) ≠ 0 by decide) (show (a.par o.path 43).2 = 0 by rw [hd])
 rw [hd] at hdir
 have hdl := (hg.in_last (k := d) (by rw [hdir]; decide)).2
 have HFI := Lib.hid (fun W (h : RIs F W y R a) => show Calls Tryz.prog 75 #[.pointer (some ⟨y, 0, none⟩), .int .i64 (d : Nat), .string (nameN o.path)] W (fun e w' => e = .returned (.int .i64 (id : Nat)) ∧ W = w') from by
  have := rfind_any d (nameN o.path) W h hdl (by omega) (Nat.le_trans (hg.len d) (by omega))
  rw [hid] at this
  exact this)
 obtain ⟨f0, f1⟩ := flags_rng hf
 have HFL := Lib.hid hf
 have hlive : (a.nd id).kind ≠ 0 := by rw [← hid]; exact hg.find_live (by rw [hid]; exact hz)
 have hil := (hg.in_last hlive).2
 have t1 : (((id : Nat) : Int) != 0) = true := bne_iff_ne.2 (by omega)
 have t2 : (((id : Nat) : Int) == 0) = false := beq_eq_false_iff_ne.2 (by omega)
 have HIB := Lib.hid hil
 have hin : ((id : Nat) : Int) < ((a.last + 1 : Nat) : Int) := by omega
 have t8 : (o.flags / 8 % 2 == 1) = false := beq_eq_false_iff_ne.2 h8
 have t5 : ((a.nd id).kind == 2) = false := beq_eq_false_iff_ne.2 hk
 have t16 : (o.flags / 16 % 2 == 1) = false := beq_eq_false_iff_ne.2 h16
 have HUS := Lib.hid (fun W (h : RIs F W y R a) => rtused_any W h)
 have tu : (((usedN a.op : Nat) : Int) == 8) = false := beq_eq_false_iff_ne.2 (by omega)
 generalize usedN a.op = us at *
 generalize hkd : (a.nd id).kind = kd at *
 have HKD := Lib.hid hkd
 generalize hnn : a.last + 1 = n1 at *
 have hnb : n1 ≤ 1000001 := by omega
 have HNN := Lib.hid hnn
 clear h hg hd hid hz hf hfew hdir hdl hlive hil h8 hnn hkd hk hu h16
 go_enter Tryz.func34, Tryz.ntmps34
 go_upto_region 1 with (fail)
 obtain ⟨w1, hwe, HO1, HB1⟩ := asked w (oc o A n cap)
 rw [← hwe]
 clear hwe
 have ua0 := (HO1.out).b0.c8
 have ur0 := (HO1.out).b1.cf7
 have ul := (HO1.out).b1.lt
 go_upto_region 2 with (fail)
 go_cut [48] from 14 to 48 (fun b wx => b = .bool (!flagsB o.flags) ∧ wx = w1)
 case first =>
  go_wp2
  all_goals
   go_meet
   refine ⟨?_, rfl⟩
   unfold flagsB
   simp_all
   try (rw [Bool.eq_iff_iff]; simp; omega)
 case rest =>
  obtain ⟨rfl, rfl⟩ := hcut
  rw [HFL.out]
  go_wp2_with fail
  refine (HPA.out _ (HH.out _ HB1.out)).mono ?_
  rintro e w2 ⟨rfl, hb2⟩
  clear ua0 ur0 ul
  have HO2 := Lib.hid (HO1.out.below hb2)
  have HB2 := Lib.hid (HB1.out.trans (hb2.mono HB1.out.size))
  clear hb2
  have za0 := (HO2.out).b0.c8
  have zr0 := (HO2.out).b1.cf7
  have zl := (HO2.out).b1.lt
  have HR2 := Lib.hid (HH.out _ HB2.out)
  go_wp2_with fail
  refine (HFI.out _ HR2.out).mono ?_
  rintro e w' ⟨rfl, h8⟩
  obtain rfl := h8
  obtain ⟨r0, r1⟩ := HR2.out.cells
  rw [HNN.out] at r0
  have k0 := (HR2.out.cel id HIB.out).1
  rw [HKD.out] at k0
  go_wp2_with fail
  refine (HUS.out _ HR2.out).mono ?_
  rintro e w3 ⟨⟨A3, c3, rfl⟩, hb3⟩
  have HO3 := Lib.hid (HO2.out.below hb3)
  have HB3 := Lib.hid (HB2.out.trans (hb3.mono HB2.out.size))
  clear za0 zr0 zl r0 r1 k0 hb3
  have xa0 := (HO3.out).b0.c8
  have xr0 := (HO3.out).b1.cf7
  have xl := (HO3.out).b1.lt
  have HFL0 : Hid (∀ j, F j → j < w.heap.size) := Lib.hid fun j e => HT.out.lt j e
  have HFF : Hid (∀ j, F j → F j ∨ w.heap.size ≤ j) := Lib.hid fun j hj => .inl hj
  have HN0 : Hid (¬ F w.heap.size) := Lib.hid fun e => by have := HFL0.out _ e; omega
  have HN1 : Hid (¬ F (w.heap.size + 1)) := Lib.hid fun e => by have := HFL0.out _ e; omega
  have HR3 := Lib.hid (HH.out _ HB3.out)
  have HTW3 := Lib.hid (Turn.of_below (S := F) HB3.out)
  have HS3 : Hid (RSt F w3 y a) := Lib.hid ⟨R, HR3.out⟩
  go_upto_region 20 with (fail)
  clear xa0 xr0 xl
  obtain ⟨R6, h6⟩ := HS3.out
  have r1 := h6.cells.2
  have HR6 := Lib.hid h6
  have HWL := Lib.hid HO3.out.b1.lt
  have a6 := HO3.out.b0.cell 6
  simp at a6
  clear h6
  go_wp2_with fail
  refine (rtopen_any _ _ _ HR6.out).mono ?_
  rintro e w9 ⟨⟨i, j, rfl⟩, R9, h9, hTu9, -⟩
  have HOF := Lib.hid (HO3.out.turn2 hTu9 HN0.out HN1.out)
  have HR9 := Lib.hid h9
  have HTu9 := Lib.hid hTu9
  clear h9 hTu9 r1 a6
  have vr0 := (HOF.out).b1.cf7
  have vl := (HOF.out).b1.lt
  go_wp2_with fail
  refine bodyPost_ret (v := .agg #[.int .i64 0, .int .i64 i, .slice none 0 0, .slice none 0 0, .int .i64 0, .int .i64 0, .int .i64 0]) (by simp [results, Tryz.results34, go_sem, vr0, vl]) rfl ?_
  exact rans_fin (F' := F) (wX := w3) HT.out ⟨_, HR9.out.grown w3 (by have := HT.out.w0; have := HTW3.out.size; omega)⟩ (HTW3.out.trans HTu9.out (fun i hi hF => (HFF.out i hF).resolve_right (by omega))) HTW3.out.size HFF.out (by omega) HWL.out HN1.out
theorem ropen_old_cut (o : OpT) (A : Option Addr) (n cap : Nat) (w : World) (h : RIs F w y R a) (hg : Good a c) (hc : c + 20 ≤ 100000) (hp : o.path.size ≤ 1000) (d id : Nat) (hd : a.par o.path 43 = (d, 0)) (hf : flagsB o.flags = true) (hid : a.find d (nameN o.path) = id) (hz : id ≠ 0) (h8 : ¬ o.flags / 8 % 2 = 1) (hk : (a.nd id).kind ≠ 2) (hu : usedN a.op ≠ 8) (h16 : o.flags / 16 % 2 = 1) :
  Calls Tryz.prog 34 #[.pointer (some ⟨y, 0, none⟩), o.val A n cap] w (RAnsPost F y (opensT (a.setData id []) (id : Int) (o.flags % 4)) w) := by
 unfold OpT.val
 have HT := Lib.hid h
 have HH := Lib.hid (fun W (hb : Below w.heap.size w W) => h.below hb)
 have HPA := Lib.hid (fun W (h : RIs F W y R a) => show Calls Tryz.prog 74 #[.pointer (some ⟨y, 0, none⟩), .string o.path, .int .i64 43] W (fun e w' => e = .returned (.tuple #[.int .i64 (d : Nat), .string (nameN o.path), .int .i64 0]) ∧ Below W.heap.size W w') from
  (rparent_any o.path 43 W h hg (by omega) hp (by decide)).mono fun e w' hx => by
   obtain ⟨⟨d0, s0, rfl, hq⟩, hb⟩ := hx
   rw [hd] at hq
   obtain ⟨rfl, rfl⟩ := hq rfl
   rw [hd]
   exact ⟨rfl, hb⟩)
 have hfew := hg.few
 have hdir := par_dir (show (43 : Int) ≠ 0 by decide) (show (a.par o.path 43).2 = 0 by rw [hd])
 rw [hd] at hdir
 have hdl := (hg.in_last (k := d) (by rw [hdir]; decide)).2
 have HFI := Lib.hid (fun W (h : RIs F W y R a) => show Calls Tryz.prog 75 #[.pointer (some ⟨y, 0, none⟩), .int .i64 (d : Nat), .string (nameN o.path)] W (fun e w' => e = .returned (.int .i64 (id : Nat)) ∧ W = w') from by
  have := rfind_any d (nameN o.path) W h hdl (by omega) (Nat.le_trans (hg.len d) (by omega))
  rw [hid] at this
  exact this)
 obtain ⟨f0, f1⟩ := flags_rng hf
 have HFL := Lib.hid hf
 have hlive : (a.nd id).kind ≠ 0 := by rw [← hid]; exact hg.find_live (by rw [hid]; exact hz)
 have hil := (hg.in_last hlive).2
 have t1 : (((id : Nat) : Int) != 0) = true := bne_iff_ne.2 (by omega)
 have t2 : (((id : Nat) : Int) == 0) = false := beq_eq_false_iff_ne.2 (by omega)
 have HIB := Lib.hid hil
 have hin : ((id : Nat) : Int) < ((a.last + 1 : Nat) : Int) := by omega
 have t8 : (o.flags / 8 % 2 == 1) = false := beq_eq_false_iff_ne.2 h8
 have t5 : ((a.nd id).kind == 2) = false := beq_eq_false_iff_ne.2 hk
 have t16 : (o.flags / 16 % 2 == 1) = true := beq_iff_eq.2 h16
 have HUS := Lib.hid (fun W (h : RIs F W y R a) => rtused_any W h)
 have tu : (((usedN a.op : Nat) : Int) == 8) = false := beq_eq_false_iff_ne.2 (by omega)
 generalize usedN a.op = us at *
 generalize hkd : (a.nd id).kind = kd at *
 have HKD := Lib.hid hkd
 generalize hnn : a.last + 1 = n1 at *
 have hnb : n1 ≤ 1000001 := by omega
 have HNN := Lib.hid hnn
 clear h hg hd hid hz hf hfew hdir hdl hlive hil h8 hnn hkd hk hu h16
 go_enter Tryz.func34, Tryz.ntmps34
 go_upto_region 1 with (fail)
 obtain ⟨w1, hwe, HO1, HB1⟩ := asked w (oc o A n cap)
 rw [← hwe]
 clear hwe
 have ua0 := (HO1.out).b0.c8
 have ur0 := (HO1.out).b1.cf7
 have ul := (HO1.out).b1.lt
 go_upto_region 2 with (fail)
 go_cut [48] from 14 to 48 (fun b wx => b = .bool (!flagsB o.flags) ∧ wx = w1)
 case first =>
  go_wp2
  all_goals
   go_meet
   refine ⟨?_, rfl⟩
   unfold flagsB
   simp_all
   try (rw [Bool.eq_iff_iff]; simp; omega)
 case rest =>
  obtain ⟨rfl, rfl⟩ := hcut
  rw [HFL.out]
  go_wp2_with fail
  refine (HPA.out _ (HH.out _ HB1.out)).mono ?_
  rintro e w2 ⟨rfl, hb2⟩
  clear ua0 ur0 ul
  have HO2 := Lib.hid (HO1.out.below hb2)
  have HB2 := Lib.hid (HB1.out.trans (hb2.mono HB1.out.size))
  clear hb2
  have za0 := (HO2.out).b0.c8
  have zr0 := (HO2.out).b1.cf7
  have zl := (HO2.out).b1.lt
  have HR2 := Lib.hid (HH.out _ HB2.out)
  go_wp2_with fail
  refine (HFI.out _ HR2.out).mono ?_
  rintro e w' ⟨rfl, h8⟩
  obtain rfl := h8
  obtain ⟨r0, r1⟩ := HR2.out.cells
  rw [HNN.out] at r0
  have k0 := (HR2.out.cel id HIB.out).1
  rw [HKD.out] at k0
  go_wp2_with fail
  refine (HUS.out _ HR2.out).mono ?_
  rintro e w3 ⟨⟨A3, c3, rfl⟩, hb3⟩
  have HO3 := Lib.hid (HO2.out.below hb3)
  have HB3 := Lib.hid (HB2.out.trans (hb3.mono HB2.out.size))
  clear za0 zr0 zl r0 r1 k0 hb3
  have xa0 := (HO3.out).b0.c8
  have xr0 := (HO3.out).b1.cf7
  have xl := (HO3.out).b1.lt
  have HFL0 : Hid (∀ j, F j → j < w.heap.size) := Lib.hid fun j e => HT.out.lt j e
  have HFF : Hid (∀ j, F j → F j ∨ w.heap.size ≤ j) := Lib.hid fun j hj => .inl hj
  have HN0 : Hid (¬ F w.heap.size) := Lib.hid fun e => by have := HFL0.out _ e; omega
  have HN1 : Hid (¬ F (w.heap.size + 1)) := Lib.hid fun e => by have := HFL0.out _ e; omega
  have HR3 := Lib.hid (HH.out _ HB3.out)
  have HTW3 := Lib.hid (Turn.of_below (S := F) HB3.out)
  obtain ⟨r0, r1⟩ := HR3.out.cells
  rw [HNN.out] at r0
  have k2 := (HR3.out.cel id HIB.out).2.2.1
  have q2 := HR3.out.frozen (id * 4 + 2)
  go_upto_region 20 with (fail)
  clear r0 r1 k2 q2
  have HDT := Lib.hid (HR3.out.dated (F' := F) (k := id) HIB.out (u := .slice none 0 0) (l := []) (.inl ⟨rfl, rfl⟩) (At.nil _) (fun j hj => hj) HR3.out.lt HR3.out.f0)
  have HO7 := Lib.hid (HO3.out.turn2 HDT.out.2 HN0.out HN1.out)
  have HTW7 := Lib.hid (HTW3.out.trans HDT.out.2 (fun i hi hF => (HFF.out i hF).resolve_right (by omega)))
  have HS7 := Lib.hid HDT.out.1
  clear HDT
  generalize w3.setCell ⟨R.g, id * 4 + 2, none⟩ (.slice none 0 0) = w7 at *
  clear xa0 xr0 xl
  go_upto_region 20 with (fail)
  obtain ⟨R6, h6⟩ := HS7.out
  have r1 := h6.cells.2
  have HR6 := Lib.hid h6
  have HWL := Lib.hid HO7.out.b1.lt
  have a6 := HO7.out.b0.cell 6
  simp at a6
  clear h6
  go_wp2_with fail
  refine (rtopen_any _ _ _ HR6.out).mono ?_
  rintro e w9 ⟨⟨i, j, rfl⟩, R9, h9, hTu9, -⟩
  have HOF := Lib.hid (HO7.out.turn2 hTu9 HN0.out HN1.out)
  have HR9 := Lib.hid h9
  have HTu9 := Lib.hid hTu9
  clear h9 hTu9 r1 a6
  have vr0 := (HOF.out).b1.cf7
  have vl := (HOF.out).b1.lt
  go_wp2_with fail
  refine bodyPost_ret (v := .agg #[.int .i64 0, .int .i64 i, .slice none 0 0, .slice none 0 0, .int .i64 0, .int .i64 0, .int .i64 0]) (by simp [results, Tryz.results34, go_sem, vr0, vl]) rfl ?_
  exact rans_fin (F' := F) (wX := w7) HT.out ⟨_, HR9.out.grown w7 (by have := HT.out.w0; have := HTW7.out.size; omega)⟩ (HTW7.out.trans HTu9.out (fun i hi hF => (HFF.out i hF).resolve_right (by omega))) HTW7.out.size HFF.out (by omega) HWL.out HN1.out
theorem ropen_new (o : OpT) (A : Option Addr) (n cap : Nat) (w : World) (h : RIs F w y R a) (hg : Good a c) (hc : c + 20 ≤ 100000) (hp : o.path.size ≤ 1000) (d : Nat) (hd : a.par o.path 43 = (d, 0)) (hf : flagsB o.flags = true) (hid : a.find d (nameN o.path) = 0) (h4 : ¬ o.flags / 4 % 2 = 0) (hu : usedN a.op ≠ 8) (h16 : ¬ o.flags / 16 % 2 = 1) :
  Calls Tryz.prog 34 #[.pointer (some ⟨y, 0, none⟩), o.val A n cap] w (RAnsPost F y (opensT (a.more d (nameN o.path) 1) ((a.last : Int) + 1) (o.flags % 4)) w) := by
 unfold OpT.val
 have HT := Lib.hid h
 have HH := Lib.hid (fun W (hb : Below w.heap.size w W) => h.below hb)
 have HPA := Lib.hid (fun W (h : RIs F W y R a) => show Calls Tryz.prog 74 #[.pointer (some ⟨y, 0, none⟩), .string o.path, .int .i64 43] W (fun e w' => e = .returned (.tuple #[.int .i64 (d : Nat), .string (nameN o.path), .int .i64 0]) ∧ Below W.heap.size W w') from
  (rparent_any o.path 43 W h hg (by omega) hp (by decide)).mono fun e w' hx => by
   obtain ⟨⟨d0, s0, rfl, hq⟩, hb⟩ := hx
   rw [hd] at hq
   obtain ⟨rfl, rfl⟩ := hq rfl
   rw [hd]
   exact ⟨rfl, hb⟩)
 have hfew := hg.few
 have hdir := par_dir (show (43 : Int) ≠ 0 by decide) (show (a.par o.path 43).2 = 0 by rw [hd])
 rw [hd] at hdir
 have hdl := (hg.in_last (k := d) (by rw [hdir]; decide)).2
 have HFI := Lib.hid (fun W (h : RIs F W y R a) => show Calls Tryz.prog 75 #[.pointer (some ⟨y, 0, none⟩), .int .i64 (d : Nat), .string (nameN o.path)] W (fun e w' => e = .returned (.int .i64 0) ∧ W = w') from by
  have := rfind_any d (nameN o.path) W h hdl (by omega) (Nat.le_trans (hg.len d) (by omega))
  rw [hid] at this
  exact this)
 obtain ⟨f0, f1⟩ := flags_rng hf
 have HFL := Lib.hid hf
 have t4 : (o.flags / 4 % 2 == 0) = false := beq_eq_false_iff_ne.2 h4
 have t16 : (o.flags / 16 % 2 == 1) = false := beq_eq_false_iff_ne.2 h16
 have HUS := Lib.hid (fun W (h : RIs F W y R a) => rtused_any W h)
 have tu : (((usedN a.op : Nat) : Int) == 8) = false := beq_eq_false_iff_ne.2 (by omega)
 generalize usedN a.op = us at *
 have HMO := Lib.hid (fun W (h : RIs F W y R a) => rmore_any d (nameN o.path) 1 W h hg (by omega) hdir (.inl rfl))
 have hlb : a.last ≤ 100001 := by omega
 clear h hg hd hid hf hfew hdir hdl h4 hu h16
 go_enter Tryz.func34, Tryz.ntmps34
 go_upto_region 1 with (fail)
 obtain ⟨w1, hwe, HO1, HB1⟩ := asked w (oc o A n cap)
 rw [← hwe]
 clear hwe
 have ua0 := (HO1.out).b0.c8
 have ur0 := (HO1.out).b1.cf7
 have ul := (HO1.out).b1.lt
 go_upto_region 2 with (fail)
 go_cut [48] from 14 to 48 (fun b wx => b = .bool (!flagsB o.flags) ∧ wx = w1)
 case first =>
  go_wp2
  all_goals
   go_meet
   refine ⟨?_, rfl⟩
   unfold flagsB
   simp_all
   try (rw [Bool.eq_iff_iff]; simp; omega)
 case rest =>
  obtain ⟨rfl, rfl⟩ := hcut
  rw [HFL.out]
  go_wp2_with fail
  refine (HPA.out _ (HH.out _ HB1.out)).mono ?_
  rintro e w2 ⟨rfl, hb2⟩
  clear ua0 ur0 ul
  have HO2 := Lib.hid (HO1.out.below hb2)
  have HB2 := Lib.hid (HB1.out.trans (hb2.mono HB1.out.size))
  clear hb2
  have za0 := (HO2.out).b0.c8
  have zr0 := (HO2.out).b1.cf7
  have zl := (HO2.out).b1.lt
  have HR2 := Lib.hid (HH.out _ HB2.out)
  go_wp2_with fail
  refine (HFI.out _ HR2.out).mono ?_
  rintro e w' ⟨rfl, h8⟩
  obtain rfl := h8
  obtain ⟨r0, r1⟩ := HR2.out.cells
  go_wp2_with fail
  refine (HUS.out _ HR2.out).mono ?_
  rintro e w3 ⟨⟨A3, c3, rfl⟩, hb3⟩
  have HO3 := Lib.hid (HO2.out.below hb3)
  have HB3 := Lib.hid (HB2.out.trans (hb3.mono HB2.out.size))
  clear za0 zr0 zl r0 r1 hb3
  have xa0 := (HO3.out).b0.c8
  have xr0 := (HO3.out).b1.cf7
  have xl := (HO3.out).b1.lt
  have HFL0 : Hid (∀ j, F j → j < w.heap.size) := Lib.hid fun j e => HT.out.lt j e
  go_wp2_with fail
  refine (HMO.out _ (HH.out _ HB3.out)).mono ?_
  rintro e w4 ⟨rfl, hs4, hTu4⟩
  clear xa0 xr0 xl
  have HL3 := Lib.hid HO3.out.b1.lt
  have HO4 := Lib.hid (HO3.out.turn2 hTu4 (fun e => by have := HFL0.out _ e; omega) (fun e => by have := HFL0.out _ e; omega))
  have HTW4 := Lib.hid ((Turn.of_below (S := F) HB3.out).trans (S' := F) hTu4 fun _ _ e => e)
  have HFF : Hid (∀ j, grow F w3 w4 j → F j ∨ w.heap.size ≤ j) := Lib.hid fun j e => by
   have := HL3.out
   rcases e with e | e
   ·exact .inl e
   ·exact .inr (by omega)
  have HN0 : Hid (¬ grow F w3 w4 w.heap.size) := Lib.hid fun e => by
   have := HL3.out
   rcases e with e | e
   ·have := HFL0.out _ e; omega
   ·omega
  have HN1 : Hid (¬ grow F w3 w4 (w.heap.size + 1)) := Lib.hid fun e => by
   have := HL3.out
   rcases e with e | e
   ·have := HFL0.out _ e; omega
   ·omega
  have HS4 := Lib.hid hs4
  clear hs4 hTu4
  have b6 := HO4.out.b0.cell 6
  simp at b6
  go_upto_region 20 with (fail)
  clear b6
  obtain ⟨R6, h6⟩ := HS4.out
  have r1 := h6.cells.2
  have HR6 := Lib.hid h6
  have HWL := Lib.hid HO4.out.b1.lt
  have a6 := HO4.out.b0.cell 6
  simp at a6
  clear h6
  go_wp2_with fail
  refine (rtopen_any _ _ _ HR6.out).mono ?_
  rintro e w9 ⟨⟨i, j, rfl⟩, R9, h9, hTu9, -⟩
  have HOF := Lib.hid (HO4.out.turn2 hTu9 HN0.out HN1.out)
  have HR9 := Lib.hid h9
  have HTu9 := Lib.hid hTu9
  clear h9 hTu9 r1 a6
  have vr0 := (HOF.out).b1.cf7
  have vl := (HOF.out).b1.lt
  go_wp2_with fail
  refine bodyPost_ret (v := .agg #[.int .i64 0, .int .i64 i, .slice none 0 0, .slice none 0 0, .int .i64 0, .int .i64 0, .int .i64 0]) (by simp [results, Tryz.results34, go_sem, vr0, vl]) rfl ?_
  exact rans_fin (F' := grow F w3 w4) (wX := w4) HT.out ⟨_, HR9.out.grown w4 (by have := HT.out.w0; have := HTW4.out.size; omega)⟩ (HTW4.out.trans HTu9.out (fun i hi hF => (HFF.out i hF).resolve_right (by omega))) HTW4.out.size HFF.out (by omega) HWL.out HN1.out
theorem ropen_new_cut (o : OpT) (A : Option Addr) (n cap : Nat) (w : World) (h : RIs F w y R a) (hg : Good a c) (hc : c + 20 ≤ 100000) (hp : o.path.size ≤ 1000) (d : Nat) (hd : a.par o.path 43 = (d, 0)) (hf : flagsB o.flags = true) (hid : a.find d (nameN o.path) = 0) (h4 : ¬ o.flags / 4 % 2 = 0) (hu : usedN a.op ≠ 8) (h16 : o.flags / 16 % 2 = 1) :
  Calls Tryz.prog 34 #[.pointer (some ⟨y, 0, none⟩), o.val A n cap] w (RAnsPost F y (opensT ((a.more d (nameN o.path) 1).setData (a.last + 1) []) ((a.last : Int) + 1) (o.flags % 4)) w) := by
 unfold OpT.val
 have HT := Lib.hid h
 have HH := Lib.hid (fun W (hb : Below w.heap.size w W) => h.below hb)
 have HPA := Lib.hid (fun W (h : RIs F W y R a) => show Calls Tryz.prog 74 #[.pointer (some ⟨y, 0, none⟩), .string o.path, .int .i64 43] W (fun e w' => e = .returned (.tuple #[.int .i64 (d : Nat), .string (nameN o.path), .int .i64 0]) ∧ Below W.heap.size W w') from
  (rparent_any o.path 43 W h hg (by omega) hp (by decide)).mono fun e w' hx => by
   obtain ⟨⟨d0, s0, rfl, hq⟩, hb⟩ := hx
   rw [hd] at hq
   obtain ⟨rfl, rfl⟩ := hq rfl
   rw [hd]
   exact ⟨rfl, hb⟩)
 have hfew := hg.few
 have hdir := par_dir (show (43 : Int) ≠ 0 by decide) (show (a.par o.path 43).2 = 0 by rw [hd])
 rw [hd] at hdir
 have hdl := (hg.in_last (k := d) (by rw [hdir]; decide)).2
 have HFI := Lib.hid (fun W (h : RIs F W y R a) => show Calls Tryz.prog 75 #[.pointer (some ⟨y, 0, none⟩), .int .i64 (d : Nat), .string (nameN o.path)] W (fun e w' => e = .returned (.int .i64 0) ∧ W = w') from by
  have := rfind_any d (nameN o.path) W h hdl (by omega) (Nat.le_trans (hg.len d) (by omega))
  rw [hid] at this
  exact this)
 obtain ⟨f0, f1⟩ := flags_rng hf
 have HFL := Lib.hid hf
 have t4 : (o.flags / 4 % 2 == 0) = false := beq_eq_false_iff_ne.2 h4
 have t16 : (o.flags / 16 % 2 == 1) = true := beq_iff_eq.2 h16
 have HUS := Lib.hid (fun W (h : RIs F W y R a) => rtused_any W h)
 have tu : (((usedN a.op : Nat) : Int) == 8) = false := beq_eq_false_iff_ne.2 (by omega)
 generalize usedN a.op = us at *
 have HMO := Lib.hid (fun W (h : RIs F W y R a) => rmore_any d (nameN o.path) 1 W h hg (by omega) hdir (.inl rfl))
 have hlb : a.last ≤ 100001 := by omega
 clear h hg hd hid hf hfew hdir hdl h4 hu h16
 go_enter Tryz.func34, Tryz.ntmps34
 go_upto_region 1 with (fail)
 obtain ⟨w1, hwe, HO1, HB1⟩ := asked w (oc o A n cap)
 rw [← hwe]
 clear hwe
 have ua0 := (HO1.out).b0.c8
 have ur0 := (HO1.out).b1.cf7
 have ul := (HO1.out).b1.lt
 go_upto_region 2 with (fail)
 go_cut [48] from 14 to 48 (fun b wx => b = .bool (!flagsB o.flags) ∧ wx = w1)
 case first =>
  go_wp2
  all_goals
   go_meet
   refine ⟨?_, rfl⟩
   unfold flagsB
   simp_all
   try (rw [Bool.eq_iff_iff]; simp; omega)
 case rest =>
  obtain ⟨rfl, rfl⟩ := hcut
  rw [HFL.out]
  go_wp2_with fail
  refine (HPA.out _ (HH.out _ HB1.out)).mono ?_
  rintro e w2 ⟨rfl, hb2⟩
  clear ua0 ur0 ul
  have HO2 := Lib.hid (HO1.out.below hb2)
  have HB2 := Lib.hid (HB1.out.trans (hb2.mono HB1.out.size))
  clear hb2
  have za0 := (HO2.out).b0.c8
  have zr0 := (HO2.out).b1.cf7
  have zl := (HO2.out).b1.lt
  have HR2 := Lib.hid (HH.out _ HB2.out)
  go_wp2_with fail
  refine (HFI.out _ HR2.out).mono ?_
  rintro e w' ⟨rfl, h8⟩
  obtain rfl := h8
  obtain ⟨r0, r1⟩ := HR2.out.cells
  go_wp2_with fail
  refine (HUS.out _ HR2.out).mono ?_
  rintro e w3 ⟨⟨A3, c3, rfl⟩, hb3⟩
  have HO3 := Lib.hid (HO2.out.below hb3)
  have HB3 := Lib.hid (HB2.out.trans (hb3.mono HB2.out.size))
  clear za0 zr0 zl r0 r1 hb3
  have xa0 := (HO3.out).b0.c8
  have xr0 := (HO3.out).b1.cf7
  have xl := (HO3.out).b1.lt
  have HFL0 : Hid (∀ j, F j → j < w.heap.size) := Lib.hid fun j e => HT.out.lt j e
  go_wp2_with fail
  refine (HMO.out _ (HH.out _ HB3.out)).mono ?_
  rintro e w4 ⟨rfl, hs4, hTu4⟩
  clear xa0 xr0 xl
  have HL3 := Lib.hid HO3.out.b1.lt
  have HO4 := Lib.hid (HO3.out.turn2 hTu4 (fun e => by have := HFL0.out _ e; omega) (fun e => by have := HFL0.out _ e; omega))
  have HTW4 := Lib.hid ((Turn.of_below (S := F) HB3.out).trans (S' := F) hTu4 fun _ _ e => e)
  have HFF : Hid (∀ j, grow F w3 w4 j → F j ∨ w.heap.size ≤ j) := Lib.hid fun j e => by
   have := HL3.out
   rcases e with e | e
   ·exact .inl e
   ·exact .inr (by omega)
  have HN0 : Hid (¬ grow F w3 w4 w.heap.size) := Lib.hid fun e => by
   have := HL3.out
   rcases e with e | e
   ·have := HFL0.out _ e; omega
   ·omega
  have HN1 : Hid (¬ grow F w3 w4 (w.heap.size + 1)) := Lib.hid fun e => by
   have := HL3.out
   rcases e with e | e
   ·have := HFL0.out _ e; omega
   ·omega
  have HS4 := Lib.hid hs4
  clear hs4 hTu4
  have b6 := HO4.out.b0.cell 6
  simp at b6
  obtain ⟨R4, h4⟩ := HS4.out
  have HR4 := Lib.hid h4
  clear h4
  obtain ⟨r0, r1⟩ := HR4.out.cells
  replace r0 : w4.cell? ⟨y, 0, none⟩ = some (.slice (some ⟨R4.g, 0, none⟩) (a.last + 1 + 1) R4.cap) := r0
  have k2 := (HR4.out.cel (a.last + 1) (Nat.le_refl _)).2.2.1
  have q2 := HR4.out.frozen ((a.last + 1) * 4 + 2)
  go_upto_region 20 with (fail)
  clear r0 r1 k2 q2
  have HDT := Lib.hid (HR4.out.dated (F' := grow F w3 w4) (k := (a.last + 1)) (Nat.le_refl _) (u := .slice none 0 0) (l := []) (.inl ⟨rfl, rfl⟩) (At.nil _) (fun j hj => hj) HR4.out.lt HR4.out.f0)
  have HO7 := Lib.hid (HO4.out.turn2 HDT.out.2 HN0.out HN1.out)
  have HTW7 := Lib.hid (HTW4.out.trans HDT.out.2 (fun i hi hF => (HFF.out i hF).resolve_right (by omega)))
  have HS7 := Lib.hid HDT.out.1
  clear HDT
  generalize w4.setCell ⟨R4.g, (a.last + 1) * 4 + 2, none⟩ (.slice none 0 0) = w7 at *
  clear b6
  go_upto_region 20 with (fail)
  obtain ⟨R6, h6⟩ := HS7.out
  have r1 := h6.cells.2
  have HR6 := Lib.hid h6
  have HWL := Lib.hid HO7.out.b1.lt
  have a6 := HO7.out.b0.cell 6
  simp at a6
  clear h6
  go_wp2_with fail
  refine (rtopen_any _ _ _ HR6.out).mono ?_
  rintro e w9 ⟨⟨i, j, rfl⟩, R9, h9, hTu9, -⟩
  have HOF := Lib.hid (HO7.out.turn2 hTu9 HN0.out HN1.out)
  have HR9 := Lib.hid h9
  have HTu9 := Lib.hid hTu9
  clear h9 hTu9 r1 a6
  have vr0 := (HOF.out).b1.cf7
  have vl := (HOF.out).b1.lt
  go_wp2_with fail
  refine bodyPost_ret (v := .agg #[.int .i64 0, .int .i64 i, .slice none 0 0, .slice none 0 0, .int .i64 0, .int .i64 0, .int .i64 0]) (by simp [results, Tryz.results34, go_sem, vr0, vl]) rfl ?_
  exact rans_fin (F' := grow F w3 w4) (wX := w7) HT.out ⟨_, HR9.out.grown w7 (by have := HT.out.w0; have := HTW7.out.size; omega)⟩ (HTW7.out.trans HTu9.out (fun i hi hF => (HFF.out i hF).resolve_right (by omega))) HTW7.out.size HFF.out (by omega) HWL.out HN1.out
theorem ropenT_any (o : OpT) (A : Option Addr) (n cap : Nat) (w : World) (h : RIs F w y R a) (hg : Good a c) (hc : c + 20 ≤ 100000) (hp : o.path.size ≤ 1000) :
  Calls Tryz.prog 34 #[.pointer (some ⟨y, 0, none⟩), o.val A n cap] w (RAnsPost F y (a.openT o) w) := by
 have hbad : a.openE o ≠ 0 → a.openT o = a := fun hx => by unfold TS.openT; rw [if_neg hx]
 have hgood : a.openE o = 0 → a.openT o = a.openS o := fun hx => by unfold TS.openT; rw [if_pos hx]
 by_cases hr : o.flags < 0 ∨ 31 < o.flags
 ·exact ropen_range o A n cap w h hg hc hp hr
 by_cases hf : flagsB o.flags = true
 ·by_cases he : (a.par o.path 43).2 = 0
  ·obtain ⟨d, hd⟩ : ∃ d, a.par o.path 43 = (d, 0) := ⟨(a.par o.path 43).1, by rw [← he]⟩
   have hE : a.openE o = if a.find d (nameN o.path) ≠ 0 ∧ o.flags / 8 % 2 = 1 then 41 else if a.find d (nameN o.path) ≠ 0 ∧ (a.nd (a.find d (nameN o.path))).kind = 2 then 43 else if a.find d (nameN o.path) = 0 ∧ o.flags / 4 % 2 = 0 then 40 else if usedN a.op = 8 then 47 else 0 := by
    unfold TS.openE; rw [if_neg (by rw [hf]; simp), if_neg (fun x => x he), hd]
   have hS : a.openS o = if a.find d (nameN o.path) = 0 then (a.more d (nameN o.path) 1).opens (a.last + 1) o.flags else a.opens (a.find d (nameN o.path)) o.flags := by unfold TS.openS; rw [hd]
   by_cases hz : a.find d (nameN o.path) = 0
   ·rw [if_neg (fun x => x.1 hz), if_neg (fun x => x.1 hz)] at hE
    rw [if_pos hz] at hS
    by_cases h4 : o.flags / 4 % 2 = 0
    ·rw [hbad (by rw [hE, if_pos ⟨hz, h4⟩]; decide)]
     exact ropen_40 o A n cap w h hg hc hp d hd hf hz h4
    rw [if_neg (fun x => h4 x.2)] at hE
    by_cases hu : usedN a.op = 8
    ·rw [hbad (by rw [hE, if_pos hu]; decide)]
     exact ropen_47n o A n cap w h hg hc hp d hd hf hz h4 hu
    rw [(hgood (by rw [hE, if_neg hu])).trans (hS.trans (opens_eq (show usedN a.op ≠ 8 from hu))), show ((a.last + 1 : Nat) : Int) = (a.last : Int) + 1 by omega]
    by_cases h16 : o.flags / 16 % 2 = 1
    ·rw [if_pos h16]
     exact ropen_new_cut o A n cap w h hg hc hp d hd hf hz h4 hu h16
    ·rw [if_neg h16]
     exact ropen_new o A n cap w h hg hc hp d hd hf hz h4 hu h16
   ·rw [if_neg hz] at hS
    by_cases h8 : o.flags / 8 % 2 = 1
    ·rw [hbad (by rw [hE, if_pos ⟨hz, h8⟩]; decide)]
     exact ropen_41 o A n cap w h hg hc hp d _ hd hf rfl hz h8
    rw [if_neg (fun x => h8 x.2)] at hE
    by_cases hk : (a.nd (a.find d (nameN o.path))).kind = 2
    ·rw [hbad (by rw [hE, if_pos ⟨hz, hk⟩]; decide)]
     exact ropen_43 o A n cap w h hg hc hp d _ hd hf rfl hz h8 hk
    rw [if_neg (fun x => hk x.2), if_neg (fun x => hz x.1)] at hE
    by_cases hu : usedN a.op = 8
    ·rw [hbad (by rw [hE, if_pos hu]; decide)]
     exact ropen_47o o A n cap w h hg hc hp d _ hd hf rfl hz h8 hk hu
    rw [(hgood (by rw [hE, if_neg hu])).trans (hS.trans (opens_eq (show usedN a.op ≠ 8 from hu)))]
    by_cases h16 : o.flags / 16 % 2 = 1
    ·rw [if_pos h16]
     exact ropen_old_cut o A n cap w h hg hc hp d _ hd hf rfl hz h8 hk hu h16
    ·rw [if_neg h16]
     exact ropen_old o A n cap w h hg hc hp d _ hd hf rfl hz h8 hk hu h16
  ·exact ropen_par o A n cap w h hg hc hp hf he
 ·exact ropen_bad o A n cap w h hg hc hp (by omega) (by omega) (by simpa using hf)
end
end Go.Proofs.YtpkhglfhpggceaaGreatDoor
