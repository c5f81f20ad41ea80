/- What package tree does to memory: opened (printed by genopened.py). -/
import Derived.Test.YtpkhglfhpggceaaGreatDoorOpok
namespace Go.Proofs.YtpkhglfhpggceaaGreatDoor
set_option maxRecDepth 100000
set_option maxHeartbeats 16000000
open Go.RowKit
set_option linter.unusedVariables false
set_option linter.unusedSimpArgs false
section
variable {F : Nat → Prop} {w w' : World} {t c : Nat} {M : TMem} {a : TS}
theorem bit_off {x : Int} {p : Prop} [Decidable p] (h : (x != 0) = decide p) (hp : ¬ p) : x = 0 := by simpa [hp] using h
theorem bit_on {x : Int} {p : Prop} [Decidable p] (h : (x != 0) = decide p) (hp : p) : x ≠ 0 := by simpa [hp] using h
theorem flags_rng {f : Int} (h : flagsB f = true) : 0 ≤ f ∧ f ≤ 31 := by
 unfold flagsB at h
 simp only [Bool.and_eq_true, decide_eq_true_eq] at h
 exact ⟨h.1.1.1.1, h.1.1.1.2⟩
theorem opened_any (o : OpT) (A : Option Addr) (n cap : Nat) (w : World) (h : TreeIs F w t M c a) (hg : Good a c) (hc : c ≤ 100000) (hp : o.path.size ≤ 1000) :
  Calls Tryz.prog 26 #[.pointer (some ⟨t, 0, none⟩), o.val A n cap] w (AnsPost F t (c + 2) (a.openT o) w) := by
 unfold OpT.val
 have hP := Lib.hid (fun W (h : TreeIs F W t M c a) => parent_any o.path 43 W h hg hc hp (by decide))
 have HT := Lib.hid h
 have HG := Lib.hid hg
 have HH := Lib.hid (fun W (hb : Below w.heap.size w W) => h.below hb)
 have HFL := Lib.hid (fun W => flags_any o.flags W)
 have hbad : a.openE o ≠ 0 → a.openT o = a := fun hx => by unfold TS.openT; rw [if_neg hx]
 have hgood : a.openE o = 0 → a.openT o = a.openS o := fun hx => by unfold TS.openT; rw [if_pos hx]
 clear h
 by_cases hf : flagsB o.flags = true
 ·rw [hf] at HFL
  have hfr := flags_rng hf
  obtain ⟨b8, b4, b16, b3, b1, b2⟩ := has_in hfr.1 hfr.2
  unfold hasB at b8 b4 b16 b1 b2
  have hE : a.openE o = if (a.par o.path 43).2 ≠ 0 then (a.par o.path 43).2 else if a.find (a.par o.path 43).1 (nameN o.path) ≠ 0 ∧ o.flags / 8 % 2 = 1 then 41 else if a.find (a.par o.path 43).1 (nameN o.path) ≠ 0 ∧ (a.nd (a.find (a.par o.path 43).1 (nameN o.path))).kind = 2 then 43 else if a.find (a.par o.path 43).1 (nameN o.path) = 0 ∧ o.flags / 4 % 2 = 0 then 40 else if usedN a.op = 8 then 47 else 0 := by
   unfold TS.openE; rw [if_neg (by rw [hf]; decide)]
  by_cases he : (a.par o.path 43).2 = 0
  ·obtain ⟨d, hd⟩ : ∃ d, a.par o.path 43 = (d, 0) := ⟨(a.par o.path 43).1, by rw [← he]⟩
   have hdir := par_dir (show (43 : Int) ≠ 0 by decide) he
   rw [hd] at hdir
   have HS := Lib.hid (spot_ok hd)
   have HE := Lib.hid he
   rw [if_neg (fun x => x he), hd] at hE
   have hS : a.openS o = if a.find d (nameN o.path) = 0 then (a.more d (nameN o.path) 1).opens (a.last + 1) o.flags else a.opens (a.find d (nameN o.path)) o.flags := by unfold TS.openS; rw [hd]
   have HFU := Lib.hid (fun W (h : TreeIs F W t M c a) => tfull_any W h)
   by_cases hz : findL (a.nd d).names (nameN o.path) = 0
   ·have HF := Lib.hid hz
    have hz' : a.find d (nameN o.path) = 0 := hz
    rw [if_neg (fun x => x.1 hz'), if_neg (fun x => x.1 hz')] at hE
    rw [if_pos hz'] at hS
    by_cases h4 : o.flags / 4 % 2 = 0
    ·have HR := Lib.hid (show a.openT o = a from hbad (by rw [hE, if_pos ⟨hz', h4⟩]; decide))
     have t4 : (bits .and .i64 o.flags 4 == 0) = true := beq_iff_eq.2 (bit_off b4 (by omega))
     clear hbad hgood hE hS he hd hdir hz hz' h4 b8 b4 b16 b3 b1 b2 hf hg
     go_enter Tryz.func26, Tryz.ntmps26
     go_wp2_with fail
     refine (HFL.out _).mono ?_
     rintro e w1 ⟨rfl, hb1⟩
     have HO1 := Lib.hid ((OO.start w (oc o A n cap)).below hb1)
     have HB1 := Lib.hid (below_aa hb1)
     clear hb1
     have ya0 := (HO1.out).b0.c8
     have yr0 := (HO1.out).b1.cf7
     have yl := (HO1.out).b1.lt
     go_wp2_with fail
     refine (hP.out _ (HH.out _ HB1.out)).mono ?_
     rintro e w2 ⟨rfl, hb2⟩
     rw [HS.out, HE.out, HF.out]
     clear ya0 yr0 yl
     have HB2 := Lib.hid (HB1.out.trans (hb2.mono HB1.out.size))
     have HO2 := Lib.hid (HO1.out.below hb2)
     have HL2 := Lib.hid (show w.heap.size + 1 < w2.heap.size from HO2.out.b1.lt)
     clear hb2
     go_upto_region 4 with (fail)
     have HO3 := Lib.hid (HO2.out.alloc (.cells #[.int .i64 (d : Nat), .string (nameN o.path), .int .i64 0] 111))
     have HX3 := Lib.hid (Blk.new w2 111 #[.int .i64 (d : Nat), .string (nameN o.path), .int .i64 0])
     have HB3 := Lib.hid (HB2.out.alloc HB2.out.size (.cells #[.int .i64 (d : Nat), .string (nameN o.path), .int .i64 0] 111))
     generalize w2.alloc (.cells #[.int .i64 (d : Nat), .string (nameN o.path), .int .i64 0] 111) = w3 at *
     have za0 := (HO3.out).b0.c8
     have zr0 := (HO3.out).b1.cf7
     have zl := (HO3.out).b1.lt
     have zx0 := HX3.out.cell 0
     have zx1 := HX3.out.cell 1
     have zx2 := HX3.out.cell 2
     have zxq := HX3.out.frozen 2
     simp at zx0 zx1 zx2
     go_wp2_with fail
     refine bodyPost_ret (v := .agg #[.int .i64 40, .int .i64 0, .slice none 0 0, .slice none 0 0, .int .i64 0, .int .i64 0, .int .i64 0]) (by simp [results, Tryz.results26, go_sem, zr0, zl]) rfl ?_
     rw [HR.out]
     exact ans_same HT.out (ans_set HB3.out (by omega) _ _ _ _ _ _ _)
    ·rw [if_neg (fun x => h4 x.2)] at hE
     have t4 : (bits .and .i64 o.flags 4 == 0) = false := beq_eq_false_iff_ne.2 (bit_on b4 (by omega))
     by_cases hu : usedN a.op = 8
     ·have HR := Lib.hid (show a.openT o = a from hbad (by rw [hE, if_pos hu]; decide))
      rw [decide_eq_true hu] at HFU
      clear hbad hgood hE hS he hd hdir hz hz' h4 b8 b4 b16 b3 b1 b2 hf hg hu
      go_enter Tryz.func26, Tryz.ntmps26
      go_wp2_with fail
      refine (HFL.out _).mono ?_
      rintro e w1 ⟨rfl, hb1⟩
      have HO1 := Lib.hid ((OO.start w (oc o A n cap)).below hb1)
      have HB1 := Lib.hid (below_aa hb1)
      clear hb1
      have ya0 := (HO1.out).b0.c8
      have yr0 := (HO1.out).b1.cf7
      have yl := (HO1.out).b1.lt
      go_wp2_with fail
      refine (hP.out _ (HH.out _ HB1.out)).mono ?_
      rintro e w2 ⟨rfl, hb2⟩
      rw [HS.out, HE.out, HF.out]
      clear ya0 yr0 yl
      have HB2 := Lib.hid (HB1.out.trans (hb2.mono HB1.out.size))
      have HO2 := Lib.hid (HO1.out.below hb2)
      have HL2 := Lib.hid (show w.heap.size + 1 < w2.heap.size from HO2.out.b1.lt)
      clear hb2
      go_upto_region 4 with (fail)
      have HO3 := Lib.hid (HO2.out.alloc (.cells #[.int .i64 (d : Nat), .string (nameN o.path), .int .i64 0] 111))
      have HX3 := Lib.hid (Blk.new w2 111 #[.int .i64 (d : Nat), .string (nameN o.path), .int .i64 0])
      have HB3 := Lib.hid (HB2.out.alloc HB2.out.size (.cells #[.int .i64 (d : Nat), .string (nameN o.path), .int .i64 0] 111))
      generalize w2.alloc (.cells #[.int .i64 (d : Nat), .string (nameN o.path), .int .i64 0] 111) = w3 at *
      have za0 := (HO3.out).b0.c8
      have zr0 := (HO3.out).b1.cf7
      have zl := (HO3.out).b1.lt
      have zx0 := HX3.out.cell 0
      have zx1 := HX3.out.cell 1
      have zx2 := HX3.out.cell 2
      have zxq := HX3.out.frozen 2
      simp at zx0 zx1 zx2
      obtain ⟨zt0, zt1, zt2⟩ := (HH.out _ HB3.out).cells
      go_wp2_with fail
      refine (HFU.out _ (HH.out _ HB3.out)).mono ?_
      rintro e w4 ⟨rfl, hb4⟩
      clear za0 zr0 zl zx0 zx1 zx2 zxq zt0 zt1 zt2
      have HO4 := Lib.hid (HO3.out.below hb4)
      have HX4 := Lib.hid (HX3.out.below hb4 HX3.out.lt)
      have HB4 := Lib.hid (HB3.out.trans (hb4.mono HB3.out.size))
      clear hb4
      have ua0 := (HO4.out).b0.c8
      have ur0 := (HO4.out).b1.cf7
      have ul := (HO4.out).b1.lt
      have ux0 := HX4.out.cell 0
      have ux1 := HX4.out.cell 1
      have ux2 := HX4.out.cell 2
      have uxq := HX4.out.frozen 2
      simp at ux0 ux1 ux2
      go_wp2_with fail
      refine bodyPost_ret (v := .agg #[.int .i64 47, .int .i64 0, .slice none 0 0, .slice none 0 0, .int .i64 0, .int .i64 0, .int .i64 0]) (by simp [results, Tryz.results26, go_sem, ur0, ul]) rfl ?_
      rw [HR.out]
      exact ans_same HT.out (ans_set HB4.out (by omega) _ _ _ _ _ _ _)
     ·have hR : a.openT o = _ := (hgood (by rw [hE, if_neg hu])).trans (hS.trans (opens_eq (show usedN a.op ≠ 8 from hu)))
      have e1 : ((a.last + 1 : Nat) : Int) = (a.last : Int) + 1 := by omega
      rw [hR, e1, ← b3]
      by_cases h16 : o.flags / 16 % 2 = 1
      ·rw [if_pos h16]
       exact opened_new_cut o A n cap d w HT.out HG.out hc hp hd hz hf t4 hu (bne_iff_ne.2 (bit_on b16 h16))
      ·rw [if_neg h16]
       exact opened_new o A n cap d w HT.out HG.out hc hp hd hz hf t4 hu (bne_eq_false_iff_eq.2 (bit_off b16 h16))
   ·have hz' : a.find d (nameN o.path) ≠ 0 := hz
    have hlive := hg.find_live hz'
    have hbd := hg.in_last hlive
    have hfew := hg.few
    have hidb : a.find d (nameN o.path) ≤ 1000000 := by omega
    have t1 : (((findL (a.nd d).names (nameN o.path) : Nat) : Int) != 0) = true := bne_iff_ne.2 (by omega)
    have t2 : (((findL (a.nd d).names (nameN o.path) : Nat) : Int) == 0) = false := beq_eq_false_iff_ne.2 (by omega)
    have HFN := Lib.hid (show findL (a.nd d).names (nameN o.path) = a.find d (nameN o.path) from rfl)
    rw [if_neg hz'] at hS
    by_cases h8 : o.flags / 8 % 2 = 1
    ·have HR := Lib.hid (show a.openT o = a from hbad (by rw [hE, if_pos ⟨hz', h8⟩]; decide))
     have t8 : (bits .and .i64 o.flags 8 != 0) = true := bne_iff_ne.2 (bit_on b8 h8)
     clear HFN
     generalize findL (a.nd d).names (nameN o.path) = id at *
     clear hbad hgood hE hS he hd hdir hz hz' h8 b8 b4 b16 b3 b1 b2 hf hg hlive hbd hfew
     go_enter Tryz.func26, Tryz.ntmps26
     go_wp2_with fail
     refine (HFL.out _).mono ?_
     rintro e w1 ⟨rfl, hb1⟩
     have HO1 := Lib.hid ((OO.start w (oc o A n cap)).below hb1)
     have HB1 := Lib.hid (below_aa hb1)
     clear hb1
     have ya0 := (HO1.out).b0.c8
     have yr0 := (HO1.out).b1.cf7
     have yl := (HO1.out).b1.lt
     go_wp2_with fail
     refine (hP.out _ (HH.out _ HB1.out)).mono ?_
     rintro e w2 ⟨rfl, hb2⟩
     rw [HS.out, HE.out]
     clear ya0 yr0 yl
     have HB2 := Lib.hid (HB1.out.trans (hb2.mono HB1.out.size))
     have HO2 := Lib.hid (HO1.out.below hb2)
     have HL2 := Lib.hid (show w.heap.size + 1 < w2.heap.size from HO2.out.b1.lt)
     clear hb2
     go_upto_region 4 with (fail)
     have HO3 := Lib.hid (HO2.out.alloc (.cells #[.int .i64 (d : Nat), .string (nameN o.path), .int .i64 (id : Nat)] 111))
     have HX3 := Lib.hid (Blk.new w2 111 #[.int .i64 (d : Nat), .string (nameN o.path), .int .i64 (id : Nat)])
     have HB3 := Lib.hid (HB2.out.alloc HB2.out.size (.cells #[.int .i64 (d : Nat), .string (nameN o.path), .int .i64 (id : Nat)] 111))
     generalize w2.alloc (.cells #[.int .i64 (d : Nat), .string (nameN o.path), .int .i64 (id : Nat)] 111) = w3 at *
     have za0 := (HO3.out).b0.c8
     have zr0 := (HO3.out).b1.cf7
     have zl := (HO3.out).b1.lt
     have zx0 := HX3.out.cell 0
     have zx1 := HX3.out.cell 1
     have zx2 := HX3.out.cell 2
     have zxq := HX3.out.frozen 2
     simp at zx0 zx1 zx2
     go_wp2_with fail
     refine bodyPost_ret (v := .agg #[.int .i64 41, .int .i64 0, .slice none 0 0, .slice none 0 0, .int .i64 0, .int .i64 0, .int .i64 0]) (by simp [results, Tryz.results26, go_sem, zr0, zl]) rfl ?_
     rw [HR.out]
     exact ans_same HT.out (ans_set HB3.out (by omega) _ _ _ _ _ _ _)
    ·have t8 : (bits .and .i64 o.flags 8 != 0) = false := bne_eq_false_iff_eq.2 (bit_off b8 h8)
     rw [if_neg (fun x => h8 x.2)] at hE
     have HD := Lib.hid (fun W h => dir_any (F := F) (t := t) (c := c) (M := M) (a := a) (a.find d (nameN o.path)) W h hlive hidb)
     by_cases hdd : (a.nd (a.find d (nameN o.path))).kind = 2
     ·have HR := Lib.hid (show a.openT o = a from hbad (by rw [hE, if_pos ⟨hz', hdd⟩]; decide))
      rw [decide_eq_true hdd, ← HFN.out] at HD
      clear hbad hgood hE hS he hd hdir hz' h8 b8 b4 b16 b3 b1 b2 hf hg hdd hlive hbd hfew HFN hidb
      generalize findL (a.nd d).names (nameN o.path) = id at *
      clear hz
      go_enter Tryz.func26, Tryz.ntmps26
      go_wp2_with fail
      refine (HFL.out _).mono ?_
      rintro e w1 ⟨rfl, hb1⟩
      have HO1 := Lib.hid ((OO.start w (oc o A n cap)).below hb1)
      have HB1 := Lib.hid (below_aa hb1)
      clear hb1
      have ya0 := (HO1.out).b0.c8
      have yr0 := (HO1.out).b1.cf7
      have yl := (HO1.out).b1.lt
      go_wp2_with fail
      refine (hP.out _ (HH.out _ HB1.out)).mono ?_
      rintro e w2 ⟨rfl, hb2⟩
      rw [HS.out, HE.out]
      clear ya0 yr0 yl
      have HB2 := Lib.hid (HB1.out.trans (hb2.mono HB1.out.size))
      have HO2 := Lib.hid (HO1.out.below hb2)
      have HL2 := Lib.hid (show w.heap.size + 1 < w2.heap.size from HO2.out.b1.lt)
      clear hb2
      go_upto_region 4 with (fail)
      have HO3 := Lib.hid (HO2.out.alloc (.cells #[.int .i64 (d : Nat), .string (nameN o.path), .int .i64 (id : Nat)] 111))
      have HX3 := Lib.hid (Blk.new w2 111 #[.int .i64 (d : Nat), .string (nameN o.path), .int .i64 (id : Nat)])
      have HB3 := Lib.hid (HB2.out.alloc HB2.out.size (.cells #[.int .i64 (d : Nat), .string (nameN o.path), .int .i64 (id : Nat)] 111))
      generalize w2.alloc (.cells #[.int .i64 (d : Nat), .string (nameN o.path), .int .i64 (id : Nat)] 111) = w3 at *
      have za0 := (HO3.out).b0.c8
      have zr0 := (HO3.out).b1.cf7
      have zl := (HO3.out).b1.lt
      have zx0 := HX3.out.cell 0
      have zx1 := HX3.out.cell 1
      have zx2 := HX3.out.cell 2
      have zxq := HX3.out.frozen 2
      simp at zx0 zx1 zx2
      go_wp2_with fail
      refine (HD.out _ (HH.out _ HB3.out)).mono ?_
      rintro e w4 ⟨rfl, rfl⟩
      go_wp2_with fail
      refine bodyPost_ret (v := .agg #[.int .i64 43, .int .i64 0, .slice none 0 0, .slice none 0 0, .int .i64 0, .int .i64 0, .int .i64 0]) (by simp [results, Tryz.results26, go_sem, zr0, zl]) rfl ?_
      rw [HR.out]
      exact ans_same HT.out (ans_set HB3.out (by omega) _ _ _ _ _ _ _)
     ·rw [if_neg (fun x => hdd x.2), if_neg (fun x => hz' x.1)] at hE
      rw [decide_eq_false hdd] at HD
      by_cases hu : usedN a.op = 8
      ·have HR := Lib.hid (show a.openT o = a from hbad (by rw [hE, if_pos hu]; decide))
       rw [decide_eq_true hu] at HFU
       rw [← HFN.out] at HD
       clear hbad hgood hE hS he hd hdir hz' h8 b8 b4 b16 b3 b1 b2 hf hg hdd hlive hbd hfew HFN hidb hu
       generalize findL (a.nd d).names (nameN o.path) = id at *
       clear hz
       go_enter Tryz.func26, Tryz.ntmps26
       go_wp2_with fail
       refine (HFL.out _).mono ?_
       rintro e w1 ⟨rfl, hb1⟩
       have HO1 := Lib.hid ((OO.start w (oc o A n cap)).below hb1)
       have HB1 := Lib.hid (below_aa hb1)
       clear hb1
       have ya0 := (HO1.out).b0.c8
       have yr0 := (HO1.out).b1.cf7
       have yl := (HO1.out).b1.lt
       go_wp2_with fail
       refine (hP.out _ (HH.out _ HB1.out)).mono ?_
       rintro e w2 ⟨rfl, hb2⟩
       rw [HS.out, HE.out]
       clear ya0 yr0 yl
       have HB2 := Lib.hid (HB1.out.trans (hb2.mono HB1.out.size))
       have HO2 := Lib.hid (HO1.out.below hb2)
       have HL2 := Lib.hid (show w.heap.size + 1 < w2.heap.size from HO2.out.b1.lt)
       clear hb2
       go_upto_region 4 with (fail)
       have HO3 := Lib.hid (HO2.out.alloc (.cells #[.int .i64 (d : Nat), .string (nameN o.path), .int .i64 (id : Nat)] 111))
       have HX3 := Lib.hid (Blk.new w2 111 #[.int .i64 (d : Nat), .string (nameN o.path), .int .i64 (id : Nat)])
       have HB3 := Lib.hid (HB2.out.alloc HB2.out.size (.cells #[.int .i64 (d : Nat), .string (nameN o.path), .int .i64 (id : Nat)] 111))
       generalize w2.alloc (.cells #[.int .i64 (d : Nat), .string (nameN o.path), .int .i64 (id : Nat)] 111) = w3 at *
       have za0 := (HO3.out).b0.c8
       have zr0 := (HO3.out).b1.cf7
       have zl := (HO3.out).b1.lt
       have zx0 := HX3.out.cell 0
       have zx1 := HX3.out.cell 1
       have zx2 := HX3.out.cell 2
       have zxq := HX3.out.frozen 2
       simp at zx0 zx1 zx2
       obtain ⟨zt0, zt1, zt2⟩ := (HH.out _ HB3.out).cells
       go_wp2_with fail
       refine (HD.out _ (HH.out _ HB3.out)).mono ?_
       rintro e w4 ⟨rfl, rfl⟩
       go_wp2_with fail
       refine (HFU.out _ (HH.out _ HB3.out)).mono ?_
       rintro e w4 ⟨rfl, hb4⟩
       clear za0 zr0 zl zx0 zx1 zx2 zxq zt0 zt1 zt2
       have HO4 := Lib.hid (HO3.out.below hb4)
       have HX4 := Lib.hid (HX3.out.below hb4 HX3.out.lt)
       have HB4 := Lib.hid (HB3.out.trans (hb4.mono HB3.out.size))
       clear hb4
       have ua0 := (HO4.out).b0.c8
       have ur0 := (HO4.out).b1.cf7
       have ul := (HO4.out).b1.lt
       have ux0 := HX4.out.cell 0
       have ux1 := HX4.out.cell 1
       have ux2 := HX4.out.cell 2
       have uxq := HX4.out.frozen 2
       simp at ux0 ux1 ux2
       go_wp2_with fail
       refine bodyPost_ret (v := .agg #[.int .i64 47, .int .i64 0, .slice none 0 0, .slice none 0 0, .int .i64 0, .int .i64 0, .int .i64 0]) (by simp [results, Tryz.results26, go_sem, ur0, ul]) rfl ?_
       rw [HR.out]
       exact ans_same HT.out (ans_set HB4.out (by omega) _ _ _ _ _ _ _)
      ·have hR : a.openT o = _ := (hgood (by rw [hE, if_neg hu])).trans (hS.trans (opens_eq (show usedN a.op ≠ 8 from hu)))
       rw [hR, ← b3]
       by_cases h16 : o.flags / 16 % 2 = 1
       ·rw [if_pos h16]
        exact opened_old_cut o A n cap d _ w HT.out HG.out hc hp hd rfl hz' hlive hdd hf t8 hu (bne_iff_ne.2 (bit_on b16 h16))
       ·rw [if_neg h16]
        exact opened_old o A n cap d _ w HT.out HG.out hc hp hd rfl hz' hlive hdd hf t8 hu (bne_eq_false_iff_eq.2 (bit_off b16 h16))
  ·have HS := Lib.hid (spot_bad he)
   have h1 : ((a.par o.path 43).2 != 0) = true := bne_iff_ne.2 he
   have HR := Lib.hid (show a.openT o = a from hbad (by rw [hE, if_pos he]; exact he))
   clear hbad hgood hE he b8 b4 b16 b3 b1 b2 hf
   go_enter Tryz.func26, Tryz.ntmps26
   go_wp2_with fail
   refine (HFL.out _).mono ?_
   rintro e w1 ⟨rfl, hb1⟩
   have HO1 := Lib.hid ((OO.start w (oc o A n cap)).below hb1)
   have HB1 := Lib.hid (below_aa hb1)
   clear hb1
   have ya0 := (HO1.out).b0.c8
   have yr0 := (HO1.out).b1.cf7
   have yl := (HO1.out).b1.lt
   go_wp2_with fail
   refine (hP.out _ (HH.out _ HB1.out)).mono ?_
   rintro e w2 ⟨rfl, hb2⟩
   rw [HS.out]
   clear ya0 yr0 yl
   have HB2 := Lib.hid (HB1.out.trans (hb2.mono HB1.out.size))
   have HO2 := Lib.hid (HO1.out.below hb2)
   have HL2 := Lib.hid (show w.heap.size + 1 < w2.heap.size from HO2.out.b1.lt)
   clear hb2
   go_upto_region 4 with (fail)
   have HO3 := Lib.hid (HO2.out.alloc (.cells #[.int .i64 0, .string ⟨#[]⟩, .int .i64 0] 111))
   have HX3 := Lib.hid (Blk.new w2 111 #[.int .i64 0, .string ⟨#[]⟩, .int .i64 0])
   have HB3 := Lib.hid (HB2.out.alloc HB2.out.size (.cells #[.int .i64 0, .string ⟨#[]⟩, .int .i64 0] 111))
   generalize w2.alloc (.cells #[.int .i64 0, .string ⟨#[]⟩, .int .i64 0] 111) = w3 at *
   have za0 := (HO3.out).b0.c8
   have zr0 := (HO3.out).b1.cf7
   have zl := (HO3.out).b1.lt
   have zx0 := HX3.out.cell 0
   have zx1 := HX3.out.cell 1
   have zx2 := HX3.out.cell 2
   have zxq := HX3.out.frozen 2
   simp at zx0 zx1 zx2
   go_wp2_with fail
   refine bodyPost_ret (v := .agg #[.int .i64 (a.par o.path 43).2, .int .i64 0, .slice none 0 0, .slice none 0 0, .int .i64 0, .int .i64 0, .int .i64 0]) (by simp [results, Tryz.results26, go_sem, zr0, zl]) rfl ?_
   rw [HR.out]
   exact ans_same HT.out (ans_set HB3.out (by omega) _ _ _ _ _ _ _)
 ·have hf2 : flagsB o.flags = false := by simpa using hf
  rw [hf2] at HFL
  have HR := Lib.hid (show a.openT o = a from hbad (by unfold TS.openE; rw [if_pos hf2]; decide))
  clear hf hbad hgood hf2
  go_enter Tryz.func26, Tryz.ntmps26
  go_wp2_with fail
  refine (HFL.out _).mono ?_
  rintro e w1 ⟨rfl, hb1⟩
  have HO1 := Lib.hid ((OO.start w (oc o A n cap)).below hb1)
  have HB1 := Lib.hid (below_aa hb1)
  clear hb1
  have ya0 := (HO1.out).b0.c8
  have yr0 := (HO1.out).b1.cf7
  have yl := (HO1.out).b1.lt
  go_wp2_with fail
  refine bodyPost_ret (v := .agg #[.int .i64 2, .int .i64 0, .slice none 0 0, .slice none 0 0, .int .i64 0, .int .i64 0, .int .i64 0]) (by simp [results, Tryz.results26, go_sem, yr0, yl]) rfl ?_
  rw [HR.out]
  exact ans_same HT.out (ans_set HB1.out (by omega) _ _ _ _ _ _ _)
end
end Go.Proofs.YtpkhglfhpggceaaGreatDoor
