/- What package tree does to memory: opened, where it is OK (printed by genopok.py). -/
import Derived.Test.YtpkhglfhpggceaaGreatDoorTtab
import Derived.Deep.RegionHeld3
namespace Go.Proofs.YtpkhglfhpggceaaGreatDoor
set_option maxRecDepth 100000
set_option maxHeartbeats 16000000
open Go.RowKit
set_option linter.unusedVariables false
set_option linter.unusedSimpArgs false
theorem OO.turn2 {S : Nat → Prop} {w w' : World} {B : Nat} {cs : Array Value} (h : OO w B cs) (hT : Turn S w w') (h0 : ¬ S B) (h1 : ¬ S (B + 1)) : OO w' B cs := ⟨h.b0.turn hT h0, h.b1.turn hT h1⟩
section
variable {F : Nat → Prop} {w w' : World} {t c : Nat} {M : TMem} {a : TS}
theorem opened_old (o : OpT) (A : Option Addr) (n cap d id : Nat) (w : World) (h : TreeIs F w t M c a) (hg : Good a c) (hc : c ≤ 100000) (hp : o.path.size ≤ 1000)
  (hd : a.par o.path 43 = (d, 0)) (hid : findL (a.nd d).names (nameN o.path) = id) (hz : id ≠ 0) (hK : (a.nd id).kind ≠ 0) (hdd : (a.nd id).kind ≠ 2) (hf : flagsB o.flags = true) (t8 : (bits .and .i64 o.flags 8 != 0) = false) (hu : usedN a.op ≠ 8) (t16 : (bits .and .i64 o.flags 16 != 0) = false) :
  Calls Tryz.prog 26 #[.pointer (some ⟨t, 0, none⟩), o.val A n cap] w (AnsPost F t (c + 2) (opensT a id (bits .and .i64 o.flags 3)) w) := by
 unfold OpT.val
 have hP := Lib.hid (fun W (h : TreeIs F W t M c a) => parent_any o.path 43 W h hg hc hp (by decide))
 have HT := Lib.hid h
 have HH := Lib.hid (fun W (hb : Below w.heap.size w W) => h.below hb)
 have HFL := Lib.hid (fun W => flags_any o.flags W)
 rw [hf] at HFL
 have hfew := hg.few
 have hlast := (hg.in_last hK).2
 have hidb : id ≤ 1000000 := by omega
 have HS := Lib.hid (spot_ok hd)
 have HE := Lib.hid (show (a.par o.path 43).2 = 0 by rw [hd])
 rw [hid] at HS
 have HFU := Lib.hid (fun W (h : TreeIs F W t M c a) => tfull_any W h)
 rw [decide_eq_false hu] at HFU
 have HD := Lib.hid (fun W h => dir_any (F := F) (t := t) (c := c) (M := M) (a := a) id W h hK hidb)
 rw [decide_eq_false hdd] at HD
 have HK := Lib.hid hK
 have HR : Hid (opensT a id (bits .and .i64 o.flags 3) = opensT a id (bits .and .i64 o.flags 3)) := Lib.hid rfl
 have t1 : (((id : Nat) : Int) != 0) = true := bne_iff_ne.2 (by omega)
 have t2 : (((id : Nat) : Int) == 0) = false := beq_eq_false_iff_ne.2 (by omega)
 clear h hg hd hid hz hK hdd hf hu hfew hlast
 go_enter Tryz.func26, Tryz.ntmps26
 go_wp2_with fail
 refine (HFL.out _).mono ?_
 rintro e w1 ⟨rfl, hb1⟩
 have HO1 := Lib.hid ((OO.start w (oc o A n cap)).below hb1)
 have HB1 := Lib.hid (below_aa hb1)
 clear hb1
 have ya0 := (HO1.out).b0.c8
 have yr0 := (HO1.out).b1.cf7
 have yl := (HO1.out).b1.lt
 go_wp2_with fail
 refine (hP.out _ (HH.out _ HB1.out)).mono ?_
 rintro e w2 ⟨rfl, hb2⟩
 rw [HS.out, HE.out]
 clear ya0 yr0 yl
 have HB2 := Lib.hid (HB1.out.trans (hb2.mono HB1.out.size))
 have HO2 := Lib.hid (HO1.out.below hb2)
 have HL2 := Lib.hid (show w.heap.size + 1 < w2.heap.size from HO2.out.b1.lt)
 clear hb2
 go_upto_region 4 with (fail)
 have HO3 := Lib.hid (HO2.out.alloc (.cells #[.int .i64 (d : Nat), .string (nameN o.path), .int .i64 (id : Nat)] 111))
 have HX3 := Lib.hid (Blk.new w2 111 #[.int .i64 (d : Nat), .string (nameN o.path), .int .i64 (id : Nat)])
 have HB3 := Lib.hid (HB2.out.alloc HB2.out.size (.cells #[.int .i64 (d : Nat), .string (nameN o.path), .int .i64 (id : Nat)] 111))
 generalize w2.alloc (.cells #[.int .i64 (d : Nat), .string (nameN o.path), .int .i64 (id : Nat)] 111) = w3 at *
 have za0 := (HO3.out).b0.c8
 have zr0 := (HO3.out).b1.cf7
 have zl := (HO3.out).b1.lt
 have zx0 := HX3.out.cell 0
 have zx1 := HX3.out.cell 1
 have zx2 := HX3.out.cell 2
 have zxq := HX3.out.frozen 2
 simp at zx0 zx1 zx2
 go_wp2_with fail
 refine (HD.out _ (HH.out _ HB3.out)).mono ?_
 rintro e w4 ⟨rfl, rfl⟩
 obtain ⟨zt0, zt1, zt2⟩ := (HH.out _ HB3.out).cells
 go_wp2_with fail
 refine (HFU.out _ (HH.out _ HB3.out)).mono ?_
 rintro e w4 ⟨rfl, hb4⟩
 clear za0 zr0 zl zx0 zx1 zx2 zxq zt0 zt1 zt2
 have HO4 := Lib.hid (HO3.out.below hb4)
 have HX4 := Lib.hid (HX3.out.below hb4 HX3.out.lt)
 have HB4 := Lib.hid (HB3.out.trans (hb4.mono HB3.out.size))
 clear hb4
 have ua0 := (HO4.out).b0.c8
 have ur0 := (HO4.out).b1.cf7
 have ul := (HO4.out).b1.lt
 have ux0 := HX4.out.cell 0
 have ux1 := HX4.out.cell 1
 have ux2 := HX4.out.cell 2
 have uxq := HX4.out.frozen 2
 simp at ux0 ux1 ux2
 have HT4 := Lib.hid (HH.out _ HB4.out)
 have HTW4 := Lib.hid (Turn.of_below (S := F) HB4.out)
 have HFF : Hid (∀ j, F j → F j ∨ w.heap.size ≤ j) := Lib.hid fun j hj => .inl hj
 have HN0 : Hid (¬ F w.heap.size) := Lib.hid fun e => by have := HT.out.lt _ e; omega
 have HN1 : Hid (¬ F (w.heap.size + 1)) := Lib.hid fun e => by have := HT.out.lt _ e; omega
 have HNX : Hid (¬ F w2.heap.size) := Lib.hid fun e => by
  have := HT.out.lt _ e
  have := HL2.out
  omega
 have HCC : Hid (c ≤ c + 2) := Lib.hid (by omega)
 obtain ⟨ut0, ut1, ut2⟩ := HT4.out.cells
 go_upto_region 19 with (fail)
 clear ua0 ur0 ul ux0 ux1 ux2 uxq ut0 ut1 ut2
 have HOD := Lib.hid HO4.out.drew
 have HXD := Lib.hid HX4.out.drew
 have HTD := Lib.hid HT4.out.drew
 have HWL := Lib.hid HO4.out.b1.lt
 obtain ⟨vt0, vt1, vt2⟩ := HTD.out.cells
 have va6 := HOD.out.b0.cell 6
 have vx2 := HXD.out.cell 2
 simp at va6 vx2
 have hS0 := And.intro vt2 (And.intro va6 vx2)
 have HV2 := Lib.hid vt2
 clear vt0 vt1 vt2 va6 vx2
 go_region_held3 (fun W => W.cell? ⟨t, 2, none⟩ = some (.pointer (some ⟨M.tb, 0, none⟩)) ∧ W.cell? ⟨w.heap.size, 6, none⟩ = some (.int .i64 o.flags) ∧ W.cell? ⟨w2.heap.size, 2, none⟩ = some (.int .i64 (id : Nat)))
  (first | exact hS0 | exact hS1)
  (first
   | (go_at_call 63
      refine (topen_any _ _ _ HTD.out).mono ?_
      rintro e w9 ⟨⟨i, j, rfl⟩, hs9, hTu9, hbt⟩
      have va6 := (HOD.out.turn2 hTu9 HN0.out HN1.out).b0.cell 6
      have vx2 := (HXD.out.turn hTu9 HNX.out).cell 2
      simp at va6 vx2
      have hS1 := And.intro ((World.cell?_of_block (a := ⟨t, 2, none⟩) hbt).trans HV2.out) (And.intro va6 vx2)
      have HS9 := Lib.hid hs9
      have HTu9 := Lib.hid hTu9
      clear hs9 hTu9 hbt va6 vx2))
 clear hS0 hS1
 have HOF := Lib.hid (HOD.out.turn2 HTu9.out HN0.out HN1.out)
 have vr0 := (HOF.out).b1.cf7
 have vl := (HOF.out).b1.lt
 go_wp2_with fail
 refine bodyPost_ret (v := .agg #[.int .i64 j, .int .i64 i, .slice none 0 0, .slice none 0 0, .int .i64 0, .int .i64 0, .int .i64 0]) (by simp [results, Tryz.results26, go_sem, vr0, vl]) rfl ?_
 exact ans_fin HT.out HS9.out HCC.out ((HTW4.out.drew).trans HTu9.out (fun i hi hF => (HFF.out i hF).resolve_right (by omega))) HTW4.out.size HFF.out (by omega) HWL.out HN1.out
theorem opened_old_cut (o : OpT) (A : Option Addr) (n cap d id : Nat) (w : World) (h : TreeIs F w t M c a) (hg : Good a c) (hc : c ≤ 100000) (hp : o.path.size ≤ 1000)
  (hd : a.par o.path 43 = (d, 0)) (hid : findL (a.nd d).names (nameN o.path) = id) (hz : id ≠ 0) (hK : (a.nd id).kind ≠ 0) (hdd : (a.nd id).kind ≠ 2) (hf : flagsB o.flags = true) (t8 : (bits .and .i64 o.flags 8 != 0) = false) (hu : usedN a.op ≠ 8) (t16 : (bits .and .i64 o.flags 16 != 0) = true) :
  Calls Tryz.prog 26 #[.pointer (some ⟨t, 0, none⟩), o.val A n cap] w (AnsPost F t (c + 2) (opensT (a.setData id []) id (bits .and .i64 o.flags 3)) w) := by
 unfold OpT.val
 have hP := Lib.hid (fun W (h : TreeIs F W t M c a) => parent_any o.path 43 W h hg hc hp (by decide))
 have HT := Lib.hid h
 have HH := Lib.hid (fun W (hb : Below w.heap.size w W) => h.below hb)
 have HFL := Lib.hid (fun W => flags_any o.flags W)
 rw [hf] at HFL
 have hfew := hg.few
 have hlast := (hg.in_last hK).2
 have hidb : id ≤ 1000000 := by omega
 have HS := Lib.hid (spot_ok hd)
 have HE := Lib.hid (show (a.par o.path 43).2 = 0 by rw [hd])
 rw [hid] at HS
 have HFU := Lib.hid (fun W (h : TreeIs F W t M c a) => tfull_any W h)
 rw [decide_eq_false hu] at HFU
 have HD := Lib.hid (fun W h => dir_any (F := F) (t := t) (c := c) (M := M) (a := a) id W h hK hidb)
 rw [decide_eq_false hdd] at HD
 have HK := Lib.hid hK
 have HR : Hid (opensT (a.setData id []) id (bits .and .i64 o.flags 3) = opensT (a.setData id []) id (bits .and .i64 o.flags 3)) := Lib.hid rfl
 have t1 : (((id : Nat) : Int) != 0) = true := bne_iff_ne.2 (by omega)
 have t2 : (((id : Nat) : Int) == 0) = false := beq_eq_false_iff_ne.2 (by omega)
 clear h hg hd hid hz hK hdd hf hu hfew hlast
 go_enter Tryz.func26, Tryz.ntmps26
 go_wp2_with fail
 refine (HFL.out _).mono ?_
 rintro e w1 ⟨rfl, hb1⟩
 have HO1 := Lib.hid ((OO.start w (oc o A n cap)).below hb1)
 have HB1 := Lib.hid (below_aa hb1)
 clear hb1
 have ya0 := (HO1.out).b0.c8
 have yr0 := (HO1.out).b1.cf7
 have yl := (HO1.out).b1.lt
 go_wp2_with fail
 refine (hP.out _ (HH.out _ HB1.out)).mono ?_
 rintro e w2 ⟨rfl, hb2⟩
 rw [HS.out, HE.out]
 clear ya0 yr0 yl
 have HB2 := Lib.hid (HB1.out.trans (hb2.mono HB1.out.size))
 have HO2 := Lib.hid (HO1.out.below hb2)
 have HL2 := Lib.hid (show w.heap.size + 1 < w2.heap.size from HO2.out.b1.lt)
 clear hb2
 go_upto_region 4 with (fail)
 have HO3 := Lib.hid (HO2.out.alloc (.cells #[.int .i64 (d : Nat), .string (nameN o.path), .int .i64 (id : Nat)] 111))
 have HX3 := Lib.hid (Blk.new w2 111 #[.int .i64 (d : Nat), .string (nameN o.path), .int .i64 (id : Nat)])
 have HB3 := Lib.hid (HB2.out.alloc HB2.out.size (.cells #[.int .i64 (d : Nat), .string (nameN o.path), .int .i64 (id : Nat)] 111))
 generalize w2.alloc (.cells #[.int .i64 (d : Nat), .string (nameN o.path), .int .i64 (id : Nat)] 111) = w3 at *
 have za0 := (HO3.out).b0.c8
 have zr0 := (HO3.out).b1.cf7
 have zl := (HO3.out).b1.lt
 have zx0 := HX3.out.cell 0
 have zx1 := HX3.out.cell 1
 have zx2 := HX3.out.cell 2
 have zxq := HX3.out.frozen 2
 simp at zx0 zx1 zx2
 go_wp2_with fail
 refine (HD.out _ (HH.out _ HB3.out)).mono ?_
 rintro e w4 ⟨rfl, rfl⟩
 obtain ⟨zt0, zt1, zt2⟩ := (HH.out _ HB3.out).cells
 go_wp2_with fail
 refine (HFU.out _ (HH.out _ HB3.out)).mono ?_
 rintro e w4 ⟨rfl, hb4⟩
 clear za0 zr0 zl zx0 zx1 zx2 zxq zt0 zt1 zt2
 have HO4 := Lib.hid (HO3.out.below hb4)
 have HX4 := Lib.hid (HX3.out.below hb4 HX3.out.lt)
 have HB4 := Lib.hid (HB3.out.trans (hb4.mono HB3.out.size))
 clear hb4
 have ua0 := (HO4.out).b0.c8
 have ur0 := (HO4.out).b1.cf7
 have ul := (HO4.out).b1.lt
 have ux0 := HX4.out.cell 0
 have ux1 := HX4.out.cell 1
 have ux2 := HX4.out.cell 2
 have uxq := HX4.out.frozen 2
 simp at ux0 ux1 ux2
 have HT4 := Lib.hid (HH.out _ HB4.out)
 have HTW4 := Lib.hid (Turn.of_below (S := F) HB4.out)
 have HFF : Hid (∀ j, F j → F j ∨ w.heap.size ≤ j) := Lib.hid fun j hj => .inl hj
 have HN0 : Hid (¬ F w.heap.size) := Lib.hid fun e => by have := HT.out.lt _ e; omega
 have HN1 : Hid (¬ F (w.heap.size + 1)) := Lib.hid fun e => by have := HT.out.lt _ e; omega
 have HNX : Hid (¬ F w2.heap.size) := Lib.hid fun e => by
  have := HT.out.lt _ e
  have := HL2.out
  omega
 have HCC : Hid (c ≤ c + 2) := Lib.hid (by omega)
 obtain ⟨ut0, ut1, ut2⟩ := HT4.out.cells
 go_upto_region 18 with (fail)
 clear ua0 ur0 ul ux0 ux1 ux2 uxq ut0 ut1 ut2
 have HTD0 := Lib.hid HT4.out.drew
 have k2 := HX4.out.drew.cell 2
 simp at k2
 obtain ⟨kt0, kt1, kt2⟩ := HTD0.out.cells
 obtain ⟨kn0, kn1, kn2, kn3⟩ := HTD0.out.ncells HK.out
 have kl := HTD0.out.look HK.out hidb
 have kq := (HTD0.out.node _ HK.out).1.frozen 2
 have HM := Lib.hid (HTD0.out.node _ HK.out).2.2.2.1
 go_region
 clear k2 kt0 kt1 kt2 kn0 kn1 kn2 kn3 kl kq
 have hTc : Turn (· = M.hp id) w4 (w4.setCell ⟨M.hp id, 2, none⟩ (.slice none 0 0)).drew := ((Turn.refl (· = M.hp id) w4).setCell (p := ⟨M.hp id, 2, none⟩) (fun _ => rfl) _).drew
 have HT5 := Lib.hid (HT4.out.cutNode HK.out).drew
 have HO5 := Lib.hid (HO4.out.turn2 hTc (fun e => HN0.out (by rw [e]; exact HM.out)) (fun e => HN1.out (by rw [e]; exact HM.out)))
 have HX5 := Lib.hid (HX4.out.turn hTc (fun e => HNX.out (by rw [e]; exact HM.out)))
 have HTW5 := Lib.hid (HTW4.out.trans (S' := (· = M.hp id)) hTc (fun i hi e => (HFF.out i (by rw [e]; exact HM.out)).resolve_right (by omega)))
 clear hTc
 generalize (w4.setCell ⟨M.hp id, 2, none⟩ (.slice none 0 0)).drew = w5 at *
 go_upto_region 19 with (fail)
 have HOD := Lib.hid HO5.out.drew
 have HXD := Lib.hid HX5.out.drew
 have HTD := Lib.hid HT5.out.drew
 have HWL := Lib.hid HO5.out.b1.lt
 obtain ⟨vt0, vt1, vt2⟩ := HTD.out.cells
 have va6 := HOD.out.b0.cell 6
 have vx2 := HXD.out.cell 2
 simp at va6 vx2
 have hS0 := And.intro vt2 (And.intro va6 vx2)
 have HV2 := Lib.hid vt2
 clear vt0 vt1 vt2 va6 vx2
 go_region_held3 (fun W => W.cell? ⟨t, 2, none⟩ = some (.pointer (some ⟨M.tb, 0, none⟩)) ∧ W.cell? ⟨w.heap.size, 6, none⟩ = some (.int .i64 o.flags) ∧ W.cell? ⟨w2.heap.size, 2, none⟩ = some (.int .i64 (id : Nat)))
  (first | exact hS0 | exact hS1)
  (first
   | (go_at_call 63
      refine (topen_any _ _ _ HTD.out).mono ?_
      rintro e w9 ⟨⟨i, j, rfl⟩, hs9, hTu9, hbt⟩
      have va6 := (HOD.out.turn2 hTu9 HN0.out HN1.out).b0.cell 6
      have vx2 := (HXD.out.turn hTu9 HNX.out).cell 2
      simp at va6 vx2
      have hS1 := And.intro ((World.cell?_of_block (a := ⟨t, 2, none⟩) hbt).trans HV2.out) (And.intro va6 vx2)
      have HS9 := Lib.hid hs9
      have HTu9 := Lib.hid hTu9
      clear hs9 hTu9 hbt va6 vx2))
 clear hS0 hS1
 have HOF := Lib.hid (HOD.out.turn2 HTu9.out HN0.out HN1.out)
 have vr0 := (HOF.out).b1.cf7
 have vl := (HOF.out).b1.lt
 go_wp2_with fail
 refine bodyPost_ret (v := .agg #[.int .i64 j, .int .i64 i, .slice none 0 0, .slice none 0 0, .int .i64 0, .int .i64 0, .int .i64 0]) (by simp [results, Tryz.results26, go_sem, vr0, vl]) rfl ?_
 exact ans_fin HT.out HS9.out HCC.out ((HTW5.out.drew).trans HTu9.out (fun i hi hF => (HFF.out i hF).resolve_right (by omega))) HTW5.out.size HFF.out (by omega) HWL.out HN1.out
theorem opened_new (o : OpT) (A : Option Addr) (n cap d : Nat) (w : World) (h : TreeIs F w t M c a) (hg : Good a c) (hc : c ≤ 100000) (hp : o.path.size ≤ 1000)
  (hd : a.par o.path 43 = (d, 0)) (hid : findL (a.nd d).names (nameN o.path) = 0) (hf : flagsB o.flags = true) (t4 : (bits .and .i64 o.flags 4 == 0) = false) (hu : usedN a.op ≠ 8) (t16 : (bits .and .i64 o.flags 16 != 0) = false) :
  Calls Tryz.prog 26 #[.pointer (some ⟨t, 0, none⟩), o.val A n cap] w (AnsPost F t (c + 2) (opensT (a.more d (nameN o.path) 1) ((a.last : Int) + 1) (bits .and .i64 o.flags 3)) w) := by
 unfold OpT.val
 have hdir := par_dir (show (43 : Int) ≠ 0 by decide) (show (a.par o.path 43).2 = 0 by rw [hd])
 rw [hd] at hdir
 have HMK := Lib.hid (fun W (h : TreeIs F W t M c a) => show Calls Tryz.prog 62 #[.pointer (some ⟨t, 0, none⟩), .agg #[.int .i64 (d : Nat), .string (nameN o.path), .int .i64 0], .int .i64 1] W _ from make_any d 0 (nameN o.path) 1 W h hg hc hdir (Nat.le_trans (nameN_size _) (by omega)) (.inl rfl))
 have hP := Lib.hid (fun W (h : TreeIs F W t M c a) => parent_any o.path 43 W h hg hc hp (by decide))
 have HT := Lib.hid h
 have HH := Lib.hid (fun W (hb : Below w.heap.size w W) => h.below hb)
 have HFL := Lib.hid (fun W => flags_any o.flags W)
 rw [hf] at HFL
 have hfew := hg.few
 have hidb : a.last + 1 ≤ 1000000 := by omega
 have HS := Lib.hid (spot_ok hd)
 have HE := Lib.hid (show (a.par o.path 43).2 = 0 by rw [hd])
 rw [hid] at HS
 have HS : Hid (a.spot o.path 43 = .agg #[.int .i64 (d : Nat), .string (nameN o.path), .int .i64 0]) := Lib.hid HS.out
 have HFU := Lib.hid (fun W (h : TreeIs F W t M c a) => tfull_any W h)
 rw [decide_eq_false hu] at HFU
 clear h hg hd hid hdir hf hu hfew
 go_enter Tryz.func26, Tryz.ntmps26
 go_wp2_with fail
 refine (HFL.out _).mono ?_
 rintro e w1 ⟨rfl, hb1⟩
 have HO1 := Lib.hid ((OO.start w (oc o A n cap)).below hb1)
 have HB1 := Lib.hid (below_aa hb1)
 clear hb1
 have ya0 := (HO1.out).b0.c8
 have yr0 := (HO1.out).b1.cf7
 have yl := (HO1.out).b1.lt
 go_wp2_with fail
 refine (hP.out _ (HH.out _ HB1.out)).mono ?_
 rintro e w2 ⟨rfl, hb2⟩
 rw [HS.out, HE.out]
 clear ya0 yr0 yl
 have HB2 := Lib.hid (HB1.out.trans (hb2.mono HB1.out.size))
 have HO2 := Lib.hid (HO1.out.below hb2)
 have HL2 := Lib.hid (show w.heap.size + 1 < w2.heap.size from HO2.out.b1.lt)
 clear hb2
 go_upto_region 4 with (fail)
 have HO3 := Lib.hid (HO2.out.alloc (.cells #[.int .i64 (d : Nat), .string (nameN o.path), .int .i64 0] 111))
 have HX3 := Lib.hid (Blk.new w2 111 #[.int .i64 (d : Nat), .string (nameN o.path), .int .i64 0])
 have HB3 := Lib.hid (HB2.out.alloc HB2.out.size (.cells #[.int .i64 (d : Nat), .string (nameN o.path), .int .i64 0] 111))
 generalize w2.alloc (.cells #[.int .i64 (d : Nat), .string (nameN o.path), .int .i64 0] 111) = w3 at *
 have za0 := (HO3.out).b0.c8
 have zr0 := (HO3.out).b1.cf7
 have zl := (HO3.out).b1.lt
 have zx0 := HX3.out.cell 0
 have zx1 := HX3.out.cell 1
 have zx2 := HX3.out.cell 2
 have zxq := HX3.out.frozen 2
 simp at zx0 zx1 zx2
 obtain ⟨zt0, zt1, zt2⟩ := (HH.out _ HB3.out).cells
 go_wp2_with fail
 refine (HFU.out _ (HH.out _ HB3.out)).mono ?_
 rintro e w4 ⟨rfl, hb4⟩
 clear za0 zr0 zl zx0 zx1 zx2 zxq zt0 zt1 zt2
 have HO4 := Lib.hid (HO3.out.below hb4)
 have HX4 := Lib.hid (HX3.out.below hb4 HX3.out.lt)
 have HB4 := Lib.hid (HB3.out.trans (hb4.mono HB3.out.size))
 clear hb4
 have ua0 := (HO4.out).b0.c8
 have ur0 := (HO4.out).b1.cf7
 have ul := (HO4.out).b1.lt
 have ux0 := HX4.out.cell 0
 have ux1 := HX4.out.cell 1
 have ux2 := HX4.out.cell 2
 have uxq := HX4.out.frozen 2
 simp at ux0 ux1 ux2
 go_wp2_with fail
 refine (HMK.out _ (HH.out _ HB4.out)).mono ?_
 rintro e w5 ⟨rfl, hs5, hTu5⟩
 clear ua0 ur0 ul ux0 ux1 ux2 uxq
 have HL4 := Lib.hid (show w.heap.size + 1 < w4.heap.size from HO4.out.b1.lt)
 have HX4L := Lib.hid HX4.out.lt
 have HFO : Hid (∀ j, F j → j < w.heap.size) := Lib.hid fun j e => HT.out.lt j e
 have HO5 := Lib.hid (HO4.out.turn2 hTu5 (fun e => by have := HFO.out _ e; omega) (fun e => by have := HFO.out _ e; omega))
 have HX5 := Lib.hid (HX4.out.turn hTu5 (fun e => by
  have := HFO.out _ e
  have := HL2.out
  omega))
 obtain ⟨M5, hT5⟩ := hs5
 have HT5 := Lib.hid hT5
 have HTu5 := Lib.hid hTu5
 clear hT5 hTu5
 have x5 := HX5.out.cell 2
 have q5 := HX5.out.frozen 2
 simp at x5
 go_upto_region 17 with (fail)
 clear x5 q5
 have hTs : Turn (· = w2.heap.size) w5 (w5.setCell ⟨w2.heap.size, 2, none⟩ (.int .i64 ((a.last : Int) + 1))) := (Turn.refl (· = w2.heap.size) w5).setCell (p := ⟨w2.heap.size, 2, none⟩) (fun _ => rfl) _
 have HNX : Hid (¬ grow F w4 w5 w2.heap.size) := Lib.hid fun e => by
  have := HX4L.out
  have := HL2.out
  rcases e with e | e
  ·have := HFO.out _ e; omega
  ·omega
 have HN0 : Hid (¬ grow F w4 w5 w.heap.size) := Lib.hid fun e => by
  have := HL4.out
  rcases e with e | e
  ·have := HFO.out _ e; omega
  ·omega
 have HN1 : Hid (¬ grow F w4 w5 (w.heap.size + 1)) := Lib.hid fun e => by
  have := HL4.out
  rcases e with e | e
  ·have := HFO.out _ e; omega
  ·omega
 have HFF : Hid (∀ j, grow F w4 w5 j → F j ∨ w.heap.size ≤ j) := Lib.hid fun j e => by
  rcases e with e | e
  ·exact .inl e
  ·have := HL4.out
   exact .inr (by omega)
 have HT6 := Lib.hid (HT5.out.turn hTs (fun j hj e => HNX.out (by rw [← e]; exact hj)) (fun e => by have := HL2.out; omega))
 have HO6 := Lib.hid (HO5.out.turn2 hTs (fun e => by have := HL2.out; omega) (fun e => by have := HL2.out; omega))
 have HX6 := Lib.hid (HX5.out.set_ 2 (.int .i64 ((a.last : Int) + 1)))
 have HTW6 := Lib.hid (((Turn.of_below (S := F) HB4.out).trans (S' := F) HTu5.out (fun i _ e => e)).trans hTs (fun i hi e => by have := HL2.out; omega))
 clear hTs
 generalize w5.setCell ⟨w2.heap.size, 2, none⟩ (.int .i64 ((a.last : Int) + 1)) = w6 at *
 have y6 := HO6.out.b0.cell 6
 simp at y6
 have HCC : Hid (c + 2 ≤ c + 2) := Lib.hid (Nat.le_refl _)
 have HK : Hid (((a.more d (nameN o.path) 1).nd (a.last + 1)).kind ≠ 0) := Lib.hid (by
  unfold TS.more
  rw [kind_put]
  show (setF a.nd (a.last + 1) ⟨1, 1, [], []⟩ (a.last + 1)).kind ≠ 0
  rw [setF_same]
  decide)
 go_upto_region 19 with (fail)
 clear y6
 have HOD := Lib.hid HO6.out.drew
 have HXD := Lib.hid HX6.out.drew
 have HTD := Lib.hid HT6.out.drew
 have HWL := Lib.hid HO6.out.b1.lt
 obtain ⟨vt0, vt1, vt2⟩ := HTD.out.cells
 have va6 := HOD.out.b0.cell 6
 have vx2 := HXD.out.cell 2
 simp at va6 vx2
 have hS0 := And.intro vt2 (And.intro va6 vx2)
 have HV2 := Lib.hid vt2
 clear vt0 vt1 vt2 va6 vx2
 go_region_held3 (fun W => W.cell? ⟨t, 2, none⟩ = some (.pointer (some ⟨M5.tb, 0, none⟩)) ∧ W.cell? ⟨w.heap.size, 6, none⟩ = some (.int .i64 o.flags) ∧ W.cell? ⟨w2.heap.size, 2, none⟩ = some (.int .i64 ((a.last : Int) + 1)))
  (first | exact hS0 | exact hS1)
  (first
   | (go_at_call 63
      refine (topen_any _ _ _ HTD.out).mono ?_
      rintro e w9 ⟨⟨i, j, rfl⟩, hs9, hTu9, hbt⟩
      have va6 := (HOD.out.turn2 hTu9 HN0.out HN1.out).b0.cell 6
      have vx2 := (HXD.out.turn hTu9 HNX.out).cell 2
      simp at va6 vx2
      have hS1 := And.intro ((World.cell?_of_block (a := ⟨t, 2, none⟩) hbt).trans HV2.out) (And.intro va6 vx2)
      have HS9 := Lib.hid hs9
      have HTu9 := Lib.hid hTu9
      clear hs9 hTu9 hbt va6 vx2))
 clear hS0 hS1
 have HOF := Lib.hid (HOD.out.turn2 HTu9.out HN0.out HN1.out)
 have vr0 := (HOF.out).b1.cf7
 have vl := (HOF.out).b1.lt
 go_wp2_with fail
 refine bodyPost_ret (v := .agg #[.int .i64 j, .int .i64 i, .slice none 0 0, .slice none 0 0, .int .i64 0, .int .i64 0, .int .i64 0]) (by simp [results, Tryz.results26, go_sem, vr0, vl]) rfl ?_
 exact ans_fin HT.out HS9.out HCC.out ((HTW6.out.drew).trans HTu9.out (fun i hi hF => (HFF.out i hF).resolve_right (by omega))) HTW6.out.size HFF.out (by omega) HWL.out HN1.out
theorem opened_new_cut (o : OpT) (A : Option Addr) (n cap d : Nat) (w : World) (h : TreeIs F w t M c a) (hg : Good a c) (hc : c ≤ 100000) (hp : o.path.size ≤ 1000)
  (hd : a.par o.path 43 = (d, 0)) (hid : findL (a.nd d).names (nameN o.path) = 0) (hf : flagsB o.flags = true) (t4 : (bits .and .i64 o.flags 4 == 0) = false) (hu : usedN a.op ≠ 8) (t16 : (bits .and .i64 o.flags 16 != 0) = true) :
  Calls Tryz.prog 26 #[.pointer (some ⟨t, 0, none⟩), o.val A n cap] w (AnsPost F t (c + 2) (opensT ((a.more d (nameN o.path) 1).setData (a.last + 1) []) ((a.last : Int) + 1) (bits .and .i64 o.flags 3)) w) := by
 unfold OpT.val
 have hdir := par_dir (show (43 : Int) ≠ 0 by decide) (show (a.par o.path 43).2 = 0 by rw [hd])
 rw [hd] at hdir
 have HMK := Lib.hid (fun W (h : TreeIs F W t M c a) => show Calls Tryz.prog 62 #[.pointer (some ⟨t, 0, none⟩), .agg #[.int .i64 (d : Nat), .string (nameN o.path), .int .i64 0], .int .i64 1] W _ from make_any d 0 (nameN o.path) 1 W h hg hc hdir (Nat.le_trans (nameN_size _) (by omega)) (.inl rfl))
 have hP := Lib.hid (fun W (h : TreeIs F W t M c a) => parent_any o.path 43 W h hg hc hp (by decide))
 have HT := Lib.hid h
 have HH := Lib.hid (fun W (hb : Below w.heap.size w W) => h.below hb)
 have HFL := Lib.hid (fun W => flags_any o.flags W)
 rw [hf] at HFL
 have hfew := hg.few
 have hidb : a.last + 1 ≤ 1000000 := by omega
 have HS := Lib.hid (spot_ok hd)
 have HE := Lib.hid (show (a.par o.path 43).2 = 0 by rw [hd])
 rw [hid] at HS
 have HS : Hid (a.spot o.path 43 = .agg #[.int .i64 (d : Nat), .string (nameN o.path), .int .i64 0]) := Lib.hid HS.out
 have HFU := Lib.hid (fun W (h : TreeIs F W t M c a) => tfull_any W h)
 rw [decide_eq_false hu] at HFU
 clear h hg hd hid hdir hf hu hfew
 go_enter Tryz.func26, Tryz.ntmps26
 go_wp2_with fail
 refine (HFL.out _).mono ?_
 rintro e w1 ⟨rfl, hb1⟩
 have HO1 := Lib.hid ((OO.start w (oc o A n cap)).below hb1)
 have HB1 := Lib.hid (below_aa hb1)
 clear hb1
 have ya0 := (HO1.out).b0.c8
 have yr0 := (HO1.out).b1.cf7
 have yl := (HO1.out).b1.lt
 go_wp2_with fail
 refine (hP.out _ (HH.out _ HB1.out)).mono ?_
 rintro e w2 ⟨rfl, hb2⟩
 rw [HS.out, HE.out]
 clear ya0 yr0 yl
 have HB2 := Lib.hid (HB1.out.trans (hb2.mono HB1.out.size))
 have HO2 := Lib.hid (HO1.out.below hb2)
 have HL2 := Lib.hid (show w.heap.size + 1 < w2.heap.size from HO2.out.b1.lt)
 clear hb2
 go_upto_region 4 with (fail)
 have HO3 := Lib.hid (HO2.out.alloc (.cells #[.int .i64 (d : Nat), .string (nameN o.path), .int .i64 0] 111))
 have HX3 := Lib.hid (Blk.new w2 111 #[.int .i64 (d : Nat), .string (nameN o.path), .int .i64 0])
 have HB3 := Lib.hid (HB2.out.alloc HB2.out.size (.cells #[.int .i64 (d : Nat), .string (nameN o.path), .int .i64 0] 111))
 generalize w2.alloc (.cells #[.int .i64 (d : Nat), .string (nameN o.path), .int .i64 0] 111) = w3 at *
 have za0 := (HO3.out).b0.c8
 have zr0 := (HO3.out).b1.cf7
 have zl := (HO3.out).b1.lt
 have zx0 := HX3.out.cell 0
 have zx1 := HX3.out.cell 1
 have zx2 := HX3.out.cell 2
 have zxq := HX3.out.frozen 2
 simp at zx0 zx1 zx2
 obtain ⟨zt0, zt1, zt2⟩ := (HH.out _ HB3.out).cells
 go_wp2_with fail
 refine (HFU.out _ (HH.out _ HB3.out)).mono ?_
 rintro e w4 ⟨rfl, hb4⟩
 clear za0 zr0 zl zx0 zx1 zx2 zxq zt0 zt1 zt2
 have HO4 := Lib.hid (HO3.out.below hb4)
 have HX4 := Lib.hid (HX3.out.below hb4 HX3.out.lt)
 have HB4 := Lib.hid (HB3.out.trans (hb4.mono HB3.out.size))
 clear hb4
 have ua0 := (HO4.out).b0.c8
 have ur0 := (HO4.out).b1.cf7
 have ul := (HO4.out).b1.lt
 have ux0 := HX4.out.cell 0
 have ux1 := HX4.out.cell 1
 have ux2 := HX4.out.cell 2
 have uxq := HX4.out.frozen 2
 simp at ux0 ux1 ux2
 go_wp2_with fail
 refine (HMK.out _ (HH.out _ HB4.out)).mono ?_
 rintro e w5 ⟨rfl, hs5, hTu5⟩
 clear ua0 ur0 ul ux0 ux1 ux2 uxq
 have HL4 := Lib.hid (show w.heap.size + 1 < w4.heap.size from HO4.out.b1.lt)
 have HX4L := Lib.hid HX4.out.lt
 have HFO : Hid (∀ j, F j → j < w.heap.size) := Lib.hid fun j e => HT.out.lt j e
 have HO5 := Lib.hid (HO4.out.turn2 hTu5 (fun e => by have := HFO.out _ e; omega) (fun e => by have := HFO.out _ e; omega))
 have HX5 := Lib.hid (HX4.out.turn hTu5 (fun e => by
  have := HFO.out _ e
  have := HL2.out
  omega))
 obtain ⟨M5, hT5⟩ := hs5
 have HT5 := Lib.hid hT5
 have HTu5 := Lib.hid hTu5
 clear hT5 hTu5
 have x5 := HX5.out.cell 2
 have q5 := HX5.out.frozen 2
 simp at x5
 go_upto_region 17 with (fail)
 clear x5 q5
 have hTs : Turn (· = w2.heap.size) w5 (w5.setCell ⟨w2.heap.size, 2, none⟩ (.int .i64 ((a.last : Int) + 1))) := (Turn.refl (· = w2.heap.size) w5).setCell (p := ⟨w2.heap.size, 2, none⟩) (fun _ => rfl) _
 have HNX : Hid (¬ grow F w4 w5 w2.heap.size) := Lib.hid fun e => by
  have := HX4L.out
  have := HL2.out
  rcases e with e | e
  ·have := HFO.out _ e; omega
  ·omega
 have HN0 : Hid (¬ grow F w4 w5 w.heap.size) := Lib.hid fun e => by
  have := HL4.out
  rcases e with e | e
  ·have := HFO.out _ e; omega
  ·omega
 have HN1 : Hid (¬ grow F w4 w5 (w.heap.size + 1)) := Lib.hid fun e => by
  have := HL4.out
  rcases e with e | e
  ·have := HFO.out _ e; omega
  ·omega
 have HFF : Hid (∀ j, grow F w4 w5 j → F j ∨ w.heap.size ≤ j) := Lib.hid fun j e => by
  rcases e with e | e
  ·exact .inl e
  ·have := HL4.out
   exact .inr (by omega)
 have HT6 := Lib.hid (HT5.out.turn hTs (fun j hj e => HNX.out (by rw [← e]; exact hj)) (fun e => by have := HL2.out; omega))
 have HO6 := Lib.hid (HO5.out.turn2 hTs (fun e => by have := HL2.out; omega) (fun e => by have := HL2.out; omega))
 have HX6 := Lib.hid (HX5.out.set_ 2 (.int .i64 ((a.last : Int) + 1)))
 have HTW6 := Lib.hid (((Turn.of_below (S := F) HB4.out).trans (S' := F) HTu5.out (fun i _ e => e)).trans hTs (fun i hi e => by have := HL2.out; omega))
 clear hTs
 generalize w5.setCell ⟨w2.heap.size, 2, none⟩ (.int .i64 ((a.last : Int) + 1)) = w6 at *
 have y6 := HO6.out.b0.cell 6
 simp at y6
 have HCC : Hid (c + 2 ≤ c + 2) := Lib.hid (Nat.le_refl _)
 have HK : Hid (((a.more d (nameN o.path) 1).nd (a.last + 1)).kind ≠ 0) := Lib.hid (by
  unfold TS.more
  rw [kind_put]
  show (setF a.nd (a.last + 1) ⟨1, 1, [], []⟩ (a.last + 1)).kind ≠ 0
  rw [setF_same]
  decide)
 go_upto_region 18 with (fail)
 clear y6
 have HTD0 := Lib.hid HT6.out.drew
 have k2 := HX6.out.drew.cell 2
 simp at k2
 obtain ⟨kt0, kt1, kt2⟩ := HTD0.out.cells
 obtain ⟨kn0, kn1, kn2, kn3⟩ := HTD0.out.ncells HK.out
 have kl := HTD0.out.look HK.out hidb
 have kq := (HTD0.out.node _ HK.out).1.frozen 2
 have HM := Lib.hid (HTD0.out.node _ HK.out).2.2.2.1
 replace kl : (Instr.lookup 68 (.map (some M5.mb)) (.int .i64 ((a.last : Int) + 1)) false).run Tryz.prog w6.drew = .ok (.pointer (some ⟨M5.hp (a.last + 1), 0, none⟩)) w6.drew := kl
 go_region
 clear k2 kt0 kt1 kt2 kn0 kn1 kn2 kn3 kl kq
 have hTc : Turn (· = M5.hp (a.last + 1)) w6 (w6.setCell ⟨M5.hp (a.last + 1), 2, none⟩ (.slice none 0 0)).drew := ((Turn.refl (· = M5.hp (a.last + 1)) w6).setCell (p := ⟨M5.hp (a.last + 1), 2, none⟩) (fun _ => rfl) _).drew
 have HT7 := Lib.hid (HT6.out.cutNode HK.out).drew
 have HO7 := Lib.hid (HO6.out.turn2 hTc (fun e => HN0.out (by rw [e]; exact HM.out)) (fun e => HN1.out (by rw [e]; exact HM.out)))
 have HX7 := Lib.hid (HX6.out.turn hTc (fun e => HNX.out (by rw [e]; exact HM.out)))
 have HTW7 := Lib.hid (HTW6.out.trans (S' := (· = M5.hp (a.last + 1))) hTc (fun i hi e => (HFF.out i (by rw [e]; exact HM.out)).resolve_right (by omega)))
 clear hTc
 generalize (w6.setCell ⟨M5.hp (a.last + 1), 2, none⟩ (.slice none 0 0)).drew = w7 at *
 go_upto_region 19 with (fail)
 have HOD := Lib.hid HO7.out.drew
 have HXD := Lib.hid HX7.out.drew
 have HTD := Lib.hid HT7.out.drew
 have HWL := Lib.hid HO7.out.b1.lt
 obtain ⟨vt0, vt1, vt2⟩ := HTD.out.cells
 have va6 := HOD.out.b0.cell 6
 have vx2 := HXD.out.cell 2
 simp at va6 vx2
 have hS0 := And.intro vt2 (And.intro va6 vx2)
 have HV2 := Lib.hid vt2
 clear vt0 vt1 vt2 va6 vx2
 go_region_held3 (fun W => W.cell? ⟨t, 2, none⟩ = some (.pointer (some ⟨M5.tb, 0, none⟩)) ∧ W.cell? ⟨w.heap.size, 6, none⟩ = some (.int .i64 o.flags) ∧ W.cell? ⟨w2.heap.size, 2, none⟩ = some (.int .i64 ((a.last : Int) + 1)))
  (first | exact hS0 | exact hS1)
  (first
   | (go_at_call 63
      refine (topen_any _ _ _ HTD.out).mono ?_
      rintro e w9 ⟨⟨i, j, rfl⟩, hs9, hTu9, hbt⟩
      have va6 := (HOD.out.turn2 hTu9 HN0.out HN1.out).b0.cell 6
      have vx2 := (HXD.out.turn hTu9 HNX.out).cell 2
      simp at va6 vx2
      have hS1 := And.intro ((World.cell?_of_block (a := ⟨t, 2, none⟩) hbt).trans HV2.out) (And.intro va6 vx2)
      have HS9 := Lib.hid hs9
      have HTu9 := Lib.hid hTu9
      clear hs9 hTu9 hbt va6 vx2))
 clear hS0 hS1
 have HOF := Lib.hid (HOD.out.turn2 HTu9.out HN0.out HN1.out)
 have vr0 := (HOF.out).b1.cf7
 have vl := (HOF.out).b1.lt
 go_wp2_with fail
 refine bodyPost_ret (v := .agg #[.int .i64 j, .int .i64 i, .slice none 0 0, .slice none 0 0, .int .i64 0, .int .i64 0, .int .i64 0]) (by simp [results, Tryz.results26, go_sem, vr0, vl]) rfl ?_
 exact ans_fin HT.out HS9.out HCC.out ((HTW7.out.drew).trans HTu9.out (fun i hi hF => (HFF.out i hF).resolve_right (by omega))) HTW7.out.size HFF.out (by omega) HWL.out HN1.out
end
end Go.Proofs.YtpkhglfhpggceaaGreatDoor
