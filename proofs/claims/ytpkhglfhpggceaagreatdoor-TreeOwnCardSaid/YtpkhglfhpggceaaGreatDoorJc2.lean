/- What the reference does to memory: names (printed by genrnames.py). What the reference does to memory: link (printed by genrlink.py). -/
import Derived.Test.YtpkhglfhpggceaaGreatDoorJc1
namespace Go.Proofs.YtpkhglfhpggceaaGreatDoor
set_option maxRecDepth 100000
set_option maxHeartbeats 16000000
open Go.RowKit
set_option linter.unusedVariables false
set_option linter.unusedSimpArgs false
section
variable {F : Nat → Prop} {w w' : World} {y c : Nat} {R : RMem} {a : TS}
theorem Turn.grow2' {w1 w2 : World} (h : Turn F w w1) (k : Turn (grow F w w1) w1 w2) : Turn F w w2 := h.grow2 k
theorem links_put {d k : Nat} {s : ByteArray} {id : Nat} : ((a.put d s id).nd k).links = (a.nd k).links := by
 show (setF a.nd d _ k).links = _
 by_cases e : k = d
 ·rw [e, setF_same]
 ·rw [setF_other _ _ e]
theorem rput0_any (d : Nat) (s : ByteArray) (w : World) (h : RIs F w y R a) (hg : Good a c) (hc : c ≤ 100000) (hd : d ≤ a.last) :
  Calls Tryz.prog 83 #[.pointer (some ⟨y, 0, none⟩), .int .i64 (d : Nat), .string s, .int .i64 0] w (RputPost F y (a.put d s 0) w) := rput_any d s 0 w h hg hc hd
theorem rnames7_par (o : OpT) (A : Option Addr) (n cap : Nat) (w : World) (h : RIs F w y R a) (hg : Good a c) (hc : c + 20 ≤ 100000) (hp : o.path.size ≤ 1000) (hkd : o.kind = 7) (he : (a.par o.path 41).2 ≠ 0) :
  Calls Tryz.prog 36 #[.pointer (some ⟨y, 0, none⟩), o.val A n cap] w (RAnsPost F y (a) w) := by
 unfold OpT.val
 have HT := Lib.hid h
 have HH := Lib.hid (fun W (hb : Below w.heap.size w W) => h.below hb)
 have HPA := Lib.hid (fun W (h : RIs F W y R a) => rparent_any o.path 41 W h hg (by omega) hp (by decide))
 have t9 : ((a.par o.path 41).2 != 0) = true := bne_iff_ne.2 he
 clear h hg he
 have e7 := kt 7 hkd rfl
 have e8 := kf 8 hkd rfl
 have e10 := kf 10 hkd rfl
 clear hkd
 go_enter Tryz.func36, Tryz.ntmps36
 go_upto_region 1 with (fail)
 obtain ⟨w1, hwe, HO1, HB1⟩ := asked w (oc o A n cap)
 rw [← hwe]
 clear hwe
 have ua0 := (HO1.out).b0.c8
 have ur0 := (HO1.out).b1.cf7
 have ul := (HO1.out).b1.lt
 go_wp2_with fail
 refine (HPA.out _ (HH.out _ HB1.out)).mono ?_
 rintro e w2 ⟨⟨d0, s0, rfl, -⟩, hb2⟩
 clear ua0 ur0 ul
 have HO2 := Lib.hid (HO1.out.below hb2)
 have HB2 := Lib.hid (HB1.out.trans (hb2.mono HB1.out.size))
 clear hb2
 have za0 := (HO2.out).b0.c8
 have zr0 := (HO2.out).b1.cf7
 have zl := (HO2.out).b1.lt
 go_wp2_with fail
 refine (failed_any _ _).mono ?_
 rintro e w5 ⟨rfl, hb5⟩
 have HOF := Lib.hid (HO2.out.below hb5)
 have HBF := Lib.hid (HB2.out.trans (hb5.mono HB2.out.size))
 clear hb5
 have vr0 := (HOF.out).b1.cf7
 have vl := (HOF.out).b1.lt
 go_wp2_with fail
 refine bodyPost_ret (v := .agg #[.int .i64 (a.par o.path 41).2, .int .i64 0, .slice none 0 0, .slice none 0 0, .int .i64 0, .int .i64 0, .int .i64 0]) (by simp [results, Tryz.results36, go_sem, vr0, vl]) rfl ?_
 exact rans_same HT.out (ans_set HBF.out (by omega) _ _ _ _ _ _ _)
theorem rnames8_par (o : OpT) (A : Option Addr) (n cap : Nat) (w : World) (h : RIs F w y R a) (hg : Good a c) (hc : c + 20 ≤ 100000) (hp : o.path.size ≤ 1000) (hkd : o.kind = 8) (he : (a.par o.path 51).2 ≠ 0) :
  Calls Tryz.prog 36 #[.pointer (some ⟨y, 0, none⟩), o.val A n cap] w (RAnsPost F y (a) w) := by
 unfold OpT.val
 have HT := Lib.hid h
 have HH := Lib.hid (fun W (hb : Below w.heap.size w W) => h.below hb)
 have HPA := Lib.hid (fun W (h : RIs F W y R a) => rparent_any o.path 51 W h hg (by omega) hp (by decide))
 have t9 : ((a.par o.path 51).2 != 0) = true := bne_iff_ne.2 he
 clear h hg he
 have e7 := kf 7 hkd rfl
 have e8 := kt 8 hkd rfl
 have e10 := kf 10 hkd rfl
 clear hkd
 go_enter Tryz.func36, Tryz.ntmps36
 go_upto_region 1 with (fail)
 obtain ⟨w1, hwe, HO1, HB1⟩ := asked w (oc o A n cap)
 rw [← hwe]
 clear hwe
 have ua0 := (HO1.out).b0.c8
 have ur0 := (HO1.out).b1.cf7
 have ul := (HO1.out).b1.lt
 go_wp2_with fail
 refine (HPA.out _ (HH.out _ HB1.out)).mono ?_
 rintro e w2 ⟨⟨d0, s0, rfl, -⟩, hb2⟩
 clear ua0 ur0 ul
 have HO2 := Lib.hid (HO1.out.below hb2)
 have HB2 := Lib.hid (HB1.out.trans (hb2.mono HB1.out.size))
 clear hb2
 have za0 := (HO2.out).b0.c8
 have zr0 := (HO2.out).b1.cf7
 have zl := (HO2.out).b1.lt
 go_wp2_with fail
 refine (failed_any _ _).mono ?_
 rintro e w5 ⟨rfl, hb5⟩
 have HOF := Lib.hid (HO2.out.below hb5)
 have HBF := Lib.hid (HB2.out.trans (hb5.mono HB2.out.size))
 clear hb5
 have vr0 := (HOF.out).b1.cf7
 have vl := (HOF.out).b1.lt
 go_wp2_with fail
 refine bodyPost_ret (v := .agg #[.int .i64 (a.par o.path 51).2, .int .i64 0, .slice none 0 0, .slice none 0 0, .int .i64 0, .int .i64 0, .int .i64 0]) (by simp [results, Tryz.results36, go_sem, vr0, vl]) rfl ?_
 exact rans_same HT.out (ans_set HBF.out (by omega) _ _ _ _ _ _ _)
theorem rnames10_par (o : OpT) (A : Option Addr) (n cap : Nat) (w : World) (h : RIs F w y R a) (hg : Good a c) (hc : c + 20 ≤ 100000) (hp : o.path.size ≤ 1000) (hkd : o.kind = 10) (he : (a.par o.path 43).2 ≠ 0) :
  Calls Tryz.prog 36 #[.pointer (some ⟨y, 0, none⟩), o.val A n cap] w (RAnsPost F y (a) w) := by
 unfold OpT.val
 have HT := Lib.hid h
 have HH := Lib.hid (fun W (hb : Below w.heap.size w W) => h.below hb)
 have HPA := Lib.hid (fun W (h : RIs F W y R a) => rparent_any o.path 43 W h hg (by omega) hp (by decide))
 have t9 : ((a.par o.path 43).2 != 0) = true := bne_iff_ne.2 he
 clear h hg he
 have e7 := kf 7 hkd rfl
 have e8 := kf 8 hkd rfl
 have e10 := kt 10 hkd rfl
 clear hkd
 go_enter Tryz.func36, Tryz.ntmps36
 go_upto_region 1 with (fail)
 obtain ⟨w1, hwe, HO1, HB1⟩ := asked w (oc o A n cap)
 rw [← hwe]
 clear hwe
 have ua0 := (HO1.out).b0.c8
 have ur0 := (HO1.out).b1.cf7
 have ul := (HO1.out).b1.lt
 go_wp2_with fail
 refine (HPA.out _ (HH.out _ HB1.out)).mono ?_
 rintro e w2 ⟨⟨d0, s0, rfl, -⟩, hb2⟩
 clear ua0 ur0 ul
 have HO2 := Lib.hid (HO1.out.below hb2)
 have HB2 := Lib.hid (HB1.out.trans (hb2.mono HB1.out.size))
 clear hb2
 have za0 := (HO2.out).b0.c8
 have zr0 := (HO2.out).b1.cf7
 have zl := (HO2.out).b1.lt
 go_wp2_with fail
 refine (failed_any _ _).mono ?_
 rintro e w5 ⟨rfl, hb5⟩
 have HOF := Lib.hid (HO2.out.below hb5)
 have HBF := Lib.hid (HB2.out.trans (hb5.mono HB2.out.size))
 clear hb5
 have vr0 := (HOF.out).b1.cf7
 have vl := (HOF.out).b1.lt
 go_wp2_with fail
 refine bodyPost_ret (v := .agg #[.int .i64 (a.par o.path 43).2, .int .i64 0, .slice none 0 0, .slice none 0 0, .int .i64 0, .int .i64 0, .int .i64 0]) (by simp [results, Tryz.results36, go_sem, vr0, vl]) rfl ?_
 exact rans_same HT.out (ans_set HBF.out (by omega) _ _ _ _ _ _ _)
theorem rnames7_41 (o : OpT) (A : Option Addr) (n cap : Nat) (w : World) (h : RIs F w y R a) (hg : Good a c) (hc : c + 20 ≤ 100000) (hp : o.path.size ≤ 1000) (hkd : o.kind = 7) (d id : Nat) (hd : a.par o.path 41 = (d, 0)) (hid : a.find d (nameN o.path) = id) (hz : id ≠ 0) :
  Calls Tryz.prog 36 #[.pointer (some ⟨y, 0, none⟩), o.val A n cap] w (RAnsPost F y (a) w) := by
 unfold OpT.val
 have HT := Lib.hid h
 have HH := Lib.hid (fun W (hb : Below w.heap.size w W) => h.below hb)
 have HPA := Lib.hid (fun W (h : RIs F W y R a) => show Calls Tryz.prog 74 #[.pointer (some ⟨y, 0, none⟩), .string o.path, .int .i64 41] W (fun e w' => e = .returned (.tuple #[.int .i64 (d : Nat), .string (nameN o.path), .int .i64 0]) ∧ Below W.heap.size W w') from
  (rparent_any o.path 41 W h hg (by omega) hp (by decide)).mono fun e w' hx => by
   obtain ⟨⟨d0, s0, rfl, hq⟩, hb⟩ := hx
   rw [hd] at hq
   obtain ⟨rfl, rfl⟩ := hq rfl
   rw [hd]
   exact ⟨rfl, hb⟩)
 have hfew := hg.few
 have hdir := par_dir (show (41 : Int) ≠ 0 by decide) (show (a.par o.path 41).2 = 0 by rw [hd])
 rw [hd] at hdir
 have hdl := (hg.in_last (k := d) (by rw [hdir]; decide)).2
 have HFI := Lib.hid (fun W (h : RIs F W y R a) => show Calls Tryz.prog 75 #[.pointer (some ⟨y, 0, none⟩), .int .i64 (d : Nat), .string (nameN o.path)] W (fun e w' => e = .returned (.int .i64 (id : Nat)) ∧ W = w') from by
  have := rfind_any d (nameN o.path) W h hdl (by omega) (Nat.le_trans (hg.len d) (by omega))
  rw [hid] at this
  exact this)
 have hlive : (a.nd id).kind ≠ 0 := by rw [← hid]; exact hg.find_live (by rw [hid]; exact hz)
 have hil := (hg.in_last hlive).2
 have t1 : (((id : Nat) : Int) != 0) = true := bne_iff_ne.2 (by omega)
 have t2 : (((id : Nat) : Int) == 0) = false := beq_eq_false_iff_ne.2 (by omega)
 have HIB := Lib.hid hil
 have hin : ((id : Nat) : Int) < ((a.last + 1 : Nat) : Int) := by omega
 clear h hg hd hid hz hfew hdir hdl hlive hil
 have e7 := kt 7 hkd rfl
 have e8 := kf 8 hkd rfl
 have e10 := kf 10 hkd rfl
 clear hkd
 go_enter Tryz.func36, Tryz.ntmps36
 go_upto_region 1 with (fail)
 obtain ⟨w1, hwe, HO1, HB1⟩ := asked w (oc o A n cap)
 rw [← hwe]
 clear hwe
 have ua0 := (HO1.out).b0.c8
 have ur0 := (HO1.out).b1.cf7
 have ul := (HO1.out).b1.lt
 go_wp2_with fail
 refine (HPA.out _ (HH.out _ HB1.out)).mono ?_
 rintro e w2 ⟨rfl, hb2⟩
 clear ua0 ur0 ul
 have HO2 := Lib.hid (HO1.out.below hb2)
 have HB2 := Lib.hid (HB1.out.trans (hb2.mono HB1.out.size))
 clear hb2
 have za0 := (HO2.out).b0.c8
 have zr0 := (HO2.out).b1.cf7
 have zl := (HO2.out).b1.lt
 have HR2 := Lib.hid (HH.out _ HB2.out)
 go_wp2_with fail
 refine (HFI.out _ HR2.out).mono ?_
 rintro e w' ⟨rfl, h8⟩
 obtain rfl := h8
 go_wp2_with fail
 refine (failed_any _ _).mono ?_
 rintro e w5 ⟨rfl, hb5⟩
 have HOF := Lib.hid (HO2.out.below hb5)
 have HBF := Lib.hid (HB2.out.trans (hb5.mono HB2.out.size))
 clear hb5
 have vr0 := (HOF.out).b1.cf7
 have vl := (HOF.out).b1.lt
 go_wp2_with fail
 refine bodyPost_ret (v := .agg #[.int .i64 41, .int .i64 0, .slice none 0 0, .slice none 0 0, .int .i64 0, .int .i64 0, .int .i64 0]) (by simp [results, Tryz.results36, go_sem, vr0, vl]) rfl ?_
 exact rans_same HT.out (ans_set HBF.out (by omega) _ _ _ _ _ _ _)
theorem rnames7_ok (o : OpT) (A : Option Addr) (n cap : Nat) (w : World) (h : RIs F w y R a) (hg : Good a c) (hc : c + 20 ≤ 100000) (hp : o.path.size ≤ 1000) (hkd : o.kind = 7) (d : Nat) (hd : a.par o.path 41 = (d, 0)) (hid : a.find d (nameN o.path) = 0) :
  Calls Tryz.prog 36 #[.pointer (some ⟨y, 0, none⟩), o.val A n cap] w (RAnsPost F y (a.more d (nameN o.path) 2) w) := by
 unfold OpT.val
 have HT := Lib.hid h
 have HH := Lib.hid (fun W (hb : Below w.heap.size w W) => h.below hb)
 have HPA := Lib.hid (fun W (h : RIs F W y R a) => show Calls Tryz.prog 74 #[.pointer (some ⟨y, 0, none⟩), .string o.path, .int .i64 41] W (fun e w' => e = .returned (.tuple #[.int .i64 (d : Nat), .string (nameN o.path), .int .i64 0]) ∧ Below W.heap.size W w') from
  (rparent_any o.path 41 W h hg (by omega) hp (by decide)).mono fun e w' hx => by
   obtain ⟨⟨d0, s0, rfl, hq⟩, hb⟩ := hx
   rw [hd] at hq
   obtain ⟨rfl, rfl⟩ := hq rfl
   rw [hd]
   exact ⟨rfl, hb⟩)
 have hfew := hg.few
 have hdir := par_dir (show (41 : Int) ≠ 0 by decide) (show (a.par o.path 41).2 = 0 by rw [hd])
 rw [hd] at hdir
 have hdl := (hg.in_last (k := d) (by rw [hdir]; decide)).2
 have HFI := Lib.hid (fun W (h : RIs F W y R a) => show Calls Tryz.prog 75 #[.pointer (some ⟨y, 0, none⟩), .int .i64 (d : Nat), .string (nameN o.path)] W (fun e w' => e = .returned (.int .i64 0) ∧ W = w') from by
  have := rfind_any d (nameN o.path) W h hdl (by omega) (Nat.le_trans (hg.len d) (by omega))
  rw [hid] at this
  exact this)
 have HMO := Lib.hid (fun W (h : RIs F W y R a) => rmore_any d (nameN o.path) 2 W h hg (by omega) hdir (.inr rfl))
 have HFL : Hid (∀ j, F j → j < w.heap.size) := Lib.hid fun j e => HT.out.lt j e
 clear h hg hd hid hfew hdir hdl
 have e7 := kt 7 hkd rfl
 have e8 := kf 8 hkd rfl
 have e10 := kf 10 hkd rfl
 clear hkd
 go_enter Tryz.func36, Tryz.ntmps36
 go_upto_region 1 with (fail)
 obtain ⟨w1, hwe, HO1, HB1⟩ := asked w (oc o A n cap)
 rw [← hwe]
 clear hwe
 have ua0 := (HO1.out).b0.c8
 have ur0 := (HO1.out).b1.cf7
 have ul := (HO1.out).b1.lt
 go_wp2_with fail
 refine (HPA.out _ (HH.out _ HB1.out)).mono ?_
 rintro e w2 ⟨rfl, hb2⟩
 clear ua0 ur0 ul
 have HO2 := Lib.hid (HO1.out.below hb2)
 have HB2 := Lib.hid (HB1.out.trans (hb2.mono HB1.out.size))
 clear hb2
 have za0 := (HO2.out).b0.c8
 have zr0 := (HO2.out).b1.cf7
 have zl := (HO2.out).b1.lt
 have HR2 := Lib.hid (HH.out _ HB2.out)
 go_wp2_with fail
 refine (HFI.out _ HR2.out).mono ?_
 rintro e w' ⟨rfl, h8⟩
 obtain rfl := h8
 go_wp2_with fail
 refine (HMO.out _ HR2.out).mono ?_
 rintro e w9 ⟨rfl, hs9, hTu9⟩
 clear za0 zr0 zl
 have HS9 := Lib.hid hs9
 have HTu9 := Lib.hid hTu9
 clear hs9 hTu9
 have HO9 := Lib.hid (HO2.out.turn2 HTu9.out (fun e => by have := HFL.out _ e; omega) (fun e => by have := HFL.out _ e; omega))
 have vr0 := (HO9.out).b1.cf7
 have vl := (HO9.out).b1.lt
 go_wp2_with fail
 refine bodyPost_ret (v := .agg #[.int .i64 0, .int .i64 0, .slice none 0 0, .slice none 0 0, .int .i64 0, .int .i64 0, .int .i64 0]) (by simp [results, Tryz.results36, go_sem, vr0, vl]) rfl ?_
 exact rans_fin (F' := F) (wX := w2) HT.out HS9.out ((Turn.of_below (S := F) HB2.out).trans (S' := F) HTu9.out fun _ _ e => e) HB2.out.size (fun j e => .inl e) (by omega) HO2.out.b1.lt (fun e => by have := HFL.out _ e; omega)
theorem rnames8_40 (o : OpT) (A : Option Addr) (n cap : Nat) (w : World) (h : RIs F w y R a) (hg : Good a c) (hc : c + 20 ≤ 100000) (hp : o.path.size ≤ 1000) (hkd : o.kind = 8) (d : Nat) (hd : a.par o.path 51 = (d, 0)) (hid : a.find d (nameN o.path) = 0) :
  Calls Tryz.prog 36 #[.pointer (some ⟨y, 0, none⟩), o.val A n cap] w (RAnsPost F y (a) w) := by
 unfold OpT.val
 have HT := Lib.hid h
 have HH := Lib.hid (fun W (hb : Below w.heap.size w W) => h.below hb)
 have HPA := Lib.hid (fun W (h : RIs F W y R a) => show Calls Tryz.prog 74 #[.pointer (some ⟨y, 0, none⟩), .string o.path, .int .i64 51] W (fun e w' => e = .returned (.tuple #[.int .i64 (d : Nat), .string (nameN o.path), .int .i64 0]) ∧ Below W.heap.size W w') from
  (rparent_any o.path 51 W h hg (by omega) hp (by decide)).mono fun e w' hx => by
   obtain ⟨⟨d0, s0, rfl, hq⟩, hb⟩ := hx
   rw [hd] at hq
   obtain ⟨rfl, rfl⟩ := hq rfl
   rw [hd]
   exact ⟨rfl, hb⟩)
 have hfew := hg.few
 have hdir := par_dir (show (51 : Int) ≠ 0 by decide) (show (a.par o.path 51).2 = 0 by rw [hd])
 rw [hd] at hdir
 have hdl := (hg.in_last (k := d) (by rw [hdir]; decide)).2
 have HFI := Lib.hid (fun W (h : RIs F W y R a) => show Calls Tryz.prog 75 #[.pointer (some ⟨y, 0, none⟩), .int .i64 (d : Nat), .string (nameN o.path)] W (fun e w' => e = .returned (.int .i64 0) ∧ W = w') from by
  have := rfind_any d (nameN o.path) W h hdl (by omega) (Nat.le_trans (hg.len d) (by omega))
  rw [hid] at this
  exact this)
 clear h hg hd hid hfew hdir hdl
 have e7 := kf 7 hkd rfl
 have e8 := kt 8 hkd rfl
 have e10 := kf 10 hkd rfl
 clear hkd
 go_enter Tryz.func36, Tryz.ntmps36
 go_upto_region 1 with (fail)
 obtain ⟨w1, hwe, HO1, HB1⟩ := asked w (oc o A n cap)
 rw [← hwe]
 clear hwe
 have ua0 := (HO1.out).b0.c8
 have ur0 := (HO1.out).b1.cf7
 have ul := (HO1.out).b1.lt
 go_wp2_with fail
 refine (HPA.out _ (HH.out _ HB1.out)).mono ?_
 rintro e w2 ⟨rfl, hb2⟩
 clear ua0 ur0 ul
 have HO2 := Lib.hid (HO1.out.below hb2)
 have HB2 := Lib.hid (HB1.out.trans (hb2.mono HB1.out.size))
 clear hb2
 have za0 := (HO2.out).b0.c8
 have zr0 := (HO2.out).b1.cf7
 have zl := (HO2.out).b1.lt
 have HR2 := Lib.hid (HH.out _ HB2.out)
 go_wp2_with fail
 refine (HFI.out _ HR2.out).mono ?_
 rintro e w' ⟨rfl, h8⟩
 obtain rfl := h8
 go_wp2_with fail
 refine (failed_any _ _).mono ?_
 rintro e w5 ⟨rfl, hb5⟩
 have HOF := Lib.hid (HO2.out.below hb5)
 have HBF := Lib.hid (HB2.out.trans (hb5.mono HB2.out.size))
 clear hb5
 have vr0 := (HOF.out).b1.cf7
 have vl := (HOF.out).b1.lt
 go_wp2_with fail
 refine bodyPost_ret (v := .agg #[.int .i64 40, .int .i64 0, .slice none 0 0, .slice none 0 0, .int .i64 0, .int .i64 0, .int .i64 0]) (by simp [results, Tryz.results36, go_sem, vr0, vl]) rfl ?_
 exact rans_same HT.out (ans_set HBF.out (by omega) _ _ _ _ _ _ _)
theorem rnames10_40 (o : OpT) (A : Option Addr) (n cap : Nat) (w : World) (h : RIs F w y R a) (hg : Good a c) (hc : c + 20 ≤ 100000) (hp : o.path.size ≤ 1000) (hkd : o.kind = 10) (d : Nat) (hd : a.par o.path 43 = (d, 0)) (hid : a.find d (nameN o.path) = 0) :
  Calls Tryz.prog 36 #[.pointer (some ⟨y, 0, none⟩), o.val A n cap] w (RAnsPost F y (a) w) := by
 unfold OpT.val
 have HT := Lib.hid h
 have HH := Lib.hid (fun W (hb : Below w.heap.size w W) => h.below hb)
 have HPA := Lib.hid (fun W (h : RIs F W y R a) => show Calls Tryz.prog 74 #[.pointer (some ⟨y, 0, none⟩), .string o.path, .int .i64 43] W (fun e w' => e = .returned (.tuple #[.int .i64 (d : Nat), .string (nameN o.path), .int .i64 0]) ∧ Below W.heap.size W w') from
  (rparent_any o.path 43 W h hg (by omega) hp (by decide)).mono fun e w' hx => by
   obtain ⟨⟨d0, s0, rfl, hq⟩, hb⟩ := hx
   rw [hd] at hq
   obtain ⟨rfl, rfl⟩ := hq rfl
   rw [hd]
   exact ⟨rfl, hb⟩)
 have hfew := hg.few
 have hdir := par_dir (show (43 : Int) ≠ 0 by decide) (show (a.par o.path 43).2 = 0 by rw [hd])
 rw [hd] at hdir
 have hdl := (hg.in_last (k := d) (by rw [hdir]; decide)).2
 have HFI := Lib.hid (fun W (h : RIs F W y R a) => show Calls Tryz.prog 75 #[.pointer (some ⟨y, 0, none⟩), .int .i64 (d : Nat), .string (nameN o.path)] W (fun e w' => e = .returned (.int .i64 0) ∧ W = w') from by
  have := rfind_any d (nameN o.path) W h hdl (by omega) (Nat.le_trans (hg.len d) (by omega))
  rw [hid] at this
  exact this)
 clear h hg hd hid hfew hdir hdl
 have e7 := kf 7 hkd rfl
 have e8 := kf 8 hkd rfl
 have e10 := kt 10 hkd rfl
 clear hkd
 go_enter Tryz.func36, Tryz.ntmps36
 go_upto_region 1 with (fail)
 obtain ⟨w1, hwe, HO1, HB1⟩ := asked w (oc o A n cap)
 rw [← hwe]
 clear hwe
 have ua0 := (HO1.out).b0.c8
 have ur0 := (HO1.out).b1.cf7
 have ul := (HO1.out).b1.lt
 go_wp2_with fail
 refine (HPA.out _ (HH.out _ HB1.out)).mono ?_
 rintro e w2 ⟨rfl, hb2⟩
 clear ua0 ur0 ul
 have HO2 := Lib.hid (HO1.out.below hb2)
 have HB2 := Lib.hid (HB1.out.trans (hb2.mono HB1.out.size))
 clear hb2
 have za0 := (HO2.out).b0.c8
 have zr0 := (HO2.out).b1.cf7
 have zl := (HO2.out).b1.lt
 have HR2 := Lib.hid (HH.out _ HB2.out)
 go_wp2_with fail
 refine (HFI.out _ HR2.out).mono ?_
 rintro e w' ⟨rfl, h8⟩
 obtain rfl := h8
 go_wp2_with fail
 refine (failed_any _ _).mono ?_
 rintro e w5 ⟨rfl, hb5⟩
 have HOF := Lib.hid (HO2.out.below hb5)
 have HBF := Lib.hid (HB2.out.trans (hb5.mono HB2.out.size))
 clear hb5
 have vr0 := (HOF.out).b1.cf7
 have vl := (HOF.out).b1.lt
 go_wp2_with fail
 refine bodyPost_ret (v := .agg #[.int .i64 40, .int .i64 0, .slice none 0 0, .slice none 0 0, .int .i64 0, .int .i64 0, .int .i64 0]) (by simp [results, Tryz.results36, go_sem, vr0, vl]) rfl ?_
 exact rans_same HT.out (ans_set HBF.out (by omega) _ _ _ _ _ _ _)
theorem rnames10_43 (o : OpT) (A : Option Addr) (n cap : Nat) (w : World) (h : RIs F w y R a) (hg : Good a c) (hc : c + 20 ≤ 100000) (hp : o.path.size ≤ 1000) (hkd : o.kind = 10) (d id : Nat) (hd : a.par o.path 43 = (d, 0)) (hid : a.find d (nameN o.path) = id) (hz : id ≠ 0) (hk : (a.nd id).kind = 2) :
  Calls Tryz.prog 36 #[.pointer (some ⟨y, 0, none⟩), o.val A n cap] w (RAnsPost F y (a) w) := by
 unfold OpT.val
 have HT := Lib.hid h
 have HH := Lib.hid (fun W (hb : Below w.heap.size w W) => h.below hb)
 have HPA := Lib.hid (fun W (h : RIs F W y R a) => show Calls Tryz.prog 74 #[.pointer (some ⟨y, 0, none⟩), .string o.path, .int .i64 43] W (fun e w' => e = .returned (.tuple #[.int .i64 (d : Nat), .string (nameN o.path), .int .i64 0]) ∧ Below W.heap.size W w') from
  (rparent_any o.path 43 W h hg (by omega) hp (by decide)).mono fun e w' hx => by
   obtain ⟨⟨d0, s0, rfl, hq⟩, hb⟩ := hx
   rw [hd] at hq
   obtain ⟨rfl, rfl⟩ := hq rfl
   rw [hd]
   exact ⟨rfl, hb⟩)
 have hfew := hg.few
 have hdir := par_dir (show (43 : Int) ≠ 0 by decide) (show (a.par o.path 43).2 = 0 by rw [hd])
 rw [hd] at hdir
 have hdl := (hg.in_last (k := d) (by rw [hdir]; decide)).2
 have HFI := Lib.hid (fun W (h : RIs F W y R a) => show Calls Tryz.prog 75 #[.pointer (some ⟨y, 0, none⟩), .int .i64 (d : Nat), .string (nameN o.path)] W (fun e w' => e = .returned (.int .i64 (id : Nat)) ∧ W = w') from by
  have := rfind_any d (nameN o.path) W h hdl (by omega) (Nat.le_trans (hg.len d) (by omega))
  rw [hid] at this
  exact this)
 have hlive : (a.nd id).kind ≠ 0 := by rw [← hid]; exact hg.find_live (by rw [hid]; exact hz)
 have hil := (hg.in_last hlive).2
 have t1 : (((id : Nat) : Int) != 0) = true := bne_iff_ne.2 (by omega)
 have t2 : (((id : Nat) : Int) == 0) = false := beq_eq_false_iff_ne.2 (by omega)
 have HIB := Lib.hid hil
 have hin : ((id : Nat) : Int) < ((a.last + 1 : Nat) : Int) := by omega
 have HKK := Lib.hid hk
 generalize hnn : a.last + 1 = n1 at *
 have hnb : n1 ≤ 1000001 := by omega
 have HNN := Lib.hid hnn
 clear hnn
 clear h hg hd hid hz hfew hdir hdl hlive hil hk
 have e7 := kf 7 hkd rfl
 have e8 := kf 8 hkd rfl
 have e10 := kt 10 hkd rfl
 clear hkd
 go_enter Tryz.func36, Tryz.ntmps36
 go_upto_region 1 with (fail)
 obtain ⟨w1, hwe, HO1, HB1⟩ := asked w (oc o A n cap)
 rw [← hwe]
 clear hwe
 have ua0 := (HO1.out).b0.c8
 have ur0 := (HO1.out).b1.cf7
 have ul := (HO1.out).b1.lt
 go_wp2_with fail
 refine (HPA.out _ (HH.out _ HB1.out)).mono ?_
 rintro e w2 ⟨rfl, hb2⟩
 clear ua0 ur0 ul
 have HO2 := Lib.hid (HO1.out.below hb2)
 have HB2 := Lib.hid (HB1.out.trans (hb2.mono HB1.out.size))
 clear hb2
 have za0 := (HO2.out).b0.c8
 have zr0 := (HO2.out).b1.cf7
 have zl := (HO2.out).b1.lt
 have HR2 := Lib.hid (HH.out _ HB2.out)
 go_wp2_with fail
 refine (HFI.out _ HR2.out).mono ?_
 rintro e w' ⟨rfl, h8⟩
 obtain rfl := h8
 obtain ⟨r0, r1⟩ := HR2.out.cells
 rw [HNN.out] at r0
 obtain ⟨k0, k1, k2, k3⟩ := HR2.out.cel id HIB.out
 rw [HKK.out] at k0
 go_wp2_with fail
 refine (failed_any _ _).mono ?_
 rintro e w5 ⟨rfl, hb5⟩
 have HOF := Lib.hid (HO2.out.below hb5)
 have HBF := Lib.hid (HB2.out.trans (hb5.mono HB2.out.size))
 clear hb5
 have vr0 := (HOF.out).b1.cf7
 have vl := (HOF.out).b1.lt
 go_wp2_with fail
 refine bodyPost_ret (v := .agg #[.int .i64 43, .int .i64 0, .slice none 0 0, .slice none 0 0, .int .i64 0, .int .i64 0, .int .i64 0]) (by simp [results, Tryz.results36, go_sem, vr0, vl]) rfl ?_
 exact rans_same HT.out (ans_set HBF.out (by omega) _ _ _ _ _ _ _)
theorem rnames8_42 (o : OpT) (A : Option Addr) (n cap : Nat) (w : World) (h : RIs F w y R a) (hg : Good a c) (hc : c + 20 ≤ 100000) (hp : o.path.size ≤ 1000) (hkd : o.kind = 8) (d id : Nat) (hd : a.par o.path 51 = (d, 0)) (hid : a.find d (nameN o.path) = id) (hz : id ≠ 0) (hk : (a.nd id).kind ≠ 2) :
  Calls Tryz.prog 36 #[.pointer (some ⟨y, 0, none⟩), o.val A n cap] w (RAnsPost F y (a) w) := by
 unfold OpT.val
 have HT := Lib.hid h
 have HH := Lib.hid (fun W (hb : Below w.heap.size w W) => h.below hb)
 have HPA := Lib.hid (fun W (h : RIs F W y R a) => show Calls Tryz.prog 74 #[.pointer (some ⟨y, 0, none⟩), .string o.path, .int .i64 51] W (fun e w' => e = .returned (.tuple #[.int .i64 (d : Nat), .string (nameN o.path), .int .i64 0]) ∧ Below W.heap.size W w') from
  (rparent_any o.path 51 W h hg (by omega) hp (by decide)).mono fun e w' hx => by
   obtain ⟨⟨d0, s0, rfl, hq⟩, hb⟩ := hx
   rw [hd] at hq
   obtain ⟨rfl, rfl⟩ := hq rfl
   rw [hd]
   exact ⟨rfl, hb⟩)
 have hfew := hg.few
 have hdir := par_dir (show (51 : Int) ≠ 0 by decide) (show (a.par o.path 51).2 = 0 by rw [hd])
 rw [hd] at hdir
 have hdl := (hg.in_last (k := d) (by rw [hdir]; decide)).2
 have HFI := Lib.hid (fun W (h : RIs F W y R a) => show Calls Tryz.prog 75 #[.pointer (some ⟨y, 0, none⟩), .int .i64 (d : Nat), .string (nameN o.path)] W (fun e w' => e = .returned (.int .i64 (id : Nat)) ∧ W = w') from by
  have := rfind_any d (nameN o.path) W h hdl (by omega) (Nat.le_trans (hg.len d) (by omega))
  rw [hid] at this
  exact this)
 have hlive : (a.nd id).kind ≠ 0 := by rw [← hid]; exact hg.find_live (by rw [hid]; exact hz)
 have hil := (hg.in_last hlive).2
 have t1 : (((id : Nat) : Int) != 0) = true := bne_iff_ne.2 (by omega)
 have t2 : (((id : Nat) : Int) == 0) = false := beq_eq_false_iff_ne.2 (by omega)
 have HIB := Lib.hid hil
 have hin : ((id : Nat) : Int) < ((a.last + 1 : Nat) : Int) := by omega
 have t5 : ((a.nd id).kind == 2) = false := beq_eq_false_iff_ne.2 hk
 generalize hkk : (a.nd id).kind = kd at *
 have HKK := Lib.hid hkk
 clear hkk
 generalize hnn : a.last + 1 = n1 at *
 have hnb : n1 ≤ 1000001 := by omega
 have HNN := Lib.hid hnn
 clear hnn
 clear h hg hd hid hz hfew hdir hdl hlive hil hk
 have e7 := kf 7 hkd rfl
 have e8 := kt 8 hkd rfl
 have e10 := kf 10 hkd rfl
 clear hkd
 go_enter Tryz.func36, Tryz.ntmps36
 go_upto_region 1 with (fail)
 obtain ⟨w1, hwe, HO1, HB1⟩ := asked w (oc o A n cap)
 rw [← hwe]
 clear hwe
 have ua0 := (HO1.out).b0.c8
 have ur0 := (HO1.out).b1.cf7
 have ul := (HO1.out).b1.lt
 go_wp2_with fail
 refine (HPA.out _ (HH.out _ HB1.out)).mono ?_
 rintro e w2 ⟨rfl, hb2⟩
 clear ua0 ur0 ul
 have HO2 := Lib.hid (HO1.out.below hb2)
 have HB2 := Lib.hid (HB1.out.trans (hb2.mono HB1.out.size))
 clear hb2
 have za0 := (HO2.out).b0.c8
 have zr0 := (HO2.out).b1.cf7
 have zl := (HO2.out).b1.lt
 have HR2 := Lib.hid (HH.out _ HB2.out)
 go_wp2_with fail
 refine (HFI.out _ HR2.out).mono ?_
 rintro e w' ⟨rfl, h8⟩
 obtain rfl := h8
 obtain ⟨r0, r1⟩ := HR2.out.cells
 rw [HNN.out] at r0
 obtain ⟨k0, k1, k2, k3⟩ := HR2.out.cel id HIB.out
 rw [HKK.out] at k0
 go_wp2_with fail
 refine (failed_any _ _).mono ?_
 rintro e w5 ⟨rfl, hb5⟩
 have HOF := Lib.hid (HO2.out.below hb5)
 have HBF := Lib.hid (HB2.out.trans (hb5.mono HB2.out.size))
 clear hb5
 have vr0 := (HOF.out).b1.cf7
 have vl := (HOF.out).b1.lt
 go_wp2_with fail
 refine bodyPost_ret (v := .agg #[.int .i64 42, .int .i64 0, .slice none 0 0, .slice none 0 0, .int .i64 0, .int .i64 0, .int .i64 0]) (by simp [results, Tryz.results36, go_sem, vr0, vl]) rfl ?_
 exact rans_same HT.out (ans_set HBF.out (by omega) _ _ _ _ _ _ _)
theorem rnames8_44 (o : OpT) (A : Option Addr) (n cap : Nat) (w : World) (h : RIs F w y R a) (hg : Good a c) (hc : c + 20 ≤ 100000) (hp : o.path.size ≤ 1000) (hkd : o.kind = 8) (d id : Nat) (hd : a.par o.path 51 = (d, 0)) (hid : a.find d (nameN o.path) = id) (hz : id ≠ 0) (hk : (a.nd id).kind = 2) (hn : (a.nd id).names.length ≠ 0) :
  Calls Tryz.prog 36 #[.pointer (some ⟨y, 0, none⟩), o.val A n cap] w (RAnsPost F y (a) w) := by
 unfold OpT.val
 have HT := Lib.hid h
 have HH := Lib.hid (fun W (hb : Below w.heap.size w W) => h.below hb)
 have HPA := Lib.hid (fun W (h : RIs F W y R a) => show Calls Tryz.prog 74 #[.pointer (some ⟨y, 0, none⟩), .string o.path, .int .i64 51] W (fun e w' => e = .returned (.tuple #[.int .i64 (d : Nat), .string (nameN o.path), .int .i64 0]) ∧ Below W.heap.size W w') from
  (rparent_any o.path 51 W h hg (by omega) hp (by decide)).mono fun e w' hx => by
   obtain ⟨⟨d0, s0, rfl, hq⟩, hb⟩ := hx
   rw [hd] at hq
   obtain ⟨rfl, rfl⟩ := hq rfl
   rw [hd]
   exact ⟨rfl, hb⟩)
 have hfew := hg.few
 have hdir := par_dir (show (51 : Int) ≠ 0 by decide) (show (a.par o.path 51).2 = 0 by rw [hd])
 rw [hd] at hdir
 have hdl := (hg.in_last (k := d) (by rw [hdir]; decide)).2
 have HFI := Lib.hid (fun W (h : RIs F W y R a) => show Calls Tryz.prog 75 #[.pointer (some ⟨y, 0, none⟩), .int .i64 (d : Nat), .string (nameN o.path)] W (fun e w' => e = .returned (.int .i64 (id : Nat)) ∧ W = w') from by
  have := rfind_any d (nameN o.path) W h hdl (by omega) (Nat.le_trans (hg.len d) (by omega))
  rw [hid] at this
  exact this)
 have hlive : (a.nd id).kind ≠ 0 := by rw [← hid]; exact hg.find_live (by rw [hid]; exact hz)
 have hil := (hg.in_last hlive).2
 have t1 : (((id : Nat) : Int) != 0) = true := bne_iff_ne.2 (by omega)
 have t2 : (((id : Nat) : Int) == 0) = false := beq_eq_false_iff_ne.2 (by omega)
 have HIB := Lib.hid hil
 have hin : ((id : Nat) : Int) < ((a.last + 1 : Nat) : Int) := by omega
 have HKK := Lib.hid hk
 obtain ⟨A3, e3, h3⟩ := (HT.out.nam id HIB.out).1.shape
 have H3 := Lib.hid h3
 clear h3
 have tn : (0 : Int) < (((a.nd id).names.length : Nat) : Int) := by omega
 generalize (a.nd id).names.length = nl at *
 generalize hnn : a.last + 1 = n1 at *
 have hnb : n1 ≤ 1000001 := by omega
 have HNN := Lib.hid hnn
 clear hnn
 clear h hg hd hid hz hfew hdir hdl hlive hil hk hn
 have e7 := kf 7 hkd rfl
 have e8 := kt 8 hkd rfl
 have e10 := kf 10 hkd rfl
 clear hkd
 go_enter Tryz.func36, Tryz.ntmps36
 go_upto_region 1 with (fail)
 obtain ⟨w1, hwe, HO1, HB1⟩ := asked w (oc o A n cap)
 rw [← hwe]
 clear hwe
 have ua0 := (HO1.out).b0.c8
 have ur0 := (HO1.out).b1.cf7
 have ul := (HO1.out).b1.lt
 go_wp2_with fail
 refine (HPA.out _ (HH.out _ HB1.out)).mono ?_
 rintro e w2 ⟨rfl, hb2⟩
 clear ua0 ur0 ul
 have HO2 := Lib.hid (HO1.out.below hb2)
 have HB2 := Lib.hid (HB1.out.trans (hb2.mono HB1.out.size))
 clear hb2
 have za0 := (HO2.out).b0.c8
 have zr0 := (HO2.out).b1.cf7
 have zl := (HO2.out).b1.lt
 have HR2 := Lib.hid (HH.out _ HB2.out)
 go_wp2_with fail
 refine (HFI.out _ HR2.out).mono ?_
 rintro e w' ⟨rfl, h8⟩
 obtain rfl := h8
 obtain ⟨r0, r1⟩ := HR2.out.cells
 rw [HNN.out] at r0
 obtain ⟨k0, k1, k2, k3⟩ := HR2.out.cel id HIB.out
 rw [HKK.out] at k0
 rw [H3.out] at k3
 go_wp2_with fail
 refine (failed_any _ _).mono ?_
 rintro e w5 ⟨rfl, hb5⟩
 have HOF := Lib.hid (HO2.out.below hb5)
 have HBF := Lib.hid (HB2.out.trans (hb5.mono HB2.out.size))
 clear hb5
 have vr0 := (HOF.out).b1.cf7
 have vl := (HOF.out).b1.lt
 go_wp2_with fail
 refine bodyPost_ret (v := .agg #[.int .i64 44, .int .i64 0, .slice none 0 0, .slice none 0 0, .int .i64 0, .int .i64 0, .int .i64 0]) (by simp [results, Tryz.results36, go_sem, vr0, vl]) rfl ?_
 exact rans_same HT.out (ans_set HBF.out (by omega) _ _ _ _ _ _ _)
theorem rnames10_ok (o : OpT) (A : Option Addr) (n cap : Nat) (w : World) (h : RIs F w y R a) (hg : Good a c) (hc : c + 20 ≤ 100000) (hp : o.path.size ≤ 1000) (hkd : o.kind = 10) (d id : Nat) (hd : a.par o.path 43 = (d, 0)) (hid : a.find d (nameN o.path) = id) (hz : id ≠ 0) (hk : (a.nd id).kind ≠ 2) :
  Calls Tryz.prog 36 #[.pointer (some ⟨y, 0, none⟩), o.val A n cap] w (RAnsPost F y ((a.put d (nameN o.path) 0).less id) w) := by
 unfold OpT.val
 have HT := Lib.hid h
 have HH := Lib.hid (fun W (hb : Below w.heap.size w W) => h.below hb)
 have HPA := Lib.hid (fun W (h : RIs F W y R a) => show Calls Tryz.prog 74 #[.pointer (some ⟨y, 0, none⟩), .string o.path, .int .i64 43] W (fun e w' => e = .returned (.tuple #[.int .i64 (d : Nat), .string (nameN o.path), .int .i64 0]) ∧ Below W.heap.size W w') from
  (rparent_any o.path 43 W h hg (by omega) hp (by decide)).mono fun e w' hx => by
   obtain ⟨⟨d0, s0, rfl, hq⟩, hb⟩ := hx
   rw [hd] at hq
   obtain ⟨rfl, rfl⟩ := hq rfl
   rw [hd]
   exact ⟨rfl, hb⟩)
 have hfew := hg.few
 have hdir := par_dir (show (43 : Int) ≠ 0 by decide) (show (a.par o.path 43).2 = 0 by rw [hd])
 rw [hd] at hdir
 have hdl := (hg.in_last (k := d) (by rw [hdir]; decide)).2
 have HFI := Lib.hid (fun W (h : RIs F W y R a) => show Calls Tryz.prog 75 #[.pointer (some ⟨y, 0, none⟩), .int .i64 (d : Nat), .string (nameN o.path)] W (fun e w' => e = .returned (.int .i64 (id : Nat)) ∧ W = w') from by
  have := rfind_any d (nameN o.path) W h hdl (by omega) (Nat.le_trans (hg.len d) (by omega))
  rw [hid] at this
  exact this)
 have hlive : (a.nd id).kind ≠ 0 := by rw [← hid]; exact hg.find_live (by rw [hid]; exact hz)
 have hil := (hg.in_last hlive).2
 have t1 : (((id : Nat) : Int) != 0) = true := bne_iff_ne.2 (by omega)
 have t2 : (((id : Nat) : Int) == 0) = false := beq_eq_false_iff_ne.2 (by omega)
 have HIB := Lib.hid hil
 have hin : ((id : Nat) : Int) < ((a.last + 1 : Nat) : Int) := by omega
 have HPU := Lib.hid (fun W (h : RIs F W y R a) => rput0_any d (nameN o.path) W h hg (by omega) hdl)
 have HLE := Lib.hid (fun F' W R' (h : RIs F' W y R' (a.put d (nameN o.path) 0)) => rless_any id W h hil (show a.last ≤ 1000000 by omega) (by rw [links_put]; exact hg.links id))
 have HFL : Hid (∀ j, F j → j < w.heap.size) := Lib.hid fun j e => HT.out.lt j e
 have t5 : ((a.nd id).kind == 2) = false := beq_eq_false_iff_ne.2 hk
 generalize hkk : (a.nd id).kind = kd at *
 have HKK := Lib.hid hkk
 clear hkk
 generalize hnn : a.last + 1 = n1 at *
 have hnb : n1 ≤ 1000001 := by omega
 have HNN := Lib.hid hnn
 clear hnn
 clear h hg hd hid hz hfew hdir hdl hlive hil hk
 have e7 := kf 7 hkd rfl
 have e8 := kf 8 hkd rfl
 have e10 := kt 10 hkd rfl
 clear hkd
 go_enter Tryz.func36, Tryz.ntmps36
 go_upto_region 1 with (fail)
 obtain ⟨w1, hwe, HO1, HB1⟩ := asked w (oc o A n cap)
 rw [← hwe]
 clear hwe
 have ua0 := (HO1.out).b0.c8
 have ur0 := (HO1.out).b1.cf7
 have ul := (HO1.out).b1.lt
 go_wp2_with fail
 refine (HPA.out _ (HH.out _ HB1.out)).mono ?_
 rintro e w2 ⟨rfl, hb2⟩
 clear ua0 ur0 ul
 have HO2 := Lib.hid (HO1.out.below hb2)
 have HB2 := Lib.hid (HB1.out.trans (hb2.mono HB1.out.size))
 clear hb2
 have za0 := (HO2.out).b0.c8
 have zr0 := (HO2.out).b1.cf7
 have zl := (HO2.out).b1.lt
 have HR2 := Lib.hid (HH.out _ HB2.out)
 go_wp2_with fail
 refine (HFI.out _ HR2.out).mono ?_
 rintro e w' ⟨rfl, h8⟩
 obtain rfl := h8
 obtain ⟨r0, r1⟩ := HR2.out.cells
 rw [HNN.out] at r0
 obtain ⟨k0, k1, k2, k3⟩ := HR2.out.cel id HIB.out
 rw [HKK.out] at k0
 go_wp2_with fail
 refine (HPU.out _ HR2.out).mono ?_
 rintro e w6 ⟨rfl, hs6, hTu6⟩
 clear za0 zr0 zl r0 r1 k0 k1 k2 k3
 have HTu6 := Lib.hid hTu6
 obtain ⟨R6, h6⟩ := hs6
 have H6 := Lib.hid h6
 clear h6 hTu6
 go_wp2_with fail
 refine (HLE.out _ _ _ H6.out).mono ?_
 rintro e w9 ⟨rfl, hs9, hTu9⟩
 have HTu9 := Lib.hid (HTu6.out.grow2' hTu9)
 have HS9 := Lib.hid (hs9.grow2 HTu6.out.size hTu9.size)
 clear hs9 hTu9
 have HO9 := Lib.hid (HO2.out.turn2 HTu9.out (fun e => by have := HFL.out _ e; omega) (fun e => by have := HFL.out _ e; omega))
 have vr0 := (HO9.out).b1.cf7
 have vl := (HO9.out).b1.lt
 go_wp2_with fail
 refine bodyPost_ret (v := .agg #[.int .i64 0, .int .i64 0, .slice none 0 0, .slice none 0 0, .int .i64 0, .int .i64 0, .int .i64 0]) (by simp [results, Tryz.results36, go_sem, vr0, vl]) rfl ?_
 exact rans_fin (F' := F) (wX := w2) HT.out HS9.out ((Turn.of_below (S := F) HB2.out).trans (S' := F) HTu9.out fun _ _ e => e) HB2.out.size (fun j e => .inl e) (by omega) HO2.out.b1.lt (fun e => by have := HFL.out _ e; omega)
theorem rnames8_ok (o : OpT) (A : Option Addr) (n cap : Nat) (w : World) (h : RIs F w y R a) (hg : Good a c) (hc : c + 20 ≤ 100000) (hp : o.path.size ≤ 1000) (hkd : o.kind = 8) (d id : Nat) (hd : a.par o.path 51 = (d, 0)) (hid : a.find d (nameN o.path) = id) (hz : id ≠ 0) (hk : (a.nd id).kind = 2) (hn : (a.nd id).names.length = 0) :
  Calls Tryz.prog 36 #[.pointer (some ⟨y, 0, none⟩), o.val A n cap] w (RAnsPost F y ((a.put d (nameN o.path) 0).less id) w) := by
 unfold OpT.val
 have HT := Lib.hid h
 have HH := Lib.hid (fun W (hb : Below w.heap.size w W) => h.below hb)
 have HPA := Lib.hid (fun W (h : RIs F W y R a) => show Calls Tryz.prog 74 #[.pointer (some ⟨y, 0, none⟩), .string o.path, .int .i64 51] W (fun e w' => e = .returned (.tuple #[.int .i64 (d : Nat), .string (nameN o.path), .int .i64 0]) ∧ Below W.heap.size W w') from
  (rparent_any o.path 51 W h hg (by omega) hp (by decide)).mono fun e w' hx => by
   obtain ⟨⟨d0, s0, rfl, hq⟩, hb⟩ := hx
   rw [hd] at hq
   obtain ⟨rfl, rfl⟩ := hq rfl
   rw [hd]
   exact ⟨rfl, hb⟩)
 have hfew := hg.few
 have hdir := par_dir (show (51 : Int) ≠ 0 by decide) (show (a.par o.path 51).2 = 0 by rw [hd])
 rw [hd] at hdir
 have hdl := (hg.in_last (k := d) (by rw [hdir]; decide)).2
 have HFI := Lib.hid (fun W (h : RIs F W y R a) => show Calls Tryz.prog 75 #[.pointer (some ⟨y, 0, none⟩), .int .i64 (d : Nat), .string (nameN o.path)] W (fun e w' => e = .returned (.int .i64 (id : Nat)) ∧ W = w') from by
  have := rfind_any d (nameN o.path) W h hdl (by omega) (Nat.le_trans (hg.len d) (by omega))
  rw [hid] at this
  exact this)
 have hlive : (a.nd id).kind ≠ 0 := by rw [← hid]; exact hg.find_live (by rw [hid]; exact hz)
 have hil := (hg.in_last hlive).2
 have t1 : (((id : Nat) : Int) != 0) = true := bne_iff_ne.2 (by omega)
 have t2 : (((id : Nat) : Int) == 0) = false := beq_eq_false_iff_ne.2 (by omega)
 have HIB := Lib.hid hil
 have hin : ((id : Nat) : Int) < ((a.last + 1 : Nat) : Int) := by omega
 have HPU := Lib.hid (fun W (h : RIs F W y R a) => rput0_any d (nameN o.path) W h hg (by omega) hdl)
 have HLE := Lib.hid (fun F' W R' (h : RIs F' W y R' (a.put d (nameN o.path) 0)) => rless_any id W h hil (show a.last ≤ 1000000 by omega) (by rw [links_put]; exact hg.links id))
 have HFL : Hid (∀ j, F j → j < w.heap.size) := Lib.hid fun j e => HT.out.lt j e
 have HKK := Lib.hid hk
 obtain ⟨A3, e3, h3⟩ := (HT.out.nam id HIB.out).1.shape
 have H3 := Lib.hid h3
 clear h3
 rw [hn] at H3
 generalize hnn : a.last + 1 = n1 at *
 have hnb : n1 ≤ 1000001 := by omega
 have HNN := Lib.hid hnn
 clear hnn
 clear h hg hd hid hz hfew hdir hdl hlive hil hk hn
 have e7 := kf 7 hkd rfl
 have e8 := kt 8 hkd rfl
 have e10 := kf 10 hkd rfl
 clear hkd
 go_enter Tryz.func36, Tryz.ntmps36
 go_upto_region 1 with (fail)
 obtain ⟨w1, hwe, HO1, HB1⟩ := asked w (oc o A n cap)
 rw [← hwe]
 clear hwe
 have ua0 := (HO1.out).b0.c8
 have ur0 := (HO1.out).b1.cf7
 have ul := (HO1.out).b1.lt
 go_wp2_with fail
 refine (HPA.out _ (HH.out _ HB1.out)).mono ?_
 rintro e w2 ⟨rfl, hb2⟩
 clear ua0 ur0 ul
 have HO2 := Lib.hid (HO1.out.below hb2)
 have HB2 := Lib.hid (HB1.out.trans (hb2.mono HB1.out.size))
 clear hb2
 have za0 := (HO2.out).b0.c8
 have zr0 := (HO2.out).b1.cf7
 have zl := (HO2.out).b1.lt
 have HR2 := Lib.hid (HH.out _ HB2.out)
 go_wp2_with fail
 refine (HFI.out _ HR2.out).mono ?_
 rintro e w' ⟨rfl, h8⟩
 obtain rfl := h8
 obtain ⟨r0, r1⟩ := HR2.out.cells
 rw [HNN.out] at r0
 obtain ⟨k0, k1, k2, k3⟩ := HR2.out.cel id HIB.out
 rw [HKK.out] at k0
 rw [H3.out] at k3
 go_wp2_with fail
 refine (HPU.out _ HR2.out).mono ?_
 rintro e w6 ⟨rfl, hs6, hTu6⟩
 clear za0 zr0 zl r0 r1 k0 k1 k2 k3
 have HTu6 := Lib.hid hTu6
 obtain ⟨R6, h6⟩ := hs6
 have H6 := Lib.hid h6
 clear h6 hTu6
 go_wp2_with fail
 refine (HLE.out _ _ _ H6.out).mono ?_
 rintro e w9 ⟨rfl, hs9, hTu9⟩
 have HTu9 := Lib.hid (HTu6.out.grow2' hTu9)
 have HS9 := Lib.hid (hs9.grow2 HTu6.out.size hTu9.size)
 clear hs9 hTu9
 have HO9 := Lib.hid (HO2.out.turn2 HTu9.out (fun e => by have := HFL.out _ e; omega) (fun e => by have := HFL.out _ e; omega))
 have vr0 := (HO9.out).b1.cf7
 have vl := (HO9.out).b1.lt
 go_wp2_with fail
 refine bodyPost_ret (v := .agg #[.int .i64 0, .int .i64 0, .slice none 0 0, .slice none 0 0, .int .i64 0, .int .i64 0, .int .i64 0]) (by simp [results, Tryz.results36, go_sem, vr0, vl]) rfl ?_
 exact rans_fin (F' := F) (wX := w2) HT.out HS9.out ((Turn.of_below (S := F) HB2.out).trans (S' := F) HTu9.out fun _ _ e => e) HB2.out.size (fun j e => .inl e) (by omega) HO2.out.b1.lt (fun e => by have := HFL.out _ e; omega)
theorem rnames7_any (o : OpT) (A : Option Addr) (n cap : Nat) (w : World) (h : RIs F w y R a) (hg : Good a c) (hc : c + 20 ≤ 100000) (hp : o.path.size ≤ 1000) (hkd : o.kind = 7) :
  Calls Tryz.prog 36 #[.pointer (some ⟨y, 0, none⟩), o.val A n cap] w (RAnsPost F y (a.mkdirT o) w) := by
 by_cases he : (a.par o.path 41).2 = 0
 ·obtain ⟨d, hd⟩ : ∃ d, a.par o.path 41 = (d, 0) := ⟨(a.par o.path 41).1, by rw [← he]⟩
  by_cases hz : a.find d (nameN o.path) = 0
  ·have hE : a.mkdirE o = 0 := by unfold TS.mkdirE; rw [if_neg (fun x => x he), hd]; exact if_neg fun x => x hz
   have hT : a.mkdirT o = a.more d (nameN o.path) 2 := by unfold TS.mkdirT; rw [if_pos hE, hd]
   rw [hT]
   exact rnames7_ok o A n cap w h hg hc hp hkd d hd hz
  ·have hE : a.mkdirE o = 41 := by unfold TS.mkdirE; rw [if_neg (fun x => x he), hd]; exact if_pos hz
   have hT : a.mkdirT o = a := by unfold TS.mkdirT; rw [hE]; exact if_neg (by decide)
   rw [hT]
   exact rnames7_41 o A n cap w h hg hc hp hkd d _ hd rfl hz
 ·have hE : a.mkdirE o = (a.par o.path 41).2 := by unfold TS.mkdirE; rw [if_pos he]
  have hT : a.mkdirT o = a := by unfold TS.mkdirT; rw [hE]; exact if_neg he
  rw [hT]
  exact rnames7_par o A n cap w h hg hc hp hkd he
theorem rnames_any (o : OpT) (A : Option Addr) (n cap : Nat) (w : World) (h : RIs F w y R a) (hg : Good a c) (hc : c + 20 ≤ 100000) (hp : o.path.size ≤ 1000) (hkd : o.kind = 8 ∨ o.kind = 10) :
  Calls Tryz.prog 36 #[.pointer (some ⟨y, 0, none⟩), o.val A n cap] w (RAnsPost F y (a.removeT o) w) := by
 have hal : aloneN o ≠ 0 := by unfold aloneN; split <;> decide
 have hbad : a.removeE o ≠ 0 → a.removeT o = a := fun hx => by unfold TS.removeT; rw [if_neg hx]
 have h8 : o.kind = 8 → aloneN o = 51 := fun e => by unfold aloneN; rw [if_pos e]
 have h10 : o.kind = 10 → aloneN o = 43 := fun e => by unfold aloneN; rw [if_neg (by rw [e]; decide)]
 by_cases he : (a.par o.path (aloneN o)).2 = 0
 ·obtain ⟨d, hd⟩ : ∃ d, a.par o.path (aloneN o) = (d, 0) := ⟨(a.par o.path (aloneN o)).1, by rw [← he]⟩
  have hE : a.removeE o = if a.find d (nameN o.path) = 0 then 40 else if o.kind = 10 ∧ (a.nd (a.find d (nameN o.path))).kind = 2 then 43 else if o.kind = 8 ∧ (a.nd (a.find d (nameN o.path))).kind ≠ 2 then 42 else if (a.nd (a.find d (nameN o.path))).names.length ≠ 0 then 44 else 0 := by
   unfold TS.removeE; rw [if_neg (fun x => x he), hd]
  have hT0 : a.removeE o = 0 → a.removeT o = (a.put d (nameN o.path) 0).less (a.find d (nameN o.path)) := fun hx => by unfold TS.removeT; rw [if_pos hx, hd]; rfl
  by_cases hz : a.find d (nameN o.path) = 0
  ·rw [hbad (by rw [hE, if_pos hz]; decide)]
   rcases hkd with hk | hk
   ·rw [h8 hk] at hd; exact rnames8_40 o A n cap w h hg hc hp hk d hd hz
   ·rw [h10 hk] at hd; exact rnames10_40 o A n cap w h hg hc hp hk d hd hz
  rw [if_neg hz] at hE
  rcases hkd with hk | hk
  ·rw [h8 hk] at hd
   rw [if_neg (fun x => absurd (hk.symm.trans x.1) (by decide))] at hE
   by_cases hk2 : (a.nd (a.find d (nameN o.path))).kind = 2
   ·rw [if_neg (fun x => x.2 hk2)] at hE
    by_cases hn : (a.nd (a.find d (nameN o.path))).names.length = 0
    ·rw [hT0 (by rw [hE, if_neg (fun x => x hn)])]
     exact rnames8_ok o A n cap w h hg hc hp hk d _ hd rfl hz hk2 hn
    ·rw [hbad (by rw [hE, if_pos hn]; decide)]
     exact rnames8_44 o A n cap w h hg hc hp hk d _ hd rfl hz hk2 hn
   ·rw [hbad (by rw [hE, if_pos ⟨hk, hk2⟩]; decide)]
    exact rnames8_42 o A n cap w h hg hc hp hk d _ hd rfl hz hk2
  ·rw [h10 hk] at hd
   by_cases hk2 : (a.nd (a.find d (nameN o.path))).kind = 2
   ·rw [hbad (by rw [hE, if_pos ⟨hk, hk2⟩]; decide)]
    exact rnames10_43 o A n cap w h hg hc hp hk d _ hd rfl hz hk2
   ·have hnil := (kind_one hg (hg.find_live hz) hk2).2
    rw [hT0 (by rw [hE, if_neg (fun x => hk2 x.2), if_neg (fun x => absurd (hk.symm.trans x.1) (by decide)), if_neg (fun x => x (by rw [hnil]; rfl))])]
    exact rnames10_ok o A n cap w h hg hc hp hk d _ hd rfl hz hk2
 ·have hE : a.removeE o = (a.par o.path (aloneN o)).2 := by unfold TS.removeE; rw [if_pos he]
  rw [hbad (by rw [hE]; exact he)]
  rcases hkd with hk | hk
  ·rw [h8 hk] at he; exact rnames8_par o A n cap w h hg hc hp hk he
  ·rw [h10 hk] at he; exact rnames10_par o A n cap w h hg hc hp hk he
end
end Go.Proofs.YtpkhglfhpggceaaGreatDoor
namespace Go.Proofs.YtpkhglfhpggceaaGreatDoor
set_option maxRecDepth 100000
set_option maxHeartbeats 16000000
open Go.RowKit
set_option linter.unusedVariables false
set_option linter.unusedSimpArgs false
section
variable {F : Nat → Prop} {w w' : World} {y c : Nat} {R : RMem} {a : TS}
theorem rlink_walk (o : OpT) (A : Option Addr) (n cap : Nat) (w : World) (h : RIs F w y R a) (hg : Good a c) (hc : c + 20 ≤ 100000) (hp : o.path.size ≤ 1000) (hp2 : o.to.size ≤ 1000) (hw : (a.walkP o.path).2 ≠ 0) :
  Calls Tryz.prog 37 #[.pointer (some ⟨y, 0, none⟩), o.val A n cap] w (RAnsPost F y (a) w) := by
 unfold OpT.val
 have HT := Lib.hid h
 have HH := Lib.hid (fun W (hb : Below w.heap.size w W) => h.below hb)
 have hW := Lib.hid (fun W (h : RIs F W y R a) => rWalk_any o.path W h hg (by omega) hp)
 have t9 : ((a.walkP o.path).2 != 0) = true := bne_iff_ne.2 hw
 clear h hg hw
 go_enter Tryz.func37, Tryz.ntmps37
 go_upto_region 1 with (fail)
 obtain ⟨w1, hwe, HO1, HB1⟩ := asked w (oc o A n cap)
 rw [← hwe]
 clear hwe
 have ua0 := (HO1.out).b0.c8
 have ur0 := (HO1.out).b1.cf7
 have ul := (HO1.out).b1.lt
 go_wp2_with fail
 refine (hW.out _ (HH.out _ HB1.out)).mono ?_
 rintro e w2 ⟨rfl, hb2⟩
 clear ua0 ur0 ul
 have HO2 := Lib.hid (HO1.out.below hb2)
 have HB2 := Lib.hid (HB1.out.trans (hb2.mono HB1.out.size))
 clear hb2
 have za0 := (HO2.out).b0.c8
 have zr0 := (HO2.out).b1.cf7
 have zl := (HO2.out).b1.lt
 go_wp2_with fail
 refine (failed_any _ _).mono ?_
 rintro e w5 ⟨rfl, hb5⟩
 have HOF := Lib.hid (HO2.out.below hb5)
 have HBF := Lib.hid (HB2.out.trans (hb5.mono HB2.out.size))
 clear hb5
 have vr0 := (HOF.out).b1.cf7
 have vl := (HOF.out).b1.lt
 go_wp2_with fail
 refine bodyPost_ret (v := .agg #[.int .i64 (a.walkP o.path).2, .int .i64 0, .slice none 0 0, .slice none 0 0, .int .i64 0, .int .i64 0, .int .i64 0]) (by simp [results, Tryz.results37, go_sem, vr0, vl]) rfl ?_
 exact rans_same HT.out (ans_set HBF.out (by omega) _ _ _ _ _ _ _)
theorem rlink_43 (o : OpT) (A : Option Addr) (n cap : Nat) (w : World) (h : RIs F w y R a) (hg : Good a c) (hc : c + 20 ≤ 100000) (hp : o.path.size ≤ 1000) (hp2 : o.to.size ≤ 1000) (id : Nat) (hw : a.walkP o.path = (id, 0)) (hk : (a.nd id).kind = 2) :
  Calls Tryz.prog 37 #[.pointer (some ⟨y, 0, none⟩), o.val A n cap] w (RAnsPost F y (a) w) := by
 unfold OpT.val
 have HT := Lib.hid h
 have HH := Lib.hid (fun W (hb : Below w.heap.size w W) => h.below hb)
 have hW := Lib.hid (fun W (h : RIs F W y R a) => rWalk_any o.path W h hg (by omega) hp)
 rw [hw] at hW
 have hlive : (a.nd id).kind ≠ 0 := by have := hg.walkP_live (p := o.path) (by rw [hw]); rw [hw] at this; exact this
 have hil := (hg.in_last hlive).2
 have hi1 := (hg.in_last hlive).1
 have hfew := hg.few
 have HIB := Lib.hid hil
 have hin : ((id : Nat) : Int) < ((a.last + 1 : Nat) : Int) := by omega
 have HKK := Lib.hid hk
 generalize hnn : a.last + 1 = n1 at *
 have hnb : n1 ≤ 1000001 := by omega
 have HNN := Lib.hid hnn
 clear hnn
 clear h hg hw hlive hil hi1 hfew hk
 go_enter Tryz.func37, Tryz.ntmps37
 go_upto_region 1 with (fail)
 obtain ⟨w1, hwe, HO1, HB1⟩ := asked w (oc o A n cap)
 rw [← hwe]
 clear hwe
 have ua0 := (HO1.out).b0.c8
 have ur0 := (HO1.out).b1.cf7
 have ul := (HO1.out).b1.lt
 go_wp2_with fail
 refine (hW.out _ (HH.out _ HB1.out)).mono ?_
 rintro e w2 ⟨rfl, hb2⟩
 clear ua0 ur0 ul
 have HO2 := Lib.hid (HO1.out.below hb2)
 have HB2 := Lib.hid (HB1.out.trans (hb2.mono HB1.out.size))
 clear hb2
 have za0 := (HO2.out).b0.c8
 have zr0 := (HO2.out).b1.cf7
 have zl := (HO2.out).b1.lt
 have HR2 := Lib.hid (HH.out _ HB2.out)
 obtain ⟨r0, r1⟩ := HR2.out.cells
 rw [HNN.out] at r0
 obtain ⟨k0, k1, k2, k3⟩ := HR2.out.cel id HIB.out
 rw [HKK.out] at k0
 go_wp2_with fail
 refine (failed_any _ _).mono ?_
 rintro e w5 ⟨rfl, hb5⟩
 have HOF := Lib.hid (HO2.out.below hb5)
 have HBF := Lib.hid (HB2.out.trans (hb5.mono HB2.out.size))
 clear hb5
 have vr0 := (HOF.out).b1.cf7
 have vl := (HOF.out).b1.lt
 go_wp2_with fail
 refine bodyPost_ret (v := .agg #[.int .i64 43, .int .i64 0, .slice none 0 0, .slice none 0 0, .int .i64 0, .int .i64 0, .int .i64 0]) (by simp [results, Tryz.results37, go_sem, vr0, vl]) rfl ?_
 exact rans_same HT.out (ans_set HBF.out (by omega) _ _ _ _ _ _ _)
theorem rlink_par (o : OpT) (A : Option Addr) (n cap : Nat) (w : World) (h : RIs F w y R a) (hg : Good a c) (hc : c + 20 ≤ 100000) (hp : o.path.size ≤ 1000) (hp2 : o.to.size ≤ 1000) (id : Nat) (hw : a.walkP o.path = (id, 0)) (hk : (a.nd id).kind ≠ 2) (he : (a.par o.to 41).2 ≠ 0) :
  Calls Tryz.prog 37 #[.pointer (some ⟨y, 0, none⟩), o.val A n cap] w (RAnsPost F y (a) w) := by
 unfold OpT.val
 have HT := Lib.hid h
 have HH := Lib.hid (fun W (hb : Below w.heap.size w W) => h.below hb)
 have hW := Lib.hid (fun W (h : RIs F W y R a) => rWalk_any o.path W h hg (by omega) hp)
 rw [hw] at hW
 have hlive : (a.nd id).kind ≠ 0 := by have := hg.walkP_live (p := o.path) (by rw [hw]); rw [hw] at this; exact this
 have hil := (hg.in_last hlive).2
 have hi1 := (hg.in_last hlive).1
 have hfew := hg.few
 have HIB := Lib.hid hil
 have hin : ((id : Nat) : Int) < ((a.last + 1 : Nat) : Int) := by omega
 have HPA := Lib.hid (fun W (h : RIs F W y R a) => rparent_any o.to 41 W h hg (by omega) hp2 (by decide))
 have t9 : ((a.par o.to 41).2 != 0) = true := bne_iff_ne.2 he
 have t5 : ((a.nd id).kind == 2) = false := beq_eq_false_iff_ne.2 hk
 generalize hkk : (a.nd id).kind = kd at *
 have HKK := Lib.hid hkk
 clear hkk
 generalize hnn : a.last + 1 = n1 at *
 have hnb : n1 ≤ 1000001 := by omega
 have HNN := Lib.hid hnn
 clear hnn
 clear h hg hw hlive hil hi1 hfew hk he
 go_enter Tryz.func37, Tryz.ntmps37
 go_upto_region 1 with (fail)
 obtain ⟨w1, hwe, HO1, HB1⟩ := asked w (oc o A n cap)
 rw [← hwe]
 clear hwe
 have ua0 := (HO1.out).b0.c8
 have ur0 := (HO1.out).b1.cf7
 have ul := (HO1.out).b1.lt
 go_wp2_with fail
 refine (hW.out _ (HH.out _ HB1.out)).mono ?_
 rintro e w2 ⟨rfl, hb2⟩
 clear ua0 ur0 ul
 have HO2 := Lib.hid (HO1.out.below hb2)
 have HB2 := Lib.hid (HB1.out.trans (hb2.mono HB1.out.size))
 clear hb2
 have za0 := (HO2.out).b0.c8
 have zr0 := (HO2.out).b1.cf7
 have zl := (HO2.out).b1.lt
 have HR2 := Lib.hid (HH.out _ HB2.out)
 obtain ⟨r0, r1⟩ := HR2.out.cells
 rw [HNN.out] at r0
 obtain ⟨k0, k1, k2, k3⟩ := HR2.out.cel id HIB.out
 rw [HKK.out] at k0
 go_wp2_with fail
 refine (HPA.out _ HR2.out).mono ?_
 rintro e w3 ⟨⟨d0, s0, rfl, -⟩, hb3⟩
 clear za0 zr0 zl r0 r1 k0 k1 k2 k3
 have HO3 := Lib.hid (HO2.out.below hb3)
 have HB3 := Lib.hid (HB2.out.trans (hb3.mono HB2.out.size))
 clear hb3
 have xa0 := (HO3.out).b0.c8
 have xr0 := (HO3.out).b1.cf7
 have xl := (HO3.out).b1.lt
 go_wp2_with fail
 refine (failed_any _ _).mono ?_
 rintro e w5 ⟨rfl, hb5⟩
 have HOF := Lib.hid (HO3.out.below hb5)
 have HBF := Lib.hid (HB3.out.trans (hb5.mono HB3.out.size))
 clear hb5
 have vr0 := (HOF.out).b1.cf7
 have vl := (HOF.out).b1.lt
 go_wp2_with fail
 refine bodyPost_ret (v := .agg #[.int .i64 (a.par o.to 41).2, .int .i64 0, .slice none 0 0, .slice none 0 0, .int .i64 0, .int .i64 0, .int .i64 0]) (by simp [results, Tryz.results37, go_sem, vr0, vl]) rfl ?_
 exact rans_same HT.out (ans_set HBF.out (by omega) _ _ _ _ _ _ _)
theorem rlink_41 (o : OpT) (A : Option Addr) (n cap : Nat) (w : World) (h : RIs F w y R a) (hg : Good a c) (hc : c + 20 ≤ 100000) (hp : o.path.size ≤ 1000) (hp2 : o.to.size ≤ 1000) (id : Nat) (hw : a.walkP o.path = (id, 0)) (hk : (a.nd id).kind ≠ 2) (d was : Nat) (hd : a.par o.to 41 = (d, 0)) (hid : a.find d (nameN o.to) = was) (hz : was ≠ 0) :
  Calls Tryz.prog 37 #[.pointer (some ⟨y, 0, none⟩), o.val A n cap] w (RAnsPost F y (a) w) := by
 unfold OpT.val
 have HT := Lib.hid h
 have HH := Lib.hid (fun W (hb : Below w.heap.size w W) => h.below hb)
 have hW := Lib.hid (fun W (h : RIs F W y R a) => rWalk_any o.path W h hg (by omega) hp)
 rw [hw] at hW
 have hlive : (a.nd id).kind ≠ 0 := by have := hg.walkP_live (p := o.path) (by rw [hw]); rw [hw] at this; exact this
 have hil := (hg.in_last hlive).2
 have hi1 := (hg.in_last hlive).1
 have hfew := hg.few
 have HIB := Lib.hid hil
 have hin : ((id : Nat) : Int) < ((a.last + 1 : Nat) : Int) := by omega
 have HPA := Lib.hid (fun W (h : RIs F W y R a) => show Calls Tryz.prog 74 #[.pointer (some ⟨y, 0, none⟩), .string o.to, .int .i64 41] W (fun e w' => e = .returned (.tuple #[.int .i64 (d : Nat), .string (nameN o.to), .int .i64 0]) ∧ Below W.heap.size W w') from
  (rparent_any o.to 41 W h hg (by omega) hp2 (by decide)).mono fun e w' hx => by
   obtain ⟨⟨d0, s0, rfl, hq⟩, hb⟩ := hx
   rw [hd] at hq
   obtain ⟨rfl, rfl⟩ := hq rfl
   rw [hd]
   exact ⟨rfl, hb⟩)
 have hdir := par_dir (show (41 : Int) ≠ 0 by decide) (show (a.par o.to 41).2 = 0 by rw [hd])
 rw [hd] at hdir
 have hdl := (hg.in_last (k := d) (by rw [hdir]; decide)).2
 have HFI := Lib.hid (fun W (h : RIs F W y R a) => show Calls Tryz.prog 75 #[.pointer (some ⟨y, 0, none⟩), .int .i64 (d : Nat), .string (nameN o.to)] W (fun e w' => e = .returned (.int .i64 (was : Nat)) ∧ W = w') from by
  have := rfind_any d (nameN o.to) W h hdl (by omega) (Nat.le_trans (hg.len d) (by omega))
  rw [hid] at this
  exact this)
 have t1 : (((was : Nat) : Int) != 0) = true := bne_iff_ne.2 (by omega)
 have t5 : ((a.nd id).kind == 2) = false := beq_eq_false_iff_ne.2 hk
 generalize hkk : (a.nd id).kind = kd at *
 have HKK := Lib.hid hkk
 clear hkk
 generalize hnn : a.last + 1 = n1 at *
 have hnb : n1 ≤ 1000001 := by omega
 have HNN := Lib.hid hnn
 clear hnn
 clear h hg hw hlive hil hi1 hfew hk hd hid hdir hdl hz
 go_enter Tryz.func37, Tryz.ntmps37
 go_upto_region 1 with (fail)
 obtain ⟨w1, hwe, HO1, HB1⟩ := asked w (oc o A n cap)
 rw [← hwe]
 clear hwe
 have ua0 := (HO1.out).b0.c8
 have ur0 := (HO1.out).b1.cf7
 have ul := (HO1.out).b1.lt
 go_wp2_with fail
 refine (hW.out _ (HH.out _ HB1.out)).mono ?_
 rintro e w2 ⟨rfl, hb2⟩
 clear ua0 ur0 ul
 have HO2 := Lib.hid (HO1.out.below hb2)
 have HB2 := Lib.hid (HB1.out.trans (hb2.mono HB1.out.size))
 clear hb2
 have za0 := (HO2.out).b0.c8
 have zr0 := (HO2.out).b1.cf7
 have zl := (HO2.out).b1.lt
 have HR2 := Lib.hid (HH.out _ HB2.out)
 obtain ⟨r0, r1⟩ := HR2.out.cells
 rw [HNN.out] at r0
 obtain ⟨k0, k1, k2, k3⟩ := HR2.out.cel id HIB.out
 rw [HKK.out] at k0
 go_wp2_with fail
 refine (HPA.out _ HR2.out).mono ?_
 rintro e w3 ⟨rfl, hb3⟩
 clear za0 zr0 zl r0 r1 k0 k1 k2 k3
 have HO3 := Lib.hid (HO2.out.below hb3)
 have HB3 := Lib.hid (HB2.out.trans (hb3.mono HB2.out.size))
 clear hb3
 have xa0 := (HO3.out).b0.c8
 have xr0 := (HO3.out).b1.cf7
 have xl := (HO3.out).b1.lt
 have HR3 := Lib.hid (HH.out _ HB3.out)
 go_wp2_with fail
 refine (HFI.out _ HR3.out).mono ?_
 rintro e w' ⟨rfl, h8⟩
 obtain rfl := h8
 go_wp2_with fail
 refine (failed_any _ _).mono ?_
 rintro e w5 ⟨rfl, hb5⟩
 have HOF := Lib.hid (HO3.out.below hb5)
 have HBF := Lib.hid (HB3.out.trans (hb5.mono HB3.out.size))
 clear hb5
 have vr0 := (HOF.out).b1.cf7
 have vl := (HOF.out).b1.lt
 go_wp2_with fail
 refine bodyPost_ret (v := .agg #[.int .i64 41, .int .i64 0, .slice none 0 0, .slice none 0 0, .int .i64 0, .int .i64 0, .int .i64 0]) (by simp [results, Tryz.results37, go_sem, vr0, vl]) rfl ?_
 exact rans_same HT.out (ans_set HBF.out (by omega) _ _ _ _ _ _ _)
theorem rlink_48 (o : OpT) (A : Option Addr) (n cap : Nat) (w : World) (h : RIs F w y R a) (hg : Good a c) (hc : c + 20 ≤ 100000) (hp : o.path.size ≤ 1000) (hp2 : o.to.size ≤ 1000) (id : Nat) (hw : a.walkP o.path = (id, 0)) (hk : (a.nd id).kind ≠ 2) (d : Nat) (hd : a.par o.to 41 = (d, 0)) (hid : a.find d (nameN o.to) = 0) (hl : (a.nd id).links = 200) :
  Calls Tryz.prog 37 #[.pointer (some ⟨y, 0, none⟩), o.val A n cap] w (RAnsPost F y (a) w) := by
 unfold OpT.val
 have HT := Lib.hid h
 have HH := Lib.hid (fun W (hb : Below w.heap.size w W) => h.below hb)
 have hW := Lib.hid (fun W (h : RIs F W y R a) => rWalk_any o.path W h hg (by omega) hp)
 rw [hw] at hW
 have hlive : (a.nd id).kind ≠ 0 := by have := hg.walkP_live (p := o.path) (by rw [hw]); rw [hw] at this; exact this
 have hil := (hg.in_last hlive).2
 have hi1 := (hg.in_last hlive).1
 have hfew := hg.few
 have HIB := Lib.hid hil
 have hin : ((id : Nat) : Int) < ((a.last + 1 : Nat) : Int) := by omega
 have HPA := Lib.hid (fun W (h : RIs F W y R a) => show Calls Tryz.prog 74 #[.pointer (some ⟨y, 0, none⟩), .string o.to, .int .i64 41] W (fun e w' => e = .returned (.tuple #[.int .i64 (d : Nat), .string (nameN o.to), .int .i64 0]) ∧ Below W.heap.size W w') from
  (rparent_any o.to 41 W h hg (by omega) hp2 (by decide)).mono fun e w' hx => by
   obtain ⟨⟨d0, s0, rfl, hq⟩, hb⟩ := hx
   rw [hd] at hq
   obtain ⟨rfl, rfl⟩ := hq rfl
   rw [hd]
   exact ⟨rfl, hb⟩)
 have hdir := par_dir (show (41 : Int) ≠ 0 by decide) (show (a.par o.to 41).2 = 0 by rw [hd])
 rw [hd] at hdir
 have hdl := (hg.in_last (k := d) (by rw [hdir]; decide)).2
 have HFI := Lib.hid (fun W (h : RIs F W y R a) => show Calls Tryz.prog 75 #[.pointer (some ⟨y, 0, none⟩), .int .i64 (d : Nat), .string (nameN o.to)] W (fun e w' => e = .returned (.int .i64 0) ∧ W = w') from by
  have := rfind_any d (nameN o.to) W h hdl (by omega) (Nat.le_trans (hg.len d) (by omega))
  rw [hid] at this
  exact this)
 have HLL := Lib.hid hl
 have t5 : ((a.nd id).kind == 2) = false := beq_eq_false_iff_ne.2 hk
 generalize hkk : (a.nd id).kind = kd at *
 have HKK := Lib.hid hkk
 clear hkk
 generalize hnn : a.last + 1 = n1 at *
 have hnb : n1 ≤ 1000001 := by omega
 have HNN := Lib.hid hnn
 clear hnn
 clear h hg hw hlive hil hi1 hfew hk hd hid hdir hdl hl
 go_enter Tryz.func37, Tryz.ntmps37
 go_upto_region 1 with (fail)
 obtain ⟨w1, hwe, HO1, HB1⟩ := asked w (oc o A n cap)
 rw [← hwe]
 clear hwe
 have ua0 := (HO1.out).b0.c8
 have ur0 := (HO1.out).b1.cf7
 have ul := (HO1.out).b1.lt
 go_wp2_with fail
 refine (hW.out _ (HH.out _ HB1.out)).mono ?_
 rintro e w2 ⟨rfl, hb2⟩
 clear ua0 ur0 ul
 have HO2 := Lib.hid (HO1.out.below hb2)
 have HB2 := Lib.hid (HB1.out.trans (hb2.mono HB1.out.size))
 clear hb2
 have za0 := (HO2.out).b0.c8
 have zr0 := (HO2.out).b1.cf7
 have zl := (HO2.out).b1.lt
 have HR2 := Lib.hid (HH.out _ HB2.out)
 obtain ⟨r0, r1⟩ := HR2.out.cells
 rw [HNN.out] at r0
 obtain ⟨k0, k1, k2, k3⟩ := HR2.out.cel id HIB.out
 rw [HKK.out] at k0
 go_wp2_with fail
 refine (HPA.out _ HR2.out).mono ?_
 rintro e w3 ⟨rfl, hb3⟩
 clear za0 zr0 zl r0 r1 k0 k1 k2 k3
 have HO3 := Lib.hid (HO2.out.below hb3)
 have HB3 := Lib.hid (HB2.out.trans (hb3.mono HB2.out.size))
 clear hb3
 have xa0 := (HO3.out).b0.c8
 have xr0 := (HO3.out).b1.cf7
 have xl := (HO3.out).b1.lt
 have HR3 := Lib.hid (HH.out _ HB3.out)
 go_wp2_with fail
 refine (HFI.out _ HR3.out).mono ?_
 rintro e w' ⟨rfl, h8⟩
 obtain rfl := h8
 obtain ⟨r0, r1⟩ := HR3.out.cells
 rw [HNN.out] at r0
 obtain ⟨k0, k1, k2, k3⟩ := HR3.out.cel id HIB.out
 have q1 := HR3.out.frozen (id * 4 + 1)
 rw [HLL.out] at k1
 go_wp2_with fail
 refine (failed_any _ _).mono ?_
 rintro e w5 ⟨rfl, hb5⟩
 have HOF := Lib.hid (HO3.out.below hb5)
 have HBF := Lib.hid (HB3.out.trans (hb5.mono HB3.out.size))
 clear hb5
 have vr0 := (HOF.out).b1.cf7
 have vl := (HOF.out).b1.lt
 go_wp2_with fail
 refine bodyPost_ret (v := .agg #[.int .i64 48, .int .i64 0, .slice none 0 0, .slice none 0 0, .int .i64 0, .int .i64 0, .int .i64 0]) (by simp [results, Tryz.results37, go_sem, vr0, vl]) rfl ?_
 exact rans_same HT.out (ans_set HBF.out (by omega) _ _ _ _ _ _ _)
theorem rlink_ok (o : OpT) (A : Option Addr) (n cap : Nat) (w : World) (h : RIs F w y R a) (hg : Good a c) (hc : c + 20 ≤ 100000) (hp : o.path.size ≤ 1000) (hp2 : o.to.size ≤ 1000) (id : Nat) (hw : a.walkP o.path = (id, 0)) (hk : (a.nd id).kind ≠ 2) (d : Nat) (hd : a.par o.to 41 = (d, 0)) (hid : a.find d (nameN o.to) = 0) (hl : (a.nd id).links ≠ 200) :
  Calls Tryz.prog 37 #[.pointer (some ⟨y, 0, none⟩), o.val A n cap] w (RAnsPost F y (a.linkS id d (nameN o.to)) w) := by
 unfold OpT.val
 have HT := Lib.hid h
 have HH := Lib.hid (fun W (hb : Below w.heap.size w W) => h.below hb)
 have hW := Lib.hid (fun W (h : RIs F W y R a) => rWalk_any o.path W h hg (by omega) hp)
 rw [hw] at hW
 have hlive : (a.nd id).kind ≠ 0 := by have := hg.walkP_live (p := o.path) (by rw [hw]); rw [hw] at this; exact this
 have hil := (hg.in_last hlive).2
 have hi1 := (hg.in_last hlive).1
 have hfew := hg.few
 have HIB := Lib.hid hil
 have hin : ((id : Nat) : Int) < ((a.last + 1 : Nat) : Int) := by omega
 have HPA := Lib.hid (fun W (h : RIs F W y R a) => show Calls Tryz.prog 74 #[.pointer (some ⟨y, 0, none⟩), .string o.to, .int .i64 41] W (fun e w' => e = .returned (.tuple #[.int .i64 (d : Nat), .string (nameN o.to), .int .i64 0]) ∧ Below W.heap.size W w') from
  (rparent_any o.to 41 W h hg (by omega) hp2 (by decide)).mono fun e w' hx => by
   obtain ⟨⟨d0, s0, rfl, hq⟩, hb⟩ := hx
   rw [hd] at hq
   obtain ⟨rfl, rfl⟩ := hq rfl
   rw [hd]
   exact ⟨rfl, hb⟩)
 have hdir := par_dir (show (41 : Int) ≠ 0 by decide) (show (a.par o.to 41).2 = 0 by rw [hd])
 rw [hd] at hdir
 have hdl := (hg.in_last (k := d) (by rw [hdir]; decide)).2
 have HFI := Lib.hid (fun W (h : RIs F W y R a) => show Calls Tryz.prog 75 #[.pointer (some ⟨y, 0, none⟩), .int .i64 (d : Nat), .string (nameN o.to)] W (fun e w' => e = .returned (.int .i64 0) ∧ W = w') from by
  have := rfind_any d (nameN o.to) W h hdl (by omega) (Nat.le_trans (hg.len d) (by omega))
  rw [hid] at this
  exact this)
 have hlk := hg.links id
 have HLK := Lib.hid (fun W (h : RIs F W y R a) => h.linked hil ((a.nd id).links + 1))
 have hgt : Good (a.setNd id { a.nd id with links := (a.nd id).links + 1 }) c := hg.turn hlive rfl rfl ⟨by show 0 ≤ (a.nd id).links + 1; omega, by show (a.nd id).links + 1 ≤ 200; omega⟩ (hg.data id)
 have HPU := Lib.hid (fun W R' (h : RIs F W y R' (a.setNd id { a.nd id with links := (a.nd id).links + 1 })) => rput_any d (nameN o.to) id W h hgt (by omega) hdl)
 have HLS := Lib.hid (show (a.setNd id { a.nd id with links := (a.nd id).links + 1 }).put d (nameN o.to) id = a.linkS id d (nameN o.to) from rfl)
 rw [HLS.out] at HPU
 have hl2 : ((a.nd id).links == 200) = false := beq_eq_false_iff_ne.2 hl
 clear hgt
 obtain ⟨hlk0, hlk1⟩ := hlk
 generalize hll : (a.nd id).links = ll at *
 have HLL := Lib.hid hll
 clear hll
 have HFL : Hid (∀ j, F j → j < w.heap.size) := Lib.hid fun j e => HT.out.lt j e
 have t5 : ((a.nd id).kind == 2) = false := beq_eq_false_iff_ne.2 hk
 generalize hkk : (a.nd id).kind = kd at *
 have HKK := Lib.hid hkk
 clear hkk
 generalize hnn : a.last + 1 = n1 at *
 have hnb : n1 ≤ 1000001 := by omega
 have HNN := Lib.hid hnn
 clear hnn
 clear h hg hw hlive hil hi1 hfew hk hd hid hdir hdl hl
 go_enter Tryz.func37, Tryz.ntmps37
 go_upto_region 1 with (fail)
 obtain ⟨w1, hwe, HO1, HB1⟩ := asked w (oc o A n cap)
 rw [← hwe]
 clear hwe
 have ua0 := (HO1.out).b0.c8
 have ur0 := (HO1.out).b1.cf7
 have ul := (HO1.out).b1.lt
 go_wp2_with fail
 refine (hW.out _ (HH.out _ HB1.out)).mono ?_
 rintro e w2 ⟨rfl, hb2⟩
 clear ua0 ur0 ul
 have HO2 := Lib.hid (HO1.out.below hb2)
 have HB2 := Lib.hid (HB1.out.trans (hb2.mono HB1.out.size))
 clear hb2
 have za0 := (HO2.out).b0.c8
 have zr0 := (HO2.out).b1.cf7
 have zl := (HO2.out).b1.lt
 have HR2 := Lib.hid (HH.out _ HB2.out)
 obtain ⟨r0, r1⟩ := HR2.out.cells
 rw [HNN.out] at r0
 obtain ⟨k0, k1, k2, k3⟩ := HR2.out.cel id HIB.out
 rw [HKK.out] at k0
 go_wp2_with fail
 refine (HPA.out _ HR2.out).mono ?_
 rintro e w3 ⟨rfl, hb3⟩
 clear za0 zr0 zl r0 r1 k0 k1 k2 k3
 have HO3 := Lib.hid (HO2.out.below hb3)
 have HB3 := Lib.hid (HB2.out.trans (hb3.mono HB2.out.size))
 clear hb3
 have xa0 := (HO3.out).b0.c8
 have xr0 := (HO3.out).b1.cf7
 have xl := (HO3.out).b1.lt
 have HR3 := Lib.hid (HH.out _ HB3.out)
 go_wp2_with fail
 refine (HFI.out _ HR3.out).mono ?_
 rintro e w' ⟨rfl, h8⟩
 obtain rfl := h8
 obtain ⟨r0, r1⟩ := HR3.out.cells
 rw [HNN.out] at r0
 obtain ⟨k0, k1, k2, k3⟩ := HR3.out.cel id HIB.out
 have q1 := HR3.out.frozen (id * 4 + 1)
 rw [HLL.out] at k1
 have HLW := Lib.hid (HLK.out _ HR3.out)
 go_upto_region 14 with (fail)
 clear xa0 xr0 xl r0 r1 k0 k1 k2 k3 q1
 have HO5 := Lib.hid (HO3.out.turn2 HLW.out.2 (fun e => by have := HFL.out _ e; omega) (fun e => by have := HFL.out _ e; omega))
 have HTW5 := Lib.hid ((Turn.of_below (S := F) HB3.out).trans (S' := F) HLW.out.2 fun _ _ e => e)
 have HS5 := Lib.hid HLW.out.1
 clear HLW
 generalize w3.setCell ⟨R.g, id * 4 + 1, none⟩ (.int .i64 (ll + 1)) = w5 at *
 obtain ⟨R5, h5⟩ := HS5.out
 have HR5 := Lib.hid h5
 clear h5
 go_wp2_with fail
 refine (HPU.out _ _ HR5.out).mono ?_
 rintro e w9 ⟨rfl, hs9, hTu9⟩
 have HS9 := Lib.hid hs9
 have HTu9 := Lib.hid hTu9
 clear hs9 hTu9
 have HO9 := Lib.hid (HO5.out.turn2 HTu9.out (fun e => by have := HFL.out _ e; omega) (fun e => by have := HFL.out _ e; omega))
 have vr0 := (HO9.out).b1.cf7
 have vl := (HO9.out).b1.lt
 go_wp2_with fail
 refine bodyPost_ret (v := .agg #[.int .i64 0, .int .i64 0, .slice none 0 0, .slice none 0 0, .int .i64 0, .int .i64 0, .int .i64 0]) (by simp [results, Tryz.results37, go_sem, vr0, vl]) rfl ?_
 exact rans_fin (F' := F) (wX := w5) HT.out HS9.out (HTW5.out.trans (S' := F) HTu9.out fun _ _ e => e) HTW5.out.size (fun j e => .inl e) (by omega) HO5.out.b1.lt (fun e => by have := HFL.out _ e; omega)
theorem rlink_any (o : OpT) (A : Option Addr) (n cap : Nat) (w : World) (h : RIs F w y R a) (hg : Good a c) (hc : c + 20 ≤ 100000) (hp : o.path.size ≤ 1000) (hp2 : o.to.size ≤ 1000) :
  Calls Tryz.prog 37 #[.pointer (some ⟨y, 0, none⟩), o.val A n cap] w (RAnsPost F y (a.linkT o) w) := by
 have hbad : a.linkE o ≠ 0 → a.linkT o = a := fun hx => by unfold TS.linkT; rw [if_neg hx]
 by_cases hw : (a.walkP o.path).2 = 0
 ·obtain ⟨id, hwi⟩ : ∃ id, a.walkP o.path = (id, 0) := ⟨(a.walkP o.path).1, by rw [← hw]⟩
  have hE : a.linkE o = if (a.nd id).kind = 2 then 43 else if (a.par o.to 41).2 ≠ 0 then (a.par o.to 41).2 else if a.find (a.par o.to 41).1 (nameN o.to) ≠ 0 then 41 else if (a.nd id).links = 200 then 48 else 0 := by
   unfold TS.linkE; rw [if_neg (fun x => x hw), hwi]
  by_cases hk : (a.nd id).kind = 2
  ·rw [hbad (by rw [hE, if_pos hk]; decide)]
   exact rlink_43 o A n cap w h hg hc hp hp2 id hwi hk
  rw [if_neg hk] at hE
  by_cases he : (a.par o.to 41).2 = 0
  ·obtain ⟨d, hd⟩ : ∃ d, a.par o.to 41 = (d, 0) := ⟨(a.par o.to 41).1, by rw [← he]⟩
   rw [if_neg (fun x => x he), hd] at hE
   by_cases hz : a.find d (nameN o.to) = 0
   ·rw [if_neg (fun x => x hz)] at hE
    by_cases hl : (a.nd id).links = 200
    ·rw [hbad (by rw [hE, if_pos hl]; decide)]
     exact rlink_48 o A n cap w h hg hc hp hp2 id hwi hk d hd hz hl
    ·have hT : a.linkT o = a.linkS id d (nameN o.to) := by unfold TS.linkT; rw [if_pos (by rw [hE, if_neg hl]), hwi, hd]
     rw [hT]
     exact rlink_ok o A n cap w h hg hc hp hp2 id hwi hk d hd hz hl
   ·rw [hbad (by rw [hE, if_pos hz]; decide)]
    exact rlink_41 o A n cap w h hg hc hp hp2 id hwi hk d _ hd rfl hz
  ·rw [hbad (by rw [hE, if_pos he]; exact he)]
   exact rlink_par o A n cap w h hg hc hp hp2 id hwi hk he
 ·rw [hbad (by unfold TS.linkE; rw [if_pos hw]; exact hw)]
  exact rlink_walk o A n cap w h hg hc hp hp2 hw
end
end Go.Proofs.YtpkhglfhpggceaaGreatDoor
