/- What package tree does to memory: one (printed by genone.py). -/
import Derived.Test.YtpkhglfhpggceaaGreatDoorKeys
namespace Go.Proofs.YtpkhglfhpggceaaGreatDoor
set_option maxRecDepth 100000
set_option maxHeartbeats 16000000
open Go.RowKit Go.Proofs.YtpkhglfhpggceaaGreatDoorW.PrintLast
set_option linter.unusedVariables false
set_option linter.unusedSimpArgs false
section
variable {F : Nat → Prop} {w w' : World} {t c : Nat} {M : TMem} {a : TS}
theorem oneT_bad {o : OpT} (h : (a.walkP o.path).2 ≠ 0 ∨ o.kind = 12 ∨ o.kind = 13 ∨ (a.nd (a.walkP o.path).1).kind = 2 ∨ o.n < 0 ∨ o.n > 48640) : a.oneT o = a := by unfold TS.oneT; rw [if_pos h]
theorem sizeL_take (d : List UInt8) (q z : Nat) (h : q = min d.length z) : sizeL (d.take q) z = sizeL d z := by
 subst h
 unfold sizeL
 rw [List.take_take, List.length_take]
 have e1 : min z (min d.length z) = min d.length z := by omega
 have e2 : z - min (min d.length z) d.length = z - d.length := by omega
 rw [e1, e2]
 congr 1
 by_cases h : d.length ≤ z
 ·rw [Nat.min_eq_left h, List.take_length, List.take_of_length_le h]
 ·rw [Nat.min_eq_right (by omega)]
theorem one_err (o : OpT) (A : Option Addr) (n cap : Nat) (w : World) (h : TreeIs F w t M c a) (hg : Good a c) (hc : c ≤ 100000) (hp : o.path.size ≤ 1000) (hw : (a.walkP o.path).2 ≠ 0) :
  Calls Tryz.prog 32 #[.pointer (some ⟨t, 0, none⟩), o.val A n cap] w (AnsPost F t (c + 2) (a.oneT o) w) := by
 unfold OpT.val
 have hW := Lib.hid (fun W (h : TreeIs F W t M c a) => walk_any o.path W h hg hc hp)
 have HT := Lib.hid h
 have HH := Lib.hid (fun W (hb : Below w.heap.size w W) => h.below hb)
 have HR := Lib.hid (show a.oneT o = a from oneT_bad (.inl hw))
 have t9 : ((a.walkP o.path).2 != 0) = true := bne_iff_ne.2 hw
 have HW : Hid (True = True) := Lib.hid rfl
 clear h hg hw
 go_enter Tryz.func32, Tryz.ntmps32
 go_wp2_with fail
 refine (hW.out _ (HH.out _ (below_00 _ _ _))).mono ?_
 rintro e w1 ⟨rfl, hb1⟩
 have HO1 := Lib.hid ((OO.start w (oc o A n cap)).below hb1)
 have HB1 := Lib.hid (below_aa hb1)
 clear hb1
 have HT1 := Lib.hid (HH.out _ HB1.out)
 have ua0 := (HO1.out).b0.c8
 have ur0 := (HO1.out).b1.cf7
 have ul := (HO1.out).b1.lt
 obtain ⟨t0, t1, t2⟩ := HT1.out.cells
 go_wp2_with fail
 refine bodyPost_ret (v := .agg #[.int .i64 (a.walkP o.path).2, .int .i64 0, .slice none 0 0, .slice none 0 0, .int .i64 0, .int .i64 0, .int .i64 0]) (by simp [results, Tryz.results32, go_sem, ur0, ul]) rfl ?_
 rw [HR.out]
 exact ans_same HT.out (ans_set HB1.out (by omega) _ _ _ _ _ _ _)
theorem one_stat (o : OpT) (A : Option Addr) (n cap : Nat) (w : World) (h : TreeIs F w t M c a) (hg : Good a c) (hc : c ≤ 100000) (hp : o.path.size ≤ 1000) (hw : (a.walkP o.path).2 = 0) (hk : o.kind = 12) :
  Calls Tryz.prog 32 #[.pointer (some ⟨t, 0, none⟩), o.val A n cap] w (AnsPost F t (c + 2) (a.oneT o) w) := by
 unfold OpT.val
 have hW := Lib.hid (fun W (h : TreeIs F W t M c a) => walk_any o.path W h hg hc hp)
 have HT := Lib.hid h
 have HH := Lib.hid (fun W (hb : Below w.heap.size w W) => h.below hb)
 have HR := Lib.hid (show a.oneT o = a from oneT_bad (.inr (.inl hk)))
 have hlive := hg.walkP_live hw
 have hlast := (hg.in_last hlive).2
 have hfew := hg.few
 have HD := Lib.hid (fun W h => dir_any (F := F) (t := t) (c := c) (M := M) (a := a) (a.walkP o.path).1 W h hlive (by omega))
 have hidb : (a.walkP o.path).1 ≤ 1000000 := by omega
 have HLV := Lib.hid hlive
 have HW := Lib.hid hw

 clear h hg hw hlive hlast hfew
 generalize (a.walkP o.path).1 = id at *
 have e12 : (o.kind == 12) = true := by rw [hk]; rfl
 obtain ⟨A1, c1, hdv⟩ : ∃ A1 c1, M.dv id = .slice A1 (a.nd id).data.length c1 := by
  obtain ⟨A1, c1, e, _⟩ := (HT.out.node id HLV.out).2.1.rd
  exact ⟨A1, c1, e⟩
 have HDV := Lib.hid hdv
 clear hk hdv
 go_enter Tryz.func32, Tryz.ntmps32
 go_wp2_with fail
 refine (hW.out _ (HH.out _ (below_00 _ _ _))).mono ?_
 rintro e w1 ⟨rfl, hb1⟩
 have HO1 := Lib.hid ((OO.start w (oc o A n cap)).below hb1)
 have HB1 := Lib.hid (below_aa hb1)
 clear hb1
 rw [HW.out]
 have HT1 := Lib.hid (HH.out _ HB1.out)
 have ua0 := (HO1.out).b0.c8
 have ur0 := (HO1.out).b1.cf7
 have ul := (HO1.out).b1.lt
 obtain ⟨t0, t1, t2⟩ := HT1.out.cells
 have tl := HT1.out.look HLV.out hidb
 go_upto_region 7 with (fail)
 clear ua0 ur0 ul t0 t1 t2 tl
 have HO2 := Lib.hid HO1.out.drew
 have HT2 := Lib.hid HT1.out.drew
 have va0 := (HO1.out).b0.c8
 have vr0 := (HO1.out).b1.cf7
 have vl := (HO1.out).b1.lt
 obtain ⟨n0, n1, n2, n3⟩ := HT1.out.ncells HLV.out
 rw [HDV.out] at n2
 go_still_tail 15, (by kernel_rfl)
 change wpList _ _ _ _ _ w1.drew
 go_wp2_with fail
 refine bodyPost_ret (v := .agg #[.int .i64 0, .int .i64 0, .slice none 0 0, .slice none 0 0, .int .i64 (a.nd id).kind, .int .i64 ((a.nd id).data.length : Nat), .int .i64 (a.nd id).links]) (by simp [results, Tryz.results32, go_sem, vr0, vl]) rfl ?_
 rw [HR.out]
 exact ans_same HT.out ((ans_set HB1.out (by omega) _ _ _ _ _ _ _).trans drew_below')
theorem one_file (o : OpT) (A : Option Addr) (n cap : Nat) (w : World) (h : TreeIs F w t M c a) (hg : Good a c) (hc : c ≤ 100000) (hp : o.path.size ≤ 1000) (hw : (a.walkP o.path).2 = 0) (hk : o.kind = 13) (hd : (a.nd (a.walkP o.path).1).kind ≠ 2) :
  Calls Tryz.prog 32 #[.pointer (some ⟨t, 0, none⟩), o.val A n cap] w (AnsPost F t (c + 2) (a.oneT o) w) := by
 unfold OpT.val
 have hW := Lib.hid (fun W (h : TreeIs F W t M c a) => walk_any o.path W h hg hc hp)
 have HT := Lib.hid h
 have HH := Lib.hid (fun W (hb : Below w.heap.size w W) => h.below hb)
 have HR := Lib.hid (show a.oneT o = a from oneT_bad (.inr (.inr (.inl hk))))
 have hlive := hg.walkP_live hw
 have hlast := (hg.in_last hlive).2
 have hfew := hg.few
 have HD := Lib.hid (fun W h => dir_any (F := F) (t := t) (c := c) (M := M) (a := a) (a.walkP o.path).1 W h hlive (by omega))
 have hidb : (a.walkP o.path).1 ≤ 1000000 := by omega
 have HLV := Lib.hid hlive
 have HW := Lib.hid hw
 rw [decide_eq_false hd] at HD
 clear h hg hw hlive hlast hfew hd
 generalize (a.walkP o.path).1 = id at *
 have e12 : (o.kind == 12) = false := by rw [hk]; rfl
 have e13 : (o.kind == 13) = true := by rw [hk]; rfl
 clear hk
 go_enter Tryz.func32, Tryz.ntmps32
 go_wp2_with fail
 refine (hW.out _ (HH.out _ (below_00 _ _ _))).mono ?_
 rintro e w1 ⟨rfl, hb1⟩
 have HO1 := Lib.hid ((OO.start w (oc o A n cap)).below hb1)
 have HB1 := Lib.hid (below_aa hb1)
 clear hb1
 rw [HW.out]
 have HT1 := Lib.hid (HH.out _ HB1.out)
 have ua0 := (HO1.out).b0.c8
 have ur0 := (HO1.out).b1.cf7
 have ul := (HO1.out).b1.lt
 obtain ⟨t0, t1, t2⟩ := HT1.out.cells
 have tl := HT1.out.look HLV.out hidb
 go_wp2_with fail
 refine (HD.out _ HT1.out).mono ?_
 rintro e w7 ⟨rfl, h7⟩
 obtain rfl := h7.symm
 go_wp2_with fail
 refine bodyPost_ret (v := .agg #[.int .i64 42, .int .i64 0, .slice none 0 0, .slice none 0 0, .int .i64 0, .int .i64 0, .int .i64 0]) (by simp [results, Tryz.results32, go_sem, ur0, ul]) rfl ?_
 rw [HR.out]
 exact ans_same HT.out (ans_set HB1.out (by omega) _ _ _ _ _ _ _)
theorem one_list (o : OpT) (A : Option Addr) (n cap : Nat) (w : World) (h : TreeIs F w t M c a) (hg : Good a c) (hc : c ≤ 100000) (hp : o.path.size ≤ 1000) (hw : (a.walkP o.path).2 = 0) (hk : o.kind = 13) (hd : (a.nd (a.walkP o.path).1).kind = 2) :
  Calls Tryz.prog 32 #[.pointer (some ⟨t, 0, none⟩), o.val A n cap] w (AnsPost F t (c + 2) (a.oneT o) w) := by
 unfold OpT.val
 have hW := Lib.hid (fun W (h : TreeIs F W t M c a) => walk_any o.path W h hg hc hp)
 have HT := Lib.hid h
 have HH := Lib.hid (fun W (hb : Below w.heap.size w W) => h.below hb)
 have HR := Lib.hid (show a.oneT o = a from oneT_bad (.inr (.inr (.inl hk))))
 have hlive := hg.walkP_live hw
 have hlast := (hg.in_last hlive).2
 have hfew := hg.few
 have HD := Lib.hid (fun W h => dir_any (F := F) (t := t) (c := c) (M := M) (a := a) (a.walkP o.path).1 W h hlive (by omega))
 have hidb : (a.walkP o.path).1 ≤ 1000000 := by omega
 have HLV := Lib.hid hlive
 have HW := Lib.hid hw
 rw [decide_eq_true hd] at HD
 have HLE := Lib.hid (hg.len (a.walkP o.path).1)
 clear h hg hw hlive hlast hfew hd
 generalize (a.walkP o.path).1 = id at *
 have e12 : (o.kind == 12) = false := by rw [hk]; rfl
 have e13 : (o.kind == 13) = true := by rw [hk]; rfl
 clear hk
 go_enter Tryz.func32, Tryz.ntmps32
 go_wp2_with fail
 refine (hW.out _ (HH.out _ (below_00 _ _ _))).mono ?_
 rintro e w1 ⟨rfl, hb1⟩
 have HO1 := Lib.hid ((OO.start w (oc o A n cap)).below hb1)
 have HB1 := Lib.hid (below_aa hb1)
 clear hb1
 rw [HW.out]
 have HT1 := Lib.hid (HH.out _ HB1.out)
 have ua0 := (HO1.out).b0.c8
 have ur0 := (HO1.out).b1.cf7
 have ul := (HO1.out).b1.lt
 obtain ⟨t0, t1, t2⟩ := HT1.out.cells
 have tl := HT1.out.look HLV.out hidb
 go_wp2_with fail
 refine (HD.out _ HT1.out).mono ?_
 rintro e w7 ⟨rfl, h7⟩
 obtain rfl := h7.symm
 obtain ⟨n0, n1, n2, n3⟩ := HT1.out.ncells HLV.out
 go_wp2_with fail
 refine (keys_any _ _).mono ?_
 rintro e w2 ⟨rfl, rfl⟩
 go_wp2_with fail
 refine (sorted_any (M.nb id) c (a.nd id).names _ (HT1.out.node id HLV.out).2.2.1 (by have := HLE.out; omega)).mono ?_
 rintro e w3 ⟨v, rfl, hv, hb3⟩
 obtain ⟨A3, c3, rfl, -⟩ := hv
 have HO3 := Lib.hid (HO1.out.below hb3)
 have HB3 := Lib.hid (HB1.out.trans (hb3.mono HB1.out.size))
 clear ua0 ur0 ul t0 t1 t2 tl n0 n1 n2 n3 hb3
 have va0 := (HO3.out).b0.c8
 have vr0 := (HO3.out).b1.cf7
 have vl := (HO3.out).b1.lt
 go_wp2_with fail
 refine bodyPost_ret (v := .agg #[.int .i64 0, .int .i64 0, .slice none 0 0, .slice A3 ((a.nd id).names.map (·.1)).length c3, .int .i64 0, .int .i64 0, .int .i64 0]) (by simp [results, Tryz.results32, go_sem, vr0, vl]) rfl ?_
 rw [HR.out]
 exact ans_same HT.out (ans_set HB3.out (by omega) _ _ _ _ _ _ _)
theorem one_dir (o : OpT) (A : Option Addr) (n cap : Nat) (w : World) (h : TreeIs F w t M c a) (hg : Good a c) (hc : c ≤ 100000) (hp : o.path.size ≤ 1000) (hw : (a.walkP o.path).2 = 0) (hk : o.kind ≠ 12) (hk2 : o.kind ≠ 13) (hd : (a.nd (a.walkP o.path).1).kind = 2) :
  Calls Tryz.prog 32 #[.pointer (some ⟨t, 0, none⟩), o.val A n cap] w (AnsPost F t (c + 2) (a.oneT o) w) := by
 unfold OpT.val
 have hW := Lib.hid (fun W (h : TreeIs F W t M c a) => walk_any o.path W h hg hc hp)
 have HT := Lib.hid h
 have HH := Lib.hid (fun W (hb : Below w.heap.size w W) => h.below hb)
 have HR := Lib.hid (show a.oneT o = a from oneT_bad (.inr (.inr (.inr (.inl hd)))))
 have hlive := hg.walkP_live hw
 have hlast := (hg.in_last hlive).2
 have hfew := hg.few
 have HD := Lib.hid (fun W h => dir_any (F := F) (t := t) (c := c) (M := M) (a := a) (a.walkP o.path).1 W h hlive (by omega))
 have hidb : (a.walkP o.path).1 ≤ 1000000 := by omega
 have HLV := Lib.hid hlive
 have HW := Lib.hid hw
 rw [decide_eq_true hd] at HD
 clear h hg hw hlive hlast hfew hd
 generalize (a.walkP o.path).1 = id at *
 have e12 : (o.kind == 12) = false := beq_eq_false_iff_ne.2 hk
 have e13 : (o.kind == 13) = false := beq_eq_false_iff_ne.2 hk2
 clear hk hk2
 go_enter Tryz.func32, Tryz.ntmps32
 go_wp2_with fail
 refine (hW.out _ (HH.out _ (below_00 _ _ _))).mono ?_
 rintro e w1 ⟨rfl, hb1⟩
 have HO1 := Lib.hid ((OO.start w (oc o A n cap)).below hb1)
 have HB1 := Lib.hid (below_aa hb1)
 clear hb1
 rw [HW.out]
 have HT1 := Lib.hid (HH.out _ HB1.out)
 have ua0 := (HO1.out).b0.c8
 have ur0 := (HO1.out).b1.cf7
 have ul := (HO1.out).b1.lt
 obtain ⟨t0, t1, t2⟩ := HT1.out.cells
 have tl := HT1.out.look HLV.out hidb
 go_wp2_with fail
 refine (HD.out _ HT1.out).mono ?_
 rintro e w7 ⟨rfl, h7⟩
 obtain rfl := h7.symm
 go_wp2_with fail
 refine bodyPost_ret (v := .agg #[.int .i64 43, .int .i64 0, .slice none 0 0, .slice none 0 0, .int .i64 0, .int .i64 0, .int .i64 0]) (by simp [results, Tryz.results32, go_sem, ur0, ul]) rfl ?_
 rw [HR.out]
 exact ans_same HT.out (ans_set HB1.out (by omega) _ _ _ _ _ _ _)
theorem one_neg (o : OpT) (A : Option Addr) (n cap : Nat) (w : World) (h : TreeIs F w t M c a) (hg : Good a c) (hc : c ≤ 100000) (hp : o.path.size ≤ 1000) (hw : (a.walkP o.path).2 = 0) (hk : o.kind ≠ 12) (hk2 : o.kind ≠ 13) (hd : (a.nd (a.walkP o.path).1).kind ≠ 2) (hn : o.n < 0) :
  Calls Tryz.prog 32 #[.pointer (some ⟨t, 0, none⟩), o.val A n cap] w (AnsPost F t (c + 2) (a.oneT o) w) := by
 unfold OpT.val
 have hW := Lib.hid (fun W (h : TreeIs F W t M c a) => walk_any o.path W h hg hc hp)
 have HT := Lib.hid h
 have HH := Lib.hid (fun W (hb : Below w.heap.size w W) => h.below hb)
 have HR := Lib.hid (show a.oneT o = a from oneT_bad (.inr (.inr (.inr (.inr (.inl hn))))))
 have hlive := hg.walkP_live hw
 have hlast := (hg.in_last hlive).2
 have hfew := hg.few
 have HD := Lib.hid (fun W h => dir_any (F := F) (t := t) (c := c) (M := M) (a := a) (a.walkP o.path).1 W h hlive (by omega))
 have hidb : (a.walkP o.path).1 ≤ 1000000 := by omega
 have HLV := Lib.hid hlive
 have HW := Lib.hid hw
 rw [decide_eq_false hd] at HD
 clear h hg hw hlive hlast hfew hd
 generalize (a.walkP o.path).1 = id at *
 have e12 : (o.kind == 12) = false := beq_eq_false_iff_ne.2 hk
 have e13 : (o.kind == 13) = false := beq_eq_false_iff_ne.2 hk2
 clear hk hk2
 go_enter Tryz.func32, Tryz.ntmps32
 go_wp2_with fail
 refine (hW.out _ (HH.out _ (below_00 _ _ _))).mono ?_
 rintro e w1 ⟨rfl, hb1⟩
 have HO1 := Lib.hid ((OO.start w (oc o A n cap)).below hb1)
 have HB1 := Lib.hid (below_aa hb1)
 clear hb1
 rw [HW.out]
 have HT1 := Lib.hid (HH.out _ HB1.out)
 have ua0 := (HO1.out).b0.c8
 have ur0 := (HO1.out).b1.cf7
 have ul := (HO1.out).b1.lt
 obtain ⟨t0, t1, t2⟩ := HT1.out.cells
 have tl := HT1.out.look HLV.out hidb
 go_wp2_with fail
 refine (HD.out _ HT1.out).mono ?_
 rintro e w7 ⟨rfl, h7⟩
 obtain rfl := h7.symm
 go_wp2_with fail
 refine bodyPost_ret (v := .agg #[.int .i64 2, .int .i64 0, .slice none 0 0, .slice none 0 0, .int .i64 0, .int .i64 0, .int .i64 0]) (by simp [results, Tryz.results32, go_sem, ur0, ul]) rfl ?_
 rw [HR.out]
 exact ans_same HT.out (ans_set HB1.out (by omega) _ _ _ _ _ _ _)
theorem one_big (o : OpT) (A : Option Addr) (n cap : Nat) (w : World) (h : TreeIs F w t M c a) (hg : Good a c) (hc : c ≤ 100000) (hp : o.path.size ≤ 1000) (hw : (a.walkP o.path).2 = 0) (hk : o.kind ≠ 12) (hk2 : o.kind ≠ 13) (hd : (a.nd (a.walkP o.path).1).kind ≠ 2) (hn : 48640 < o.n) :
  Calls Tryz.prog 32 #[.pointer (some ⟨t, 0, none⟩), o.val A n cap] w (AnsPost F t (c + 2) (a.oneT o) w) := by
 unfold OpT.val
 have hW := Lib.hid (fun W (h : TreeIs F W t M c a) => walk_any o.path W h hg hc hp)
 have HT := Lib.hid h
 have HH := Lib.hid (fun W (hb : Below w.heap.size w W) => h.below hb)
 have HR := Lib.hid (show a.oneT o = a from oneT_bad (.inr (.inr (.inr (.inr (.inr hn))))))
 have hlive := hg.walkP_live hw
 have hlast := (hg.in_last hlive).2
 have hfew := hg.few
 have HD := Lib.hid (fun W h => dir_any (F := F) (t := t) (c := c) (M := M) (a := a) (a.walkP o.path).1 W h hlive (by omega))
 have hidb : (a.walkP o.path).1 ≤ 1000000 := by omega
 have HLV := Lib.hid hlive
 have HW := Lib.hid hw
 rw [decide_eq_false hd] at HD
 clear h hg hw hlive hlast hfew hd
 generalize (a.walkP o.path).1 = id at *
 have e12 : (o.kind == 12) = false := beq_eq_false_iff_ne.2 hk
 have e13 : (o.kind == 13) = false := beq_eq_false_iff_ne.2 hk2
 clear hk hk2
 go_enter Tryz.func32, Tryz.ntmps32
 go_wp2_with fail
 refine (hW.out _ (HH.out _ (below_00 _ _ _))).mono ?_
 rintro e w1 ⟨rfl, hb1⟩
 have HO1 := Lib.hid ((OO.start w (oc o A n cap)).below hb1)
 have HB1 := Lib.hid (below_aa hb1)
 clear hb1
 rw [HW.out]
 have HT1 := Lib.hid (HH.out _ HB1.out)
 have ua0 := (HO1.out).b0.c8
 have ur0 := (HO1.out).b1.cf7
 have ul := (HO1.out).b1.lt
 obtain ⟨t0, t1, t2⟩ := HT1.out.cells
 have tl := HT1.out.look HLV.out hidb
 go_wp2_with fail
 refine (HD.out _ HT1.out).mono ?_
 rintro e w7 ⟨rfl, h7⟩
 obtain rfl := h7.symm
 go_wp2_with fail
 refine bodyPost_ret (v := .agg #[.int .i64 31, .int .i64 0, .slice none 0 0, .slice none 0 0, .int .i64 0, .int .i64 0, .int .i64 0]) (by simp [results, Tryz.results32, go_sem, ur0, ul]) rfl ?_
 rw [HR.out]
 exact ans_same HT.out (ans_set HB1.out (by omega) _ _ _ _ _ _ _)
theorem one_cut (o : OpT) (A : Option Addr) (n cap : Nat) (w : World) (h : TreeIs F w t M c a) (hg : Good a c) (hc : c ≤ 100000) (hp : o.path.size ≤ 1000) (hw : (a.walkP o.path).2 = 0) (hk : o.kind ≠ 12) (hk2 : o.kind ≠ 13) (hd : (a.nd (a.walkP o.path).1).kind ≠ 2) (hn : 0 ≤ o.n) (hn2 : o.n ≤ 48640) :
  Calls Tryz.prog 32 #[.pointer (some ⟨t, 0, none⟩), o.val A n cap] w (AnsPost F t (c + 2) (a.oneT o) w) := by
 unfold OpT.val
 have hW := Lib.hid (fun W (h : TreeIs F W t M c a) => walk_any o.path W h hg hc hp)
 have HT := Lib.hid h
 have HH := Lib.hid (fun W (hb : Below w.heap.size w W) => h.below hb)
 have HR := Lib.hid (show a.oneT o = a.setData (a.walkP o.path).1 (sizeL (a.nd (a.walkP o.path).1).data o.n.toNat) by
  unfold TS.oneT
  rw [if_neg]
  rintro (e | e | e | e | e | e)
  ·exact e hw
  ·exact hk e
  ·exact hk2 e
  ·exact hd e
  ·omega
  ·omega)
 have HDL := Lib.hid (hg.data (a.walkP o.path).1)
 have hlive := hg.walkP_live hw
 have hlast := (hg.in_last hlive).2
 have hfew := hg.few
 have HD := Lib.hid (fun W h => dir_any (F := F) (t := t) (c := c) (M := M) (a := a) (a.walkP o.path).1 W h hlive (by omega))
 have hidb : (a.walkP o.path).1 ≤ 1000000 := by omega
 have HLV := Lib.hid hlive
 have HW := Lib.hid hw
 rw [decide_eq_false hd] at HD
 clear h hg hw hlive hlast hfew hd
 generalize (a.walkP o.path).1 = id at *
 have e12 : (o.kind == 12) = false := beq_eq_false_iff_ne.2 hk
 have e13 : (o.kind == 13) = false := beq_eq_false_iff_ne.2 hk2
 clear hk hk2
 obtain ⟨A1, c1, hdv⟩ : ∃ A1 c1, M.dv id = .slice A1 (a.nd id).data.length c1 := by
  obtain ⟨A1, c1, e, _⟩ := (HT.out.node id HLV.out).2.1.rd
  exact ⟨A1, c1, e⟩
 have HDV := Lib.hid hdv
 obtain ⟨q, hq⟩ : ∃ q : Nat, q = min (a.nd id).data.length o.n.toNat := ⟨_, rfl⟩
 have hmin : min (((a.nd id).data.length : Nat) : Int) o.n = ((q : Nat) : Int) := by omega
 have HST := Lib.hid (sizeL_take (a.nd id).data q o.n.toNat hq)
 have HLEN := Lib.hid (sizeL_len (a.nd id).data o.n.toNat)
 have hqb : q ≤ (a.nd id).data.length := by omega
 have hbs := (HT.out.node id HLV.out).2.1.bs
 rw [hdv] at hbs
 have hcap : q ≤ c1 := by
  obtain ⟨A', c', e, h1, -⟩ := hbs.rd
  injection e with e1 e2 e3
  omega
 have hsl : ∀ W, (Instr.slice 28 (.slice A1 (a.nd id).data.length c1) none (some (.int .i64 (q : Nat))) none).run Tryz.prog W = .ok (.slice A1 q c1) W := fun W => slice_to W A1 _ c1 q hcap
 have hrd : RdB w (.slice A1 q c1) ((a.nd id).data.take q) := by
  obtain ⟨A', c', e, h1, h2, h3⟩ := hbs.rd
  injection e with e1 e2 e3
  subst e1
  refine ⟨A1, c1, by rw [List.length_take, Nat.min_eq_left hqb], by rw [List.length_take]; omega, by rw [e3]; exact h2, fun j b hj => ?_⟩
  rw [List.getElem?_take] at hj
  split at hj
  ·exact h3 j b hj
  ·cases hj
 have HRD := Lib.hid (fun W (hb : Below w.heap.size w W) => hrd.below hb)
 have hon : ((o.n.toNat : Nat) : Int) = o.n := Int.toNat_of_nonneg hn
 have HSZ0 := Lib.hid (fun W (hb : Below w.heap.size w W) => show Calls Tryz.prog 73 #[.slice A1 q c1, .int .i64 o.n] W _ from by have := size_any _ _ o.n.toNat W (HRD.out W hb) (by omega); rw [hon, HST.out] at this; exact this)
 have HZ := Lib.hid (show o.n.toNat ≤ 48640 by omega)
 have hn1 : ¬ 48640 < o.n := by omega
 clear hdv hq hqb hbs hrd hon hcap
 generalize hz0 : o.n.toNat = z at *
 generalize hL0 : (a.nd id).data.length = L at *
 clear hz0 hL0
 go_enter Tryz.func32, Tryz.ntmps32
 go_wp2_with fail
 refine (hW.out _ (HH.out _ (below_00 _ _ _))).mono ?_
 rintro e w1 ⟨rfl, hb1⟩
 have HO1 := Lib.hid ((OO.start w (oc o A n cap)).below hb1)
 have HB1 := Lib.hid (below_aa hb1)
 clear hb1
 rw [HW.out]
 have HT1 := Lib.hid (HH.out _ HB1.out)
 have ua0 := (HO1.out).b0.c8
 have ur0 := (HO1.out).b1.cf7
 have ul := (HO1.out).b1.lt
 obtain ⟨t0, t1, t2⟩ := HT1.out.cells
 have tl := HT1.out.look HLV.out hidb
 go_wp2_with fail
 refine (HD.out _ HT1.out).mono ?_
 rintro e w7 ⟨rfl, h7⟩
 obtain rfl := h7.symm
 go_upto_region 5 with (fail)
 clear ua0 ur0 ul t0 t1 t2 tl
 have HO2 := Lib.hid HO1.out.drew
 have HT2 := Lib.hid HT1.out.drew
 have hB : Below w1.drew.heap.size w1.drew w1.drew := Below.refl _ _
 have HB2 := Lib.hid (show Below w.heap.size w w1.drew from HB1.out.trans drew_below')
 have HSZ := Lib.hid (fun W (hb : Below w1.drew.heap.size w1.drew W) => HSZ0.out W (HB2.out.trans (hb.mono HB2.out.size)))
 have HK : Hid (∀ W, Below w1.drew.heap.size w1.drew W → W.cell? ⟨M.hp id, 2, none⟩ = some (.slice A1 L c1) ∧ W.cell? ⟨w.heap.size, 4, none⟩ = some (.int .i64 o.n) ∧ W.frozen? ⟨M.hp id, 2, none⟩ = false) := Lib.hid fun W hb => by
  have hT := HT2.out.below hb
  have h1 := (hT.ncells HLV.out).2.2.1
  rw [HDV.out] at h1
  have h2 := (HO2.out.below hb).b0.cell 4
  exact ⟨h1, by simpa using h2, (hT.node id HLV.out).1.frozen 2⟩
 refine start_ (n := 20) (S := fun w' => w'.cell? ⟨M.hp id, 2, none⟩ = some (.slice A1 L c1) ∧ w'.cell? ⟨w.heap.size, 4, none⟩ = some (.int .i64 o.n)) (ds := [19]) (bs 20 0) (by kernel_rfl) rfl rfl ⟨(HK.out _ hB).1, (HK.out _ hB).2.1⟩ (fun hHeld => ?_)
 refine py_ 0 25 (bs 20 1) rfl rfl (by kernel_rfl) (fun _ _ _ h => h) (by rfl) (fun w' => by go_simp; with_reducible rfl) (by simp only [Act.put, sA, sZ, sS, i64_w, i32_w]; rfl) ?_
 refine py_ 1 26 (bs 20 3) rfl rfl (by kernel_rfl) (fun _ _ _ h => h) (by rfl) (fun w' => by go_simp; with_reducible rfl) (by simp only [Act.put, sA, sZ, sS, i64_w, i32_w]; rfl) ?_
 refine py_ 2 27 (bs 20 7) rfl rfl (by kernel_rfl) (fun _ _ _ h => h) (by rfl) (fun w' => by go_simp; with_reducible rfl) (by simp only [Act.put, sA, sZ, sS, i64_w, i32_w]; rfl) ?_
 refine py_ 3 28 (bs 20 15) rfl rfl (by kernel_rfl) (fun _ _ _ h => h) (by rfl) (fun w' => by go_simp; with_reducible rfl) (by simp only [Act.put, sA, sZ, sS, i64_w, i32_w]; rfl) ?_
 refine py_ 5 30 (bs 20 47) rfl rfl (by kernel_rfl) (fun _ _ _ h => h) (by rfl) (fun w' => by go_simp; with_reducible rfl) (by simp only [Act.put, sA, sZ, sS, i64_w, i32_w]; rfl) ?_
 refine py_ 6 31 (bs 20 111) rfl rfl (by kernel_rfl) (fun _ _ _ h => h) (by rfl) (fun w' => by go_simp; with_reducible rfl) (by simp only [Act.put, sA, sZ, sS, i64_w, i32_w]; rfl) ?_
 refine py_ 7 32 (bs 20 239) rfl rfl (by kernel_rfl) (fun _ _ _ h => h) (by rfl) (fun w' => by go_simp; with_reducible rfl) (by simp only [Act.put, sA, sZ, sS, i64_w, i32_w]; rfl) ?_
 refine py_ 10 35 (bs 20 1263) rfl rfl (by kernel_rfl) (fun _ _ _ h => h) (by rfl) (fun w' => by go_simp; with_reducible rfl) (by simp only [Act.put, sA, sZ, sS, i64_w, i32_w]; rfl) ?_
 refine py_ 14 39 (bs 20 17647) rfl rfl (by kernel_rfl) (fun _ _ _ h => h) (by rfl) (fun w' => by go_simp; with_reducible rfl) (by simp only [Act.put, sA, sZ, sS, i64_w, i32_w]; rfl) ?_
 refine ty_ 4 29 (bs 20 17663) rfl rfl (by kernel_rfl) (fun _ _ _ h => h) (by rfl) (by rintro w' ⟨s0, s1⟩; go_simp; with_reducible rfl) hHeld (by simp only [Act.put, sA, sZ, sS, i64_w, i32_w]; rfl) ?_
 refine ty_ 8 33 (bs 20 17919) rfl rfl (by kernel_rfl) (fun _ _ _ h => h) (by rfl) (by rintro w' ⟨s0, s1⟩; go_simp; with_reducible rfl) hHeld (by simp only [Act.put, sA, sZ, sS, i64_w, i32_w]; rfl) ?_
 refine py_ 9 34 (bs 20 18431) rfl rfl (by kernel_rfl) (fun _ _ _ h => h) (by rfl) (fun w' => by go_simp; with_reducible rfl) (by simp only [Act.put, sA, sZ, sS, i64_w, i32_w]; rfl) ?_
 refine ty_ 11 36 (bs 20 20479) rfl rfl (by kernel_rfl) (fun _ _ _ h => h) (by rfl) (by rintro w' ⟨s0, s1⟩; go_simp; with_reducible rfl) hHeld (by simp only [Act.put, sA, sZ, sS, i64_w, i32_w]; rfl) ?_
 refine py_ 12 37 (bs 20 24575) rfl rfl (by kernel_rfl) (fun _ _ _ h => h) (by rfl) (fun w' => by go_simp; with_reducible rfl) (by simp only [Act.put, sA, sZ, sS, i64_w, i32_w]; rfl) ?_
 refine py_ 13 38 (bs 20 32767) rfl rfl (by kernel_rfl) (fun _ _ _ h => h) (by rfl) (fun w' => by go_simp; with_reducible rfl) (by simp only [Act.put, sA, sZ, sS, i64_w, i32_w]; rfl) ?_
 refine ty_ 15 40 (bs 20 65535) rfl rfl (by kernel_rfl) (fun _ _ _ h => h) (by rfl) (by rintro w' ⟨s0, s1⟩; go_simp; with_reducible rfl) hHeld (by simp only [Act.put, sA, sZ, sS, i64_w, i32_w]; rfl) ?_
 refine one_ (i := 16) (N := some 41) (bs 20 131071) rfl rfl (by kernel_rfl) (by decide) (fun K hK => ?_)
 refine goes_ Tryz.func73 (by kernel_rfl) rfl #[.slice A1 q c1, .int .i64 o.n] (by rfl) rfl rfl (by simp only [List.map_toArray, List.map_cons, List.map_nil]; rfl) ?_
 with_reducible refine ((HSZ.out _ hB)).mono ?_
 rintro e w3 ⟨rfl, hby, hB3⟩
 refine ⟨_, rfl, ?_⟩
 have hB := hB.trans (hB3.mono hB.size)
 have HBY := Lib.hid hby
 clear hby hB3
 refine hK.out _ _ ⟨(HK.out _ hB).1, (HK.out _ hB).2.1⟩ (fun hHeld => ?_)
 clear hK K
 refine norm_ (a' := ?_) ?_ ?_
 rotate_left
 ·show Act.put _ (some 41) _ = _
  simp only [Act.put, sA, sZ, sS, i64_w, i32_w]
  rfl
 refine py_ 17 42 (bs 20 262143) rfl rfl (by kernel_rfl) (fun _ _ _ h => h) (by rfl) (fun w' => by go_simp; with_reducible rfl) (by simp only [Act.put, sA, sZ, sS, i64_w, i32_w]; rfl) ?_
 refine py_ 18 43 (bs 20 524287) rfl rfl (by kernel_rfl) (fun _ _ _ h => h) (by rfl) (fun w' => by go_simp; with_reducible rfl) (by simp only [Act.put, sA, sZ, sS, i64_w, i32_w]; rfl) ?_
 refine last_ (i := 19) (N := none) (bs 20 1048575) rfl rfl (by kernel_rfl) (by decide) (fun K hK => ?_)
 have hcw := (HK.out _ hB).1
 have hfz := (HK.out _ hB).2.2
 refine skip_ (w1 := ?_) (by rfl) rfl ?_ ?_
 rotate_left
 ·go_simp
  rfl
 refine hK.out _ _ ?_
 clear hK K
 refine done_ (by kernel_rfl) ?_
 have HB23 := Lib.hid (show Below w1.heap.size w1 w3 from drew_below.trans hB)
 have HT3 := Lib.hid (HT2.out.below hB)
 have HO3 := Lib.hid (HO2.out.below hB)
 have HM := Lib.hid (HT3.out.node id HLV.out).2.2.2.1
 have HFL : Hid (∀ j, F j → j < w.heap.size) := Lib.hid fun j e => HT.out.lt j e
 have hTs : Turn (· = M.hp id) w3 (w3.setCell ⟨M.hp id, 2, none⟩ (.slice (some ⟨w1.heap.size, 0, none⟩) z z)) := (Turn.refl (· = M.hp id) w3).setCell (p := ⟨M.hp id, 2, none⟩) (fun _ => rfl) _
 have hg2 : w.heap.size ≤ w1.heap.size := HB1.out.size
 have hHP := HFL.out _ HM.out
 have hby2 : Byt (w3.setCell ⟨M.hp id, 2, none⟩ (.slice (some ⟨w1.heap.size, 0, none⟩) z z)) (.slice (some ⟨w1.heap.size, 0, none⟩) z z) (sizeL (a.nd id).data z) := Byt.turn HBY.out hTs (fun j hj e => by
  obtain rfl : w1.heap.size = j := Option.some.inj hj
  have e2 : w1.heap.size = M.hp id := e
  omega)
 have HTW := Lib.hid ((Turn.of_below (S := (· = M.hp id)) HB23.out).trans (S' := (· = M.hp id)) hTs fun _ _ e => e)
 have hlt4 := HTW.out.size
 have hgl : w1.heap.size < w3.heap.size := Byt.lt HBY.out _ rfl
 have hsz4 : (w3.setCell ⟨M.hp id, 2, none⟩ (.slice (some ⟨w1.heap.size, 0, none⟩) z z)).heap.size = w3.heap.size := by simp [World.setCell]
 have HT4 := Lib.hid (HT1.out.setNode (F' := grow F w1 (w3.setCell ⟨M.hp id, 2, none⟩ (.slice (some ⟨w1.heap.size, 0, none⟩) z z))) (v := { a.nd id with data := sizeL (a.nd id).data z }) HLV.out HTW.out rfl rfl ((HT3.out.node id HLV.out).1.set_ 2 _) hby2 (fun j hj => .inl hj) (fun j hj => by
  obtain rfl : w1.heap.size = j := Option.some.inj hj
  exact .inr ⟨Nat.le_refl _, by omega⟩) (fun j hj => by
  rcases hj with hj | hj
  ·exact Nat.lt_of_lt_of_le (HT1.out.lt j hj) hlt4
  ·exact hj.2) (fun hj => by
  rcases hj with hj | hj
  ·exact HT.out.f0 hj
  ·have := HT.out.w0; omega))
 have HO4 := Lib.hid (HO3.out.turn2 hTs (fun e => by have e2 : w.heap.size = M.hp id := e; omega) (fun e => by have e2 : w.heap.size + 1 = M.hp id := e; omega))
 have HL1 := Lib.hid HO1.out.b1.lt
 clear hTs hby2 hB hlt4 hsz4 hgl hHP
 generalize w3.setCell ⟨M.hp id, 2, none⟩ (.slice (some ⟨w1.heap.size, 0, none⟩) z z) = w4 at *
 have va0 := (HO4.out).b0.c8
 have vr0 := (HO4.out).b1.cf7
 have vl := (HO4.out).b1.lt
 go_wp2_with fail
 refine bodyPost_ret (v := .agg #[.int .i64 0, .int .i64 0, .slice none 0 0, .slice none 0 0, .int .i64 0, .int .i64 0, .int .i64 0]) (by simp [results, Tryz.results32, go_sem, vr0, vl]) rfl ?_
 rw [HR.out]
 exact ans_fin (F' := F) (wX := w1) HT.out ⟨_, HT4.out⟩ (by omega) ((Turn.of_below (S := F) HB1.out).trans (S' := (· = M.hp id)) HTW.out (fun i hi e => by rw [e]; exact HM.out)) HB1.out.size (fun j e => .inl e) (by omega) HL1.out (fun e => by have := HFL.out _ e; omega)
theorem one_any (o : OpT) (A : Option Addr) (n cap : Nat) (w : World) (h : TreeIs F w t M c a) (hg : Good a c) (hc : c ≤ 100000) (hp : o.path.size ≤ 1000) :
  Calls Tryz.prog 32 #[.pointer (some ⟨t, 0, none⟩), o.val A n cap] w (AnsPost F t (c + 2) (a.oneT o) w) := by
 by_cases hw : (a.walkP o.path).2 = 0
 ·by_cases hk : o.kind = 12
  ·exact one_stat o A n cap w h hg hc hp hw hk
  by_cases hd : (a.nd (a.walkP o.path).1).kind = 2
  ·by_cases hk2 : o.kind = 13
   ·exact one_list o A n cap w h hg hc hp hw hk2 hd
   ·exact one_dir o A n cap w h hg hc hp hw hk hk2 hd
  ·by_cases hk2 : o.kind = 13
   ·exact one_file o A n cap w h hg hc hp hw hk2 hd
   by_cases hn : o.n < 0
   ·exact one_neg o A n cap w h hg hc hp hw hk hk2 hd hn
   by_cases hn2 : 48640 < o.n
   ·exact one_big o A n cap w h hg hc hp hw hk hk2 hd hn2
   exact one_cut o A n cap w h hg hc hp hw hk hk2 hd (by omega) (by omega)
 ·exact one_err o A n cap w h hg hc hp hw
end
end Go.Proofs.YtpkhglfhpggceaaGreatDoor
