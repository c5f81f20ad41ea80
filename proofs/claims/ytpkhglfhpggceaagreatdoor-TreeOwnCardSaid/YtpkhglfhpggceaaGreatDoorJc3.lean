/- What the reference does to memory: one (printed by genrone.py). What the reference does to memory: fd (printed by genrfd.py). -/
import Derived.Test.YtpkhglfhpggceaaGreatDoorJc2
import Derived.Test.YtpkhglfhpggceaaGreatDoorOne
import Derived.Test.YtpkhglfhpggceaaGreatDoorHeld
namespace Go.Proofs.YtpkhglfhpggceaaGreatDoor
set_option maxRecDepth 100000
set_option maxHeartbeats 16000000
open Go.RowKit Go.Proofs.YtpkhglfhpggceaaGreatDoorW.PrintLast
set_option linter.unusedVariables false
set_option linter.unusedSimpArgs false
section
variable {F : Nat → Prop} {w w' : World} {y c : Nat} {R : RMem} {a : TS}
theorem RIs.redata (h : RIs F w y R a) (hb : Below w.heap.size w w') {k : Nat} (hk : k ≤ a.last) {u : Value} {l : List UInt8} (hby : Byt w' u l) (hown : ∀ j, u.ownBlock = some j → w.heap.size ≤ j) :
  RSt (grow F w (w'.setCell ⟨R.g, k * 4 + 2, none⟩ u)) (w'.setCell ⟨R.g, k * 4 + 2, none⟩ u) y (a.setData k l) ∧ Turn F w (w'.setCell ⟨R.g, k * 4 + 2, none⟩ u) := by
 have h' := h.below hb
 have hsz : (w'.setCell ⟨R.g, k * 4 + 2, none⟩ u).heap.size = w'.heap.size := by simp [World.setCell]
 have hTs : Turn (· = R.g) w' (w'.setCell ⟨R.g, k * 4 + 2, none⟩ u) := (Turn.refl (· = R.g) w').setCell (p := ⟨R.g, k * 4 + 2, none⟩) (fun _ => rfl) _
 have hF : ∀ j, R.own y j → j < w.heap.size := fun j hj => h.lt _ (h.fo _ hj)
 have hby2 : Byt (w'.setCell ⟨R.g, k * 4 + 2, none⟩ u) u l := hby.turn hTs (fun j hj e => by
  have h1 := hown j hj
  have h2 := hF R.g (.inr (.inl rfl))
  have e : j = R.g := e
  omega)
 have hsz2 := hb.size
 have hA : At (fun j => grow F w (w'.setCell ⟨R.g, k * 4 + 2, none⟩ u) j ∧ ¬ R.own y j) u := by
  rcases hby.shape with ⟨rfl, _⟩ | ⟨g, c, cur, rfl, _⟩
  ·exact At.nil _
  ·intro g2 o2 n2 c2 e
   injection e with e1 e2 e3
   injection e1 with e1
   injection e1 with e1
   subst e1
   have h1 := hown g rfl
   have h2 := hby.lt g rfl
   exact ⟨.inr ⟨h1, by rw [hsz]; exact h2⟩, fun e => by have := hF _ e; omega⟩
 obtain ⟨h1, h2⟩ := h'.dated (F' := grow F w (w'.setCell ⟨R.g, k * 4 + 2, none⟩ u)) hk hby2.bs hA (fun j hj => .inl hj) (fun j hj => by
  rcases hj with hj | hj
  ·exact h'.lt j hj
  ·have := hj.2; omega) (fun hj => by
  rcases hj with hj | hj
  ·exact h.f0 hj
  ·have := h.w0; omega)
 exact ⟨h1, (Turn.of_below (S := F) hb).trans (S' := F) h2 fun _ _ e => e⟩
theorem rcut_s (v : Value) (l : List UInt8) (n : Nat) (w : World) (h : Bs w v l) (hn : n ≤ 1000000) (hl : l.length ≤ 1000000) :
  Calls Tryz.prog 82 #[v, .int .i64 (n : Nat)] w fun e w' => ∃ A c, e = .returned (.slice A n c) ∧ Byt w' (.slice A n c) (sizeL l n) ∧ (∀ j, (Value.slice A n c).ownBlock = some j → w.heap.size ≤ j) ∧ Below w.heap.size w w' :=
 (rcut_any v l n w h hn hl).mono fun e w' hx => by
  obtain ⟨r, rfl, h1, h2, h3⟩ := hx
  obtain ⟨A, c, rfl⟩ := own_slice h1
  rw [sizeL_len] at *
  exact ⟨A, c, rfl, h1, h2, h3⟩
def namesV (l : Names) (k : Nat) : List Value := (l.take k).map fun p => .string p.1
theorem namesV_step {l : Names} {k : Nat} {p : ByteArray × Nat} (h : l[k]? = some p) : namesV l (k + 1) = namesV l k ++ [.string p.1] := by
 unfold namesV
 rw [List.take_add_one, h]
 simp
theorem rone_err (o : OpT) (A : Option Addr) (n cap : Nat) (w : World) (h : RIs F w y R a) (hg : Good a c) (hc : c + 20 ≤ 100000) (hp : o.path.size ≤ 1000) (hw : (a.walkP o.path).2 ≠ 0) :
  Calls Tryz.prog 39 #[.pointer (some ⟨y, 0, none⟩), o.val A n cap] w (RAnsPost F y (a) w) := by
 unfold OpT.val
 have HT := Lib.hid h
 have HH := Lib.hid (fun W (hb : Below w.heap.size w W) => h.below hb)
 have hW := Lib.hid (fun W (h : RIs F W y R a) => rWalk_any o.path W h hg (by omega) hp)
 have t9 : ((a.walkP o.path).2 != 0) = true := bne_iff_ne.2 hw
 clear h hg hw
 go_enter Tryz.func39, Tryz.ntmps39
 go_upto_region 1 with (fail)
 obtain ⟨w1, hwe, HO1, HB1⟩ := asked w (oc o A n cap)
 rw [← hwe]
 clear hwe
 have ua0 := (HO1.out).b0.c8
 have ur0 := (HO1.out).b1.cf7
 have ul := (HO1.out).b1.lt
 go_wp2_with fail
 refine (hW.out _ (HH.out _ HB1.out)).mono ?_
 rintro e w2 ⟨rfl, hb2⟩
 clear ua0 ur0 ul
 have HO2 := Lib.hid (HO1.out.below hb2)
 have HB2 := Lib.hid (HB1.out.trans (hb2.mono HB1.out.size))
 clear hb2
 have za0 := (HO2.out).b0.c8
 have zr0 := (HO2.out).b1.cf7
 have zl := (HO2.out).b1.lt
 go_wp2_with fail
 refine (failed_any _ _).mono ?_
 rintro e w5 ⟨rfl, hb5⟩
 have HOF := Lib.hid (HO2.out.below hb5)
 have HBF := Lib.hid (HB2.out.trans (hb5.mono HB2.out.size))
 clear hb5
 have vr0 := (HOF.out).b1.cf7
 have vl := (HOF.out).b1.lt
 go_wp2_with fail
 refine bodyPost_ret (v := .agg #[.int .i64 (a.walkP o.path).2, .int .i64 0, .slice none 0 0, .slice none 0 0, .int .i64 0, .int .i64 0, .int .i64 0]) (by simp [results, Tryz.results39, go_sem, vr0, vl]) rfl ?_
 exact rans_same HT.out (ans_set HBF.out (by omega) _ _ _ _ _ _ _)
theorem rone_stat (o : OpT) (A : Option Addr) (n cap : Nat) (w : World) (h : RIs F w y R a) (hg : Good a c) (hc : c + 20 ≤ 100000) (hp : o.path.size ≤ 1000) (id : Nat) (hw : a.walkP o.path = (id, 0)) (hk : o.kind = 12) :
  Calls Tryz.prog 39 #[.pointer (some ⟨y, 0, none⟩), o.val A n cap] w (RAnsPost F y (a) w) := by
 unfold OpT.val
 have HT := Lib.hid h
 have HH := Lib.hid (fun W (hb : Below w.heap.size w W) => h.below hb)
 have hW := Lib.hid (fun W (h : RIs F W y R a) => rWalk_any o.path W h hg (by omega) hp)
 rw [hw] at hW
 have hlive : (a.nd id).kind ≠ 0 := by have := hg.walkP_live (p := o.path) (by rw [hw]); rw [hw] at this; exact this
 have hil := (hg.in_last hlive).2
 have hi1 := (hg.in_last hlive).1
 have hfew := hg.few
 have HIB := Lib.hid hil
 have hin : ((id : Nat) : Int) < ((a.last + 1 : Nat) : Int) := by omega
 have hlen := hg.len id
 obtain ⟨A1, c1, hdv⟩ : ∃ A1 c1, R.dv id = .slice A1 (a.nd id).data.length c1 := by
  obtain ⟨A1, c1, e, _⟩ := (h.dat id hil).1.rd
  exact ⟨A1, c1, e⟩
 obtain ⟨A2, c2, hnv⟩ := (h.nam id hil).1.shape
 have HDV := Lib.hid hdv
 have HNV := Lib.hid hnv
 have e12 : (o.kind == 12) = true := by rw [hk]; rfl
 clear hk
 generalize hnn : a.last + 1 = n1 at *
 have hnb : n1 ≤ 1000001 := by omega
 have HNN := Lib.hid hnn
 clear h hg hw hlive hil hi1 hfew hlen hdv hnv
 go_enter Tryz.func39, Tryz.ntmps39
 go_upto_region 1 with (fail)
 obtain ⟨w1, hwe, HO1, HB1⟩ := asked w (oc o A n cap)
 rw [← hwe]
 clear hwe
 have ua0 := (HO1.out).b0.c8
 have ur0 := (HO1.out).b1.cf7
 have ul := (HO1.out).b1.lt
 go_wp2_with fail
 refine (hW.out _ (HH.out _ HB1.out)).mono ?_
 rintro e w2 ⟨rfl, hb2⟩
 clear ua0 ur0 ul
 have HO2 := Lib.hid (HO1.out.below hb2)
 have HB2 := Lib.hid (HB1.out.trans (hb2.mono HB1.out.size))
 clear hb2
 have za0 := (HO2.out).b0.c8
 have zr0 := (HO2.out).b1.cf7
 have zl := (HO2.out).b1.lt
 have HR2 := Lib.hid (HH.out _ HB2.out)
 obtain ⟨r0, r1⟩ := HR2.out.cells
 rw [HNN.out] at r0
 obtain ⟨k0, k1, k2, k3⟩ := HR2.out.cel id HIB.out
 rw [HDV.out] at k2
 rw [HNV.out] at k3
 go_upto_region 5 with (fail)
 have HX3 := Lib.hid (Blk.new w2 75 #[.int .i64 (a.nd id).kind, .int .i64 (a.nd id).links, .slice A1 (a.nd id).data.length c1, .slice A2 (a.nd id).names.length c2])
 have HO3 := Lib.hid (HO2.out.alloc (.cells #[.int .i64 (a.nd id).kind, .int .i64 (a.nd id).links, .slice A1 (a.nd id).data.length c1, .slice A2 (a.nd id).names.length c2] 75))
 have HB3 := Lib.hid (HB2.out.alloc HB2.out.size (.cells #[.int .i64 (a.nd id).kind, .int .i64 (a.nd id).links, .slice A1 (a.nd id).data.length c1, .slice A2 (a.nd id).names.length c2] 75))
 clear za0 zr0 zl r0 r1 k0 k1 k2 k3
 have HSZ := Lib.hid HB2.out.size
 have HBL := Lib.hid HO2.out.b1.lt
 have HSX := Lib.hid HX3.out.lt
 generalize w2.alloc (.cells #[.int .i64 (a.nd id).kind, .int .i64 (a.nd id).links, .slice A1 (a.nd id).data.length c1, .slice A2 (a.nd id).names.length c2] 75) = w3 at *
 generalize w2.heap.size = nb at *
 have nx0 := HX3.out.c4
 have xa0 := (HO3.out).b0.c8
 have xr0 := (HO3.out).b1.cf7
 have xl := (HO3.out).b1.lt
 go_wp2_with fail
 refine bodyPost_ret (v := .agg #[.int .i64 0, .int .i64 0, .slice none 0 0, .slice none 0 0, .int .i64 (a.nd id).kind, .int .i64 ((a.nd id).data.length : Nat), .int .i64 (a.nd id).links]) (by simp [results, Tryz.results39, go_sem, xr0, xl]) rfl ?_
 exact rans_same HT.out (ans_set HB3.out (by omega) _ _ _ _ _ _ _)
theorem rone_file (o : OpT) (A : Option Addr) (n cap : Nat) (w : World) (h : RIs F w y R a) (hg : Good a c) (hc : c + 20 ≤ 100000) (hp : o.path.size ≤ 1000) (id : Nat) (hw : a.walkP o.path = (id, 0)) (hk : o.kind = 13) (hd : (a.nd id).kind ≠ 2) :
  Calls Tryz.prog 39 #[.pointer (some ⟨y, 0, none⟩), o.val A n cap] w (RAnsPost F y (a) w) := by
 unfold OpT.val
 have HT := Lib.hid h
 have HH := Lib.hid (fun W (hb : Below w.heap.size w W) => h.below hb)
 have hW := Lib.hid (fun W (h : RIs F W y R a) => rWalk_any o.path W h hg (by omega) hp)
 rw [hw] at hW
 have hlive : (a.nd id).kind ≠ 0 := by have := hg.walkP_live (p := o.path) (by rw [hw]); rw [hw] at this; exact this
 have hil := (hg.in_last hlive).2
 have hi1 := (hg.in_last hlive).1
 have hfew := hg.few
 have HIB := Lib.hid hil
 have hin : ((id : Nat) : Int) < ((a.last + 1 : Nat) : Int) := by omega
 have hlen := hg.len id
 obtain ⟨A1, c1, hdv⟩ : ∃ A1 c1, R.dv id = .slice A1 (a.nd id).data.length c1 := by
  obtain ⟨A1, c1, e, _⟩ := (h.dat id hil).1.rd
  exact ⟨A1, c1, e⟩
 obtain ⟨A2, c2, hnv⟩ := (h.nam id hil).1.shape
 have HDV := Lib.hid hdv
 have HNV := Lib.hid hnv
 have e12 : (o.kind == 12) = false := by rw [hk]; rfl
 have e13 : (o.kind == 13) = true := by rw [hk]; rfl
 clear hk
 have ed : ((a.nd id).kind == 2) = false := beq_eq_false_iff_ne.2 hd
 have ed2 : ((a.nd id).kind != 2) = true := bne_iff_ne.2 hd
 clear hd
 generalize hnn : a.last + 1 = n1 at *
 have hnb : n1 ≤ 1000001 := by omega
 have HNN := Lib.hid hnn
 clear h hg hw hlive hil hi1 hfew hlen hdv hnv
 go_enter Tryz.func39, Tryz.ntmps39
 go_upto_region 1 with (fail)
 obtain ⟨w1, hwe, HO1, HB1⟩ := asked w (oc o A n cap)
 rw [← hwe]
 clear hwe
 have ua0 := (HO1.out).b0.c8
 have ur0 := (HO1.out).b1.cf7
 have ul := (HO1.out).b1.lt
 go_wp2_with fail
 refine (hW.out _ (HH.out _ HB1.out)).mono ?_
 rintro e w2 ⟨rfl, hb2⟩
 clear ua0 ur0 ul
 have HO2 := Lib.hid (HO1.out.below hb2)
 have HB2 := Lib.hid (HB1.out.trans (hb2.mono HB1.out.size))
 clear hb2
 have za0 := (HO2.out).b0.c8
 have zr0 := (HO2.out).b1.cf7
 have zl := (HO2.out).b1.lt
 have HR2 := Lib.hid (HH.out _ HB2.out)
 obtain ⟨r0, r1⟩ := HR2.out.cells
 rw [HNN.out] at r0
 obtain ⟨k0, k1, k2, k3⟩ := HR2.out.cel id HIB.out
 rw [HDV.out] at k2
 rw [HNV.out] at k3
 go_upto_region 5 with (fail)
 have HX3 := Lib.hid (Blk.new w2 75 #[.int .i64 (a.nd id).kind, .int .i64 (a.nd id).links, .slice A1 (a.nd id).data.length c1, .slice A2 (a.nd id).names.length c2])
 have HO3 := Lib.hid (HO2.out.alloc (.cells #[.int .i64 (a.nd id).kind, .int .i64 (a.nd id).links, .slice A1 (a.nd id).data.length c1, .slice A2 (a.nd id).names.length c2] 75))
 have HB3 := Lib.hid (HB2.out.alloc HB2.out.size (.cells #[.int .i64 (a.nd id).kind, .int .i64 (a.nd id).links, .slice A1 (a.nd id).data.length c1, .slice A2 (a.nd id).names.length c2] 75))
 clear za0 zr0 zl r0 r1 k0 k1 k2 k3
 have HSZ := Lib.hid HB2.out.size
 have HBL := Lib.hid HO2.out.b1.lt
 have HSX := Lib.hid HX3.out.lt
 generalize w2.alloc (.cells #[.int .i64 (a.nd id).kind, .int .i64 (a.nd id).links, .slice A1 (a.nd id).data.length c1, .slice A2 (a.nd id).names.length c2] 75) = w3 at *
 generalize w2.heap.size = nb at *
 have nx0 := HX3.out.c4
 have xa0 := (HO3.out).b0.c8
 have xr0 := (HO3.out).b1.cf7
 have xl := (HO3.out).b1.lt
 go_wp2_with fail
 refine (failed_any _ _).mono ?_
 rintro e w5 ⟨rfl, hb5⟩
 have HOF := Lib.hid (HO3.out.below hb5)
 have HBF := Lib.hid (HB3.out.trans (hb5.mono HB3.out.size))
 clear hb5
 have vr0 := (HOF.out).b1.cf7
 have vl := (HOF.out).b1.lt
 go_wp2_with fail
 refine bodyPost_ret (v := .agg #[.int .i64 42, .int .i64 0, .slice none 0 0, .slice none 0 0, .int .i64 0, .int .i64 0, .int .i64 0]) (by simp [results, Tryz.results39, go_sem, vr0, vl]) rfl ?_
 exact rans_same HT.out (ans_set HBF.out (by omega) _ _ _ _ _ _ _)
theorem rone_dir (o : OpT) (A : Option Addr) (n cap : Nat) (w : World) (h : RIs F w y R a) (hg : Good a c) (hc : c + 20 ≤ 100000) (hp : o.path.size ≤ 1000) (id : Nat) (hw : a.walkP o.path = (id, 0)) (hk : o.kind ≠ 12) (hk2 : o.kind ≠ 13) (hd : (a.nd id).kind = 2) :
  Calls Tryz.prog 39 #[.pointer (some ⟨y, 0, none⟩), o.val A n cap] w (RAnsPost F y (a) w) := by
 unfold OpT.val
 have HT := Lib.hid h
 have HH := Lib.hid (fun W (hb : Below w.heap.size w W) => h.below hb)
 have hW := Lib.hid (fun W (h : RIs F W y R a) => rWalk_any o.path W h hg (by omega) hp)
 rw [hw] at hW
 have hlive : (a.nd id).kind ≠ 0 := by have := hg.walkP_live (p := o.path) (by rw [hw]); rw [hw] at this; exact this
 have hil := (hg.in_last hlive).2
 have hi1 := (hg.in_last hlive).1
 have hfew := hg.few
 have HIB := Lib.hid hil
 have hin : ((id : Nat) : Int) < ((a.last + 1 : Nat) : Int) := by omega
 have hlen := hg.len id
 obtain ⟨A1, c1, hdv⟩ : ∃ A1 c1, R.dv id = .slice A1 (a.nd id).data.length c1 := by
  obtain ⟨A1, c1, e, _⟩ := (h.dat id hil).1.rd
  exact ⟨A1, c1, e⟩
 obtain ⟨A2, c2, hnv⟩ := (h.nam id hil).1.shape
 have HDV := Lib.hid hdv
 have HNV := Lib.hid hnv
 have e12 : (o.kind == 12) = false := beq_eq_false_iff_ne.2 hk
 have e13 : (o.kind == 13) = false := beq_eq_false_iff_ne.2 hk2
 clear hk hk2
 have ed : ((a.nd id).kind == 2) = true := by rw [hd]; rfl
 have ed2 : ((a.nd id).kind != 2) = false := by rw [hd]; rfl
 clear hd
 generalize hnn : a.last + 1 = n1 at *
 have hnb : n1 ≤ 1000001 := by omega
 have HNN := Lib.hid hnn
 clear h hg hw hlive hil hi1 hfew hlen hdv hnv
 go_enter Tryz.func39, Tryz.ntmps39
 go_upto_region 1 with (fail)
 obtain ⟨w1, hwe, HO1, HB1⟩ := asked w (oc o A n cap)
 rw [← hwe]
 clear hwe
 have ua0 := (HO1.out).b0.c8
 have ur0 := (HO1.out).b1.cf7
 have ul := (HO1.out).b1.lt
 go_wp2_with fail
 refine (hW.out _ (HH.out _ HB1.out)).mono ?_
 rintro e w2 ⟨rfl, hb2⟩
 clear ua0 ur0 ul
 have HO2 := Lib.hid (HO1.out.below hb2)
 have HB2 := Lib.hid (HB1.out.trans (hb2.mono HB1.out.size))
 clear hb2
 have za0 := (HO2.out).b0.c8
 have zr0 := (HO2.out).b1.cf7
 have zl := (HO2.out).b1.lt
 have HR2 := Lib.hid (HH.out _ HB2.out)
 obtain ⟨r0, r1⟩ := HR2.out.cells
 rw [HNN.out] at r0
 obtain ⟨k0, k1, k2, k3⟩ := HR2.out.cel id HIB.out
 rw [HDV.out] at k2
 rw [HNV.out] at k3
 go_upto_region 5 with (fail)
 have HX3 := Lib.hid (Blk.new w2 75 #[.int .i64 (a.nd id).kind, .int .i64 (a.nd id).links, .slice A1 (a.nd id).data.length c1, .slice A2 (a.nd id).names.length c2])
 have HO3 := Lib.hid (HO2.out.alloc (.cells #[.int .i64 (a.nd id).kind, .int .i64 (a.nd id).links, .slice A1 (a.nd id).data.length c1, .slice A2 (a.nd id).names.length c2] 75))
 have HB3 := Lib.hid (HB2.out.alloc HB2.out.size (.cells #[.int .i64 (a.nd id).kind, .int .i64 (a.nd id).links, .slice A1 (a.nd id).data.length c1, .slice A2 (a.nd id).names.length c2] 75))
 clear za0 zr0 zl r0 r1 k0 k1 k2 k3
 have HSZ := Lib.hid HB2.out.size
 have HBL := Lib.hid HO2.out.b1.lt
 have HSX := Lib.hid HX3.out.lt
 generalize w2.alloc (.cells #[.int .i64 (a.nd id).kind, .int .i64 (a.nd id).links, .slice A1 (a.nd id).data.length c1, .slice A2 (a.nd id).names.length c2] 75) = w3 at *
 generalize w2.heap.size = nb at *
 have nx0 := HX3.out.c4
 have xa0 := (HO3.out).b0.c8
 have xr0 := (HO3.out).b1.cf7
 have xl := (HO3.out).b1.lt
 go_wp2_with fail
 refine (failed_any _ _).mono ?_
 rintro e w5 ⟨rfl, hb5⟩
 have HOF := Lib.hid (HO3.out.below hb5)
 have HBF := Lib.hid (HB3.out.trans (hb5.mono HB3.out.size))
 clear hb5
 have vr0 := (HOF.out).b1.cf7
 have vl := (HOF.out).b1.lt
 go_wp2_with fail
 refine bodyPost_ret (v := .agg #[.int .i64 43, .int .i64 0, .slice none 0 0, .slice none 0 0, .int .i64 0, .int .i64 0, .int .i64 0]) (by simp [results, Tryz.results39, go_sem, vr0, vl]) rfl ?_
 exact rans_same HT.out (ans_set HBF.out (by omega) _ _ _ _ _ _ _)
theorem rone_neg (o : OpT) (A : Option Addr) (n cap : Nat) (w : World) (h : RIs F w y R a) (hg : Good a c) (hc : c + 20 ≤ 100000) (hp : o.path.size ≤ 1000) (id : Nat) (hw : a.walkP o.path = (id, 0)) (hk : o.kind ≠ 12) (hk2 : o.kind ≠ 13) (hd : (a.nd id).kind ≠ 2) (hn : o.n < 0) :
  Calls Tryz.prog 39 #[.pointer (some ⟨y, 0, none⟩), o.val A n cap] w (RAnsPost F y (a) w) := by
 unfold OpT.val
 have HT := Lib.hid h
 have HH := Lib.hid (fun W (hb : Below w.heap.size w W) => h.below hb)
 have hW := Lib.hid (fun W (h : RIs F W y R a) => rWalk_any o.path W h hg (by omega) hp)
 rw [hw] at hW
 have hlive : (a.nd id).kind ≠ 0 := by have := hg.walkP_live (p := o.path) (by rw [hw]); rw [hw] at this; exact this
 have hil := (hg.in_last hlive).2
 have hi1 := (hg.in_last hlive).1
 have hfew := hg.few
 have HIB := Lib.hid hil
 have hin : ((id : Nat) : Int) < ((a.last + 1 : Nat) : Int) := by omega
 have hlen := hg.len id
 obtain ⟨A1, c1, hdv⟩ : ∃ A1 c1, R.dv id = .slice A1 (a.nd id).data.length c1 := by
  obtain ⟨A1, c1, e, _⟩ := (h.dat id hil).1.rd
  exact ⟨A1, c1, e⟩
 obtain ⟨A2, c2, hnv⟩ := (h.nam id hil).1.shape
 have HDV := Lib.hid hdv
 have HNV := Lib.hid hnv
 have e12 : (o.kind == 12) = false := beq_eq_false_iff_ne.2 hk
 have e13 : (o.kind == 13) = false := beq_eq_false_iff_ne.2 hk2
 clear hk hk2
 have ed : ((a.nd id).kind == 2) = false := beq_eq_false_iff_ne.2 hd
 have ed2 : ((a.nd id).kind != 2) = true := bne_iff_ne.2 hd
 clear hd
 generalize hnn : a.last + 1 = n1 at *
 have hnb : n1 ≤ 1000001 := by omega
 have HNN := Lib.hid hnn
 clear h hg hw hlive hil hi1 hfew hlen hdv hnv
 go_enter Tryz.func39, Tryz.ntmps39
 go_upto_region 1 with (fail)
 obtain ⟨w1, hwe, HO1, HB1⟩ := asked w (oc o A n cap)
 rw [← hwe]
 clear hwe
 have ua0 := (HO1.out).b0.c8
 have ur0 := (HO1.out).b1.cf7
 have ul := (HO1.out).b1.lt
 go_wp2_with fail
 refine (hW.out _ (HH.out _ HB1.out)).mono ?_
 rintro e w2 ⟨rfl, hb2⟩
 clear ua0 ur0 ul
 have HO2 := Lib.hid (HO1.out.below hb2)
 have HB2 := Lib.hid (HB1.out.trans (hb2.mono HB1.out.size))
 clear hb2
 have za0 := (HO2.out).b0.c8
 have zr0 := (HO2.out).b1.cf7
 have zl := (HO2.out).b1.lt
 have HR2 := Lib.hid (HH.out _ HB2.out)
 obtain ⟨r0, r1⟩ := HR2.out.cells
 rw [HNN.out] at r0
 obtain ⟨k0, k1, k2, k3⟩ := HR2.out.cel id HIB.out
 rw [HDV.out] at k2
 rw [HNV.out] at k3
 go_upto_region 5 with (fail)
 have HX3 := Lib.hid (Blk.new w2 75 #[.int .i64 (a.nd id).kind, .int .i64 (a.nd id).links, .slice A1 (a.nd id).data.length c1, .slice A2 (a.nd id).names.length c2])
 have HO3 := Lib.hid (HO2.out.alloc (.cells #[.int .i64 (a.nd id).kind, .int .i64 (a.nd id).links, .slice A1 (a.nd id).data.length c1, .slice A2 (a.nd id).names.length c2] 75))
 have HB3 := Lib.hid (HB2.out.alloc HB2.out.size (.cells #[.int .i64 (a.nd id).kind, .int .i64 (a.nd id).links, .slice A1 (a.nd id).data.length c1, .slice A2 (a.nd id).names.length c2] 75))
 clear za0 zr0 zl r0 r1 k0 k1 k2 k3
 have HSZ := Lib.hid HB2.out.size
 have HBL := Lib.hid HO2.out.b1.lt
 have HSX := Lib.hid HX3.out.lt
 generalize w2.alloc (.cells #[.int .i64 (a.nd id).kind, .int .i64 (a.nd id).links, .slice A1 (a.nd id).data.length c1, .slice A2 (a.nd id).names.length c2] 75) = w3 at *
 generalize w2.heap.size = nb at *
 have nx0 := HX3.out.c4
 have xa0 := (HO3.out).b0.c8
 have xr0 := (HO3.out).b1.cf7
 have xl := (HO3.out).b1.lt
 go_wp2_with fail
 refine (failed_any _ _).mono ?_
 rintro e w5 ⟨rfl, hb5⟩
 have HOF := Lib.hid (HO3.out.below hb5)
 have HBF := Lib.hid (HB3.out.trans (hb5.mono HB3.out.size))
 clear hb5
 have vr0 := (HOF.out).b1.cf7
 have vl := (HOF.out).b1.lt
 go_wp2_with fail
 refine bodyPost_ret (v := .agg #[.int .i64 2, .int .i64 0, .slice none 0 0, .slice none 0 0, .int .i64 0, .int .i64 0, .int .i64 0]) (by simp [results, Tryz.results39, go_sem, vr0, vl]) rfl ?_
 exact rans_same HT.out (ans_set HBF.out (by omega) _ _ _ _ _ _ _)
theorem rone_big (o : OpT) (A : Option Addr) (n cap : Nat) (w : World) (h : RIs F w y R a) (hg : Good a c) (hc : c + 20 ≤ 100000) (hp : o.path.size ≤ 1000) (id : Nat) (hw : a.walkP o.path = (id, 0)) (hk : o.kind ≠ 12) (hk2 : o.kind ≠ 13) (hd : (a.nd id).kind ≠ 2) (hn : 48640 < o.n) :
  Calls Tryz.prog 39 #[.pointer (some ⟨y, 0, none⟩), o.val A n cap] w (RAnsPost F y (a) w) := by
 unfold OpT.val
 have HT := Lib.hid h
 have HH := Lib.hid (fun W (hb : Below w.heap.size w W) => h.below hb)
 have hW := Lib.hid (fun W (h : RIs F W y R a) => rWalk_any o.path W h hg (by omega) hp)
 rw [hw] at hW
 have hlive : (a.nd id).kind ≠ 0 := by have := hg.walkP_live (p := o.path) (by rw [hw]); rw [hw] at this; exact this
 have hil := (hg.in_last hlive).2
 have hi1 := (hg.in_last hlive).1
 have hfew := hg.few
 have HIB := Lib.hid hil
 have hin : ((id : Nat) : Int) < ((a.last + 1 : Nat) : Int) := by omega
 have hlen := hg.len id
 obtain ⟨A1, c1, hdv⟩ : ∃ A1 c1, R.dv id = .slice A1 (a.nd id).data.length c1 := by
  obtain ⟨A1, c1, e, _⟩ := (h.dat id hil).1.rd
  exact ⟨A1, c1, e⟩
 obtain ⟨A2, c2, hnv⟩ := (h.nam id hil).1.shape
 have HDV := Lib.hid hdv
 have HNV := Lib.hid hnv
 have e12 : (o.kind == 12) = false := beq_eq_false_iff_ne.2 hk
 have e13 : (o.kind == 13) = false := beq_eq_false_iff_ne.2 hk2
 clear hk hk2
 have ed : ((a.nd id).kind == 2) = false := beq_eq_false_iff_ne.2 hd
 have ed2 : ((a.nd id).kind != 2) = true := bne_iff_ne.2 hd
 clear hd
 have hn0 : ¬ o.n < 0 := by omega
 generalize hnn : a.last + 1 = n1 at *
 have hnb : n1 ≤ 1000001 := by omega
 have HNN := Lib.hid hnn
 clear h hg hw hlive hil hi1 hfew hlen hdv hnv
 go_enter Tryz.func39, Tryz.ntmps39
 go_upto_region 1 with (fail)
 obtain ⟨w1, hwe, HO1, HB1⟩ := asked w (oc o A n cap)
 rw [← hwe]
 clear hwe
 have ua0 := (HO1.out).b0.c8
 have ur0 := (HO1.out).b1.cf7
 have ul := (HO1.out).b1.lt
 go_wp2_with fail
 refine (hW.out _ (HH.out _ HB1.out)).mono ?_
 rintro e w2 ⟨rfl, hb2⟩
 clear ua0 ur0 ul
 have HO2 := Lib.hid (HO1.out.below hb2)
 have HB2 := Lib.hid (HB1.out.trans (hb2.mono HB1.out.size))
 clear hb2
 have za0 := (HO2.out).b0.c8
 have zr0 := (HO2.out).b1.cf7
 have zl := (HO2.out).b1.lt
 have HR2 := Lib.hid (HH.out _ HB2.out)
 obtain ⟨r0, r1⟩ := HR2.out.cells
 rw [HNN.out] at r0
 obtain ⟨k0, k1, k2, k3⟩ := HR2.out.cel id HIB.out
 rw [HDV.out] at k2
 rw [HNV.out] at k3
 go_upto_region 5 with (fail)
 have HX3 := Lib.hid (Blk.new w2 75 #[.int .i64 (a.nd id).kind, .int .i64 (a.nd id).links, .slice A1 (a.nd id).data.length c1, .slice A2 (a.nd id).names.length c2])
 have HO3 := Lib.hid (HO2.out.alloc (.cells #[.int .i64 (a.nd id).kind, .int .i64 (a.nd id).links, .slice A1 (a.nd id).data.length c1, .slice A2 (a.nd id).names.length c2] 75))
 have HB3 := Lib.hid (HB2.out.alloc HB2.out.size (.cells #[.int .i64 (a.nd id).kind, .int .i64 (a.nd id).links, .slice A1 (a.nd id).data.length c1, .slice A2 (a.nd id).names.length c2] 75))
 clear za0 zr0 zl r0 r1 k0 k1 k2 k3
 have HSZ := Lib.hid HB2.out.size
 have HBL := Lib.hid HO2.out.b1.lt
 have HSX := Lib.hid HX3.out.lt
 generalize w2.alloc (.cells #[.int .i64 (a.nd id).kind, .int .i64 (a.nd id).links, .slice A1 (a.nd id).data.length c1, .slice A2 (a.nd id).names.length c2] 75) = w3 at *
 generalize w2.heap.size = nb at *
 have nx0 := HX3.out.c4
 have xa0 := (HO3.out).b0.c8
 have xr0 := (HO3.out).b1.cf7
 have xl := (HO3.out).b1.lt
 go_wp2_with fail
 refine (failed_any _ _).mono ?_
 rintro e w5 ⟨rfl, hb5⟩
 have HOF := Lib.hid (HO3.out.below hb5)
 have HBF := Lib.hid (HB3.out.trans (hb5.mono HB3.out.size))
 clear hb5
 have vr0 := (HOF.out).b1.cf7
 have vl := (HOF.out).b1.lt
 go_wp2_with fail
 refine bodyPost_ret (v := .agg #[.int .i64 31, .int .i64 0, .slice none 0 0, .slice none 0 0, .int .i64 0, .int .i64 0, .int .i64 0]) (by simp [results, Tryz.results39, go_sem, vr0, vl]) rfl ?_
 exact rans_same HT.out (ans_set HBF.out (by omega) _ _ _ _ _ _ _)
theorem rone_list (o : OpT) (A : Option Addr) (n cap : Nat) (w : World) (h : RIs F w y R a) (hg : Good a c) (hc : c + 20 ≤ 100000) (hp : o.path.size ≤ 1000) (id : Nat) (hw : a.walkP o.path = (id, 0)) (hk : o.kind = 13) (hd : (a.nd id).kind = 2) :
  Calls Tryz.prog 39 #[.pointer (some ⟨y, 0, none⟩), o.val A n cap] w (RAnsPost F y (a) w) := by
 unfold OpT.val
 have HT := Lib.hid h
 have HH := Lib.hid (fun W (hb : Below w.heap.size w W) => h.below hb)
 obtain ⟨i0, hi0, hz0, hz1, hz2⟩ := info_parts info9
 have hW := Lib.hid (fun W (h : RIs F W y R a) => rWalk_any o.path W h hg (by omega) hp)
 rw [hw] at hW
 have hlive : (a.nd id).kind ≠ 0 := by have := hg.walkP_live (p := o.path) (by rw [hw]); rw [hw] at this; exact this
 have hil := (hg.in_last hlive).2
 have hi1 := (hg.in_last hlive).1
 have hfew := hg.few
 have HIB := Lib.hid hil
 have hin : ((id : Nat) : Int) < ((a.last + 1 : Nat) : Int) := by omega
 have hlen := hg.len id
 obtain ⟨A1, c1, hdv⟩ : ∃ A1 c1, R.dv id = .slice A1 (a.nd id).data.length c1 := by
  obtain ⟨A1, c1, e, _⟩ := (h.dat id hil).1.rd
  exact ⟨A1, c1, e⟩
 obtain ⟨A2, c2, hnv⟩ := (h.nam id hil).1.shape
 have HDV := Lib.hid hdv
 have HNV := Lib.hid hnv
 have HNM : Hid (∀ W, Below w.heap.size w W → ∀ i p, (a.nd id).names[i]? = some p → ∃ g, A2 = some ⟨g, 0, none⟩ ∧ W.cell? ⟨g, i * 2, none⟩ = some (.int .i64 (p.2 : Nat)) ∧ W.cell? ⟨g, i * 2 + 1, none⟩ = some (.string p.1)) := Lib.hid (by
  intro W hW i p hi
  have hn2 := (h.nam id hil).1.turn (S := fun _ => False) (Turn.of_below hW) (fun _ _ _ _ _ => fun x => x)
  rcases hn2 with ⟨e1, e2⟩ | ⟨g, c', e, h1, h2, h3, h4⟩
  ·rw [e2] at hi; simp at hi
  ·rw [hnv] at e
   injection e with e1 e2 e3
   exact ⟨g, e1, (h4 i p hi).1, (h4 i p hi).2⟩)
 have hll : (a.nd id).names.length ≤ 1000000 := by omega
 have e12 : (o.kind == 12) = false := by rw [hk]; rfl
 have e13 : (o.kind == 13) = true := by rw [hk]; rfl
 clear hk
 have ed : ((a.nd id).kind == 2) = true := by rw [hd]; rfl
 have ed2 : ((a.nd id).kind != 2) = false := by rw [hd]; rfl
 clear hd
 generalize hnn : a.last + 1 = n1 at *
 have hnb : n1 ≤ 1000001 := by omega
 have HNN := Lib.hid hnn
 clear h hg hw hlive hil hi1 hfew hlen hdv hnv
 go_enter Tryz.func39, Tryz.ntmps39
 go_upto_region 1 with (fail)
 obtain ⟨w1, hwe, HO1, HB1⟩ := asked w (oc o A n cap)
 rw [← hwe]
 clear hwe
 have ua0 := (HO1.out).b0.c8
 have ur0 := (HO1.out).b1.cf7
 have ul := (HO1.out).b1.lt
 go_wp2_with fail
 refine (hW.out _ (HH.out _ HB1.out)).mono ?_
 rintro e w2 ⟨rfl, hb2⟩
 clear ua0 ur0 ul
 have HO2 := Lib.hid (HO1.out.below hb2)
 have HB2 := Lib.hid (HB1.out.trans (hb2.mono HB1.out.size))
 clear hb2
 have za0 := (HO2.out).b0.c8
 have zr0 := (HO2.out).b1.cf7
 have zl := (HO2.out).b1.lt
 have HR2 := Lib.hid (HH.out _ HB2.out)
 obtain ⟨r0, r1⟩ := HR2.out.cells
 rw [HNN.out] at r0
 obtain ⟨k0, k1, k2, k3⟩ := HR2.out.cel id HIB.out
 rw [HDV.out] at k2
 rw [HNV.out] at k3
 go_upto_region 5 with (fail)
 have HX3 := Lib.hid (Blk.new w2 75 #[.int .i64 (a.nd id).kind, .int .i64 (a.nd id).links, .slice A1 (a.nd id).data.length c1, .slice A2 (a.nd id).names.length c2])
 have HO3 := Lib.hid (HO2.out.alloc (.cells #[.int .i64 (a.nd id).kind, .int .i64 (a.nd id).links, .slice A1 (a.nd id).data.length c1, .slice A2 (a.nd id).names.length c2] 75))
 have HB3 := Lib.hid (HB2.out.alloc HB2.out.size (.cells #[.int .i64 (a.nd id).kind, .int .i64 (a.nd id).links, .slice A1 (a.nd id).data.length c1, .slice A2 (a.nd id).names.length c2] 75))
 clear za0 zr0 zl r0 r1 k0 k1 k2 k3
 have HSZ := Lib.hid HB2.out.size
 have HBL := Lib.hid HO2.out.b1.lt
 have HSX := Lib.hid HX3.out.lt
 generalize w2.alloc (.cells #[.int .i64 (a.nd id).kind, .int .i64 (a.nd id).links, .slice A1 (a.nd id).data.length c1, .slice A2 (a.nd id).names.length c2] 75) = w3 at *
 generalize w2.heap.size = nb at *
 have nx0 := HX3.out.c4
 have xa0 := (HO3.out).b0.c8
 have xr0 := (HO3.out).b1.cf7
 have xl := (HO3.out).b1.lt
 go_wp2_with fail
 clear xa0 xr0 xl nx0
 generalize (a.nd id).names = l at *
 go_loopw [8, 9] (fun v i wr => ∃ (k : Nat) (A : Option Addr) (cc : Nat), k ≤ l.length ∧ i = .int .i64 (k : Nat) ∧ v = .slice A k cc ∧ wr.ownsRow w3.heap.size 9 1 (.slice A k cc) k (namesV l k) ∧ Below w3.heap.size w3 wr) (fun _ i _ => l.length - (intOf i).toNat)
 case atStart => exact ⟨0, _, _, Nat.zero_le _, rfl, rfl, World.ownsRow_made w3 #[] 0 (Nat.le_refl _) (Nat.zero_le _) rfl, (Below.refl _ _).alloc (Nat.le_refl _) _⟩
 case round =>
  obtain ⟨k, A, cc, hk, rfl, rfl, hown, hbel⟩ := hrel
  have hsz := hbel.size
  have HO := Lib.hid hown
  have HB := Lib.hid hbel
  have HX4 := Lib.hid (HX3.out.turn (S := fun _ => False) (Turn.of_below hbel) (fun x => x))
  have HO4 := Lib.hid (HO3.out.below hbel)
  have HB4 := Lib.hid (HB3.out.trans (hbel.mono HB3.out.size))
  have mx3 := HX4.out.cell 3
  simp at mx3
  clear hown hbel
  by_cases hlt : k < l.length
  ·obtain ⟨p, hp⟩ : ∃ p, l[k]? = some p := ⟨l[k], List.getElem?_eq_getElem hlt⟩
   obtain ⟨g, rfl, hc1, hc2⟩ := HNM.out wr HB4.out k p hp
   have HNV2 := Lib.hid (namesV_step hp)
   clear hp
   go_wp2_with (at_builtin; refine wpList_append_own _ rfl (.tmp 55) (.tmp 62) 29 rfl w3.heap.size 9 i0 (.string ByteArray.empty) 1 16 Tryz.underlying29 hi0 hz0 hz1 hz2 rfl (by decide) _ _ _ rfl (HO.out.alloc _) ⟨wr.heap.size, 0, none⟩ 1 1 [.string p.1] rfl rfl ?c1 ?c2 ?c3 ?c4 ?c5 ?_)
   case c1 => exact one_new _ _ _
   case c2 => simp [Value.oneCell']
   case c3 => simp only [maxLen]; omega
   case c4 => omega
   case c5 => simp; omega
   intro v' w1 hown1 hgrow1 _
   have hown2 : w1.ownsRow w3.heap.size 9 1 v' (k + 1) (namesV l (k + 1)) := by
    rw [HNV2.out]
    exact hown1
   have hbel2 : Below w3.heap.size w3 w1 := (HB.out.alloc HB.out.size _).grown hgrow1 (by simp; omega) (fun j hj => (HO.out.lt j hj).1)
   obtain ⟨A5, c5, rfl⟩ := own_slice hown2
   clear hgrow1 hown1
   go_wp2
   go_roundw
   case rel => exact ⟨k + 1, A5, c5, by omega, by go_num, rfl, hown2, hbel2⟩
   case measure => simp [intOf]; omega
  ·obtain rfl : k = l.length := by omega
   have va0 := (HO4.out).b0.c8
   have vr0 := (HO4.out).b1.cf7
   have vl := (HO4.out).b1.lt
   go_wp2
   refine bodyPost_ret (v := .agg #[.int .i64 0, .int .i64 0, .slice none 0 0, .slice A l.length cc, .int .i64 0, .int .i64 0, .int .i64 0]) (by simp [results, Tryz.results39, go_sem, vr0, vl]) rfl ?_
   exact rans_same HT.out (ans_set HB4.out (by omega) _ _ _ _ _ _ _)
theorem rone_cut (o : OpT) (A : Option Addr) (n cap : Nat) (w : World) (h : RIs F w y R a) (hg : Good a c) (hc : c + 20 ≤ 100000) (hp : o.path.size ≤ 1000) (id : Nat) (hw : a.walkP o.path = (id, 0)) (hk : o.kind ≠ 12) (hk2 : o.kind ≠ 13) (hd : (a.nd id).kind ≠ 2) (hn : 0 ≤ o.n) (hn2 : o.n ≤ 48640) :
  Calls Tryz.prog 39 #[.pointer (some ⟨y, 0, none⟩), o.val A n cap] w (RAnsPost F y (a.setData id (sizeL (a.nd id).data o.n.toNat)) w) := by
 unfold OpT.val
 have HT := Lib.hid h
 have HH := Lib.hid (fun W (hb : Below w.heap.size w W) => h.below hb)
 have hW := Lib.hid (fun W (h : RIs F W y R a) => rWalk_any o.path W h hg (by omega) hp)
 rw [hw] at hW
 have hlive : (a.nd id).kind ≠ 0 := by have := hg.walkP_live (p := o.path) (by rw [hw]); rw [hw] at this; exact this
 have hil := (hg.in_last hlive).2
 have hi1 := (hg.in_last hlive).1
 have hfew := hg.few
 have HIB := Lib.hid hil
 have hin : ((id : Nat) : Int) < ((a.last + 1 : Nat) : Int) := by omega
 have hlen := hg.len id
 obtain ⟨A1, c1, hdv⟩ : ∃ A1 c1, R.dv id = .slice A1 (a.nd id).data.length c1 := by
  obtain ⟨A1, c1, e, _⟩ := (h.dat id hil).1.rd
  exact ⟨A1, c1, e⟩
 obtain ⟨A2, c2, hnv⟩ := (h.nam id hil).1.shape
 have HDV := Lib.hid hdv
 have HNV := Lib.hid hnv
 have e12 : (o.kind == 12) = false := beq_eq_false_iff_ne.2 hk
 have e13 : (o.kind == 13) = false := beq_eq_false_iff_ne.2 hk2
 clear hk hk2
 have ed : ((a.nd id).kind == 2) = false := beq_eq_false_iff_ne.2 hd
 have ed2 : ((a.nd id).kind != 2) = true := bne_iff_ne.2 hd
 clear hd
 have HFL := Lib.hid h.lt
 obtain ⟨z, hz⟩ : ∃ z : Nat, o.n = (z : Nat) := ⟨o.n.toNat, by omega⟩
 have hdl := hg.data id
 have HDL : Hid ((a.nd id).data.length ≤ 1000000) := Lib.hid (by omega)
 have HBS := Lib.hid (fun W (hb : Below w.heap.size w W) => by have := ((h.below hb).dat id hil).1; rw [hdv] at this; exact this)
 have HZ : Hid (z ≤ 1000000) := Lib.hid (by omega)
 have hn0 : ¬ ((z : Nat) : Int) < 0 := by omega
 have hn1 : ¬ (48640 : Int) < ((z : Nat) : Int) := by omega
 have hid0 : (0 : Int) ≤ ((id : Nat) : Int) := by omega
 have hZN : ((z : Nat) : Int).toNat = z := by omega
 rw [hz] at *
 rw [hZN] at *
 generalize hnn : a.last + 1 = n1 at *
 have hnb : n1 ≤ 1000001 := by omega
 have HNN := Lib.hid hnn
 clear h hg hw hlive hil hi1 hfew hlen hdv hnv hz hn hn2 hdl hZN
 go_enter Tryz.func39, Tryz.ntmps39
 go_upto_region 1 with (fail)
 obtain ⟨w1, hwe, HO1, HB1⟩ := asked w #[.int .i64 o.kind, .string o.path, .string o.to, .int .i64 o.fd, .int .i64 (z : Nat), .int .i64 o.off, .int .i64 o.flags, .slice A n cap]
 rw [← hwe]
 clear hwe
 have ua0 := (HO1.out).b0.c8
 have ur0 := (HO1.out).b1.cf7
 have ul := (HO1.out).b1.lt
 go_wp2_with fail
 refine (hW.out _ (HH.out _ HB1.out)).mono ?_
 rintro e w2 ⟨rfl, hb2⟩
 clear ua0 ur0 ul
 have HO2 := Lib.hid (HO1.out.below hb2)
 have HB2 := Lib.hid (HB1.out.trans (hb2.mono HB1.out.size))
 clear hb2
 have za0 := (HO2.out).b0.c8
 have zr0 := (HO2.out).b1.cf7
 have zl := (HO2.out).b1.lt
 have HR2 := Lib.hid (HH.out _ HB2.out)
 obtain ⟨r0, r1⟩ := HR2.out.cells
 rw [HNN.out] at r0
 obtain ⟨k0, k1, k2, k3⟩ := HR2.out.cel id HIB.out
 rw [HDV.out] at k2
 rw [HNV.out] at k3
 go_upto_region 5 with (fail)
 have HX3 := Lib.hid (Blk.new w2 75 #[.int .i64 (a.nd id).kind, .int .i64 (a.nd id).links, .slice A1 (a.nd id).data.length c1, .slice A2 (a.nd id).names.length c2])
 have HO3 := Lib.hid (HO2.out.alloc (.cells #[.int .i64 (a.nd id).kind, .int .i64 (a.nd id).links, .slice A1 (a.nd id).data.length c1, .slice A2 (a.nd id).names.length c2] 75))
 have HB3 := Lib.hid (HB2.out.alloc HB2.out.size (.cells #[.int .i64 (a.nd id).kind, .int .i64 (a.nd id).links, .slice A1 (a.nd id).data.length c1, .slice A2 (a.nd id).names.length c2] 75))
 clear za0 zr0 zl r0 r1 k0 k1 k2 k3
 have HSZ := Lib.hid HB2.out.size
 have HBL := Lib.hid HO2.out.b1.lt
 have HSX := Lib.hid HX3.out.lt
 generalize w2.alloc (.cells #[.int .i64 (a.nd id).kind, .int .i64 (a.nd id).links, .slice A1 (a.nd id).data.length c1, .slice A2 (a.nd id).names.length c2] 75) = w3 at *
 generalize w2.heap.size = nb at *
 have nx0 := HX3.out.c4
 have xa0 := (HO3.out).b0.c8
 have xr0 := (HO3.out).b1.cf7
 have xl := (HO3.out).b1.lt
 go_upto_region 22 with (fail)
 clear xa0 xr0 xl nx0
 have HR3 := Lib.hid (HH.out _ HB3.out).drew
 have HB3d := Lib.hid (show Below w.heap.size w w3.drew from HB3.out.trans drew_below')
 have HX3d := Lib.hid HX3.out.drew
 have HO3d := Lib.hid HO3.out.drew
 have hB : Below w3.drew.heap.size w3.drew w3.drew := Below.refl _ _
 have HSZ2 := Lib.hid (fun W (hb : Below w3.drew.heap.size w3.drew W) => rcut_s _ _ z W (HBS.out W (HB3d.out.trans (hb.mono HB3d.out.size))) HZ.out HDL.out)
 have HK : Hid (∀ W, Below w3.drew.heap.size w3.drew W → W.cell? ⟨y, 0, none⟩ = some (.slice (some ⟨R.g, 0, none⟩) n1 R.cap) ∧ W.cell? ⟨nb, 2, none⟩ = some (.slice A1 (a.nd id).data.length c1) ∧ W.cell? ⟨w.heap.size, 4, none⟩ = some (.int .i64 (z : Nat)) ∧ W.frozen? ⟨R.g, id * 4 + 2, none⟩ = false ∧ W.cell? ⟨R.g, id * 4 + 2, none⟩ = some (.slice A1 (a.nd id).data.length c1)) := Lib.hid fun W hb => by
  have hT := HR3.out.below hb
  have h1 := hT.cells.1
  rw [HNN.out] at h1
  have h2 := (HX3d.out.turn (S := fun _ => False) (Turn.of_below hb) (fun x => x)).cell 2
  have h3 := (HO3d.out.below hb).b0.cell 4
  have h4 := (hT.cel id HIB.out).2.2.1
  rw [HDV.out] at h4
  exact ⟨h1, by simpa using h2, by simpa using h3, hT.frozen _, h4⟩
 have HWS := Lib.hid hB
 refine start_ (n := 13) (S := fun w' => w'.cell? ⟨y, 0, none⟩ = some (.slice (some ⟨R.g, 0, none⟩) n1 R.cap) ∧ w'.cell? ⟨nb, 2, none⟩ = some (.slice A1 (a.nd id).data.length c1) ∧ w'.cell? ⟨w.heap.size, 4, none⟩ = some (.int .i64 (z : Nat))) (ds := [12]) (bs 13 0) (by kernel_rfl) rfl rfl ⟨(HK.out _ hB).1, (HK.out _ hB).2.1, (HK.out _ hB).2.2.1⟩ (fun hHeld => ?_)
 refine py_ 0 78 (bs 13 1) rfl rfl (by kernel_rfl) (fun _ _ _ h => h) (by rfl) (fun w' => by go_simp; with_reducible rfl) (by simp only [Act.put, sA, sZ, sS, i64_w, i32_w]; rfl) ?_
 refine py_ 1 79 (bs 13 3) rfl rfl (by kernel_rfl) (fun _ _ _ h => h) (by rfl) (fun w' => by go_simp; with_reducible rfl) (by simp only [Act.put, sA, sZ, sS, i64_w, i32_w]; rfl) ?_
 refine py_ 2 80 (bs 13 7) rfl rfl (by kernel_rfl) (fun _ _ _ h => h) (by rfl) (fun w' => by go_simp; with_reducible rfl) (by simp only [Act.put, sA, sZ, sS, i64_w, i32_w]; rfl) ?_
 refine py_ 4 82 (bs 13 23) rfl rfl (by kernel_rfl) (fun _ _ _ h => h) (by rfl) (fun w' => by go_simp; with_reducible rfl) (by simp only [Act.put, sA, sZ, sS, i64_w, i32_w]; rfl) ?_
 refine py_ 5 83 (bs 13 55) rfl rfl (by kernel_rfl) (fun _ _ _ h => h) (by rfl) (fun w' => by go_simp; with_reducible rfl) (by simp only [Act.put, sA, sZ, sS, i64_w, i32_w]; rfl) ?_
 refine py_ 7 85 (bs 13 183) rfl rfl (by kernel_rfl) (fun _ _ _ h => h) (by rfl) (fun w' => by go_simp; with_reducible rfl) (by simp only [Act.put, sA, sZ, sS, i64_w, i32_w]; rfl) ?_
 refine ty_ 3 81 (bs 13 191) rfl rfl (by kernel_rfl) (fun _ _ _ h => h) (by rfl) (by rintro w' ⟨s0, s1, s2⟩; go_simp; with_reducible rfl) hHeld (by simp only [Act.put, sA, sZ, sS, i64_w, i32_w]; rfl) ?_
 refine ty_ 6 84 (bs 13 255) rfl rfl (by kernel_rfl) (fun _ _ _ h => h) (by rfl) (by rintro w' ⟨s0, s1, s2⟩; go_simp; with_reducible rfl) hHeld (by simp only [Act.put, sA, sZ, sS, i64_w, i32_w]; rfl) ?_
 refine ty_ 8 86 (bs 13 511) rfl rfl (by kernel_rfl) (fun _ _ _ h => h) (by rfl) (by rintro w' ⟨s0, s1, s2⟩; go_simp; with_reducible rfl) hHeld (by simp only [Act.put, sA, sZ, sS, i64_w, i32_w]; rfl) ?_
 refine one_ (i := 9) (N := some 87) (bs 13 1023) rfl rfl (by kernel_rfl) (by decide) (fun K hK => ?_)
 refine goes_ Tryz.func82 (by kernel_rfl) rfl #[.slice A1 (a.nd id).data.length c1, .int .i64 (z : Nat)] (by rfl) rfl rfl (by simp only [List.map_toArray, List.map_cons, List.map_nil]; rfl) ?_
 with_reducible refine ((HSZ2.out _ hB)).mono ?_
 rintro e w5 ⟨A5, c5, rfl, hby, hown, hB3⟩
 refine ⟨_, rfl, ?_⟩
 have hB := hB.trans (hB3.mono hB.size)
 have HBY := Lib.hid hby
 have HOW := Lib.hid (fun j hj => Nat.le_trans HWS.out.size (hown j hj))
 clear hby hB3 hown
 refine hK.out _ _ ⟨(HK.out _ hB).1, (HK.out _ hB).2.1, (HK.out _ hB).2.2.1⟩ (fun hHeld => ?_)
 clear hK K
 refine norm_ (a' := ?_) ?_ ?_
 rotate_left
 ·show Act.put _ (some 87) _ = _
  simp only [Act.put, sA, sZ, sS, i64_w, i32_w]
  rfl
 refine py_ 10 88 (bs 13 2047) rfl rfl (by kernel_rfl) (fun _ _ _ h => h) (by rfl) (fun w' => by go_simp; with_reducible rfl) (by simp only [Act.put, sA, sZ, sS, i64_w, i32_w]; rfl) ?_
 refine py_ 11 89 (bs 13 4095) rfl rfl (by kernel_rfl) (fun _ _ _ h => h) (by rfl) (fun w' => by go_simp; with_reducible rfl) (by simp only [Act.put, sA, sZ, sS, i64_w, i32_w]; rfl) ?_
 refine last_ (i := 12) (N := none) (bs 13 8191) rfl rfl (by kernel_rfl) (by decide) (fun K hK => ?_)
 have hcw := (HK.out _ hB).2.2.2.2
 have hfz := (HK.out _ hB).2.2.2.1
 refine skip_ (w1 := ?_) (by rfl) rfl ?_ ?_
 rotate_left
 ·go_simp
  rfl
 refine hK.out _ _ ?_
 clear hK K
 refine done_ (by kernel_rfl) ?_
 have HRD := Lib.hid (HR3.out.redata hB HIB.out HBY.out HOW.out)
 have HOS := Lib.hid (HO3d.out.below hB)
 have hgl := HT.out.lt _ (HT.out.fo _ (.inr (.inl rfl)))
 have HO4 := Lib.hid (HOS.out.turn2 ((Turn.refl (· = R.g) w5).setCell (p := ⟨R.g, id * 4 + 2, none⟩) (fun _ => rfl) (.slice A5 z c5)) (fun e => by have e2 : w.heap.size = R.g := e; omega) (fun e => by have e2 : w.heap.size + 1 = R.g := e; omega))
 generalize w5.setCell ⟨R.g, id * 4 + 2, none⟩ (.slice A5 z c5) = w6 at *
 have vr0 := (HO4.out).b1.cf7
 have vl := (HO4.out).b1.lt
 go_wp2_with fail
 refine bodyPost_ret (v := .agg #[.int .i64 0, .int .i64 0, .slice none 0 0, .slice none 0 0, .int .i64 0, .int .i64 0, .int .i64 0]) (by simp [results, Tryz.results39, go_sem, vr0, vl]) rfl ?_
 have HTW := Lib.hid (((Turn.of_below (S := F) HB3d.out)).trans (S' := F) HRD.out.2 fun _ _ e => e)
 exact rans_fin (F' := F) (wX := w3.drew) HT.out HRD.out.1 HTW.out HB3d.out.size (fun j e => .inl e) (by omega) HO3d.out.b1.lt (fun e => by have := HFL.out _ e; omega)
theorem rone_any (o : OpT) (A : Option Addr) (n cap : Nat) (w : World) (h : RIs F w y R a) (hg : Good a c) (hc : c + 20 ≤ 100000) (hp : o.path.size ≤ 1000) :
  Calls Tryz.prog 39 #[.pointer (some ⟨y, 0, none⟩), o.val A n cap] w (RAnsPost F y (a.oneT o) w) := by
 by_cases hw : (a.walkP o.path).2 = 0
 ·obtain ⟨id, hwi⟩ : ∃ id, a.walkP o.path = (id, 0) := ⟨(a.walkP o.path).1, by rw [← hw]⟩
  have hid : (a.walkP o.path).1 = id := by rw [hwi]
  by_cases hk : o.kind = 12
  ·rw [oneT_bad (.inr (.inl hk))]
   exact rone_stat o A n cap w h hg hc hp id hwi hk
  by_cases hk2 : o.kind = 13
  ·rw [oneT_bad (.inr (.inr (.inl hk2)))]
   by_cases hd : (a.nd id).kind = 2
   ·exact rone_list o A n cap w h hg hc hp id hwi hk2 hd
   ·exact rone_file o A n cap w h hg hc hp id hwi hk2 hd
  by_cases hd : (a.nd id).kind = 2
  ·rw [oneT_bad (.inr (.inr (.inr (.inl (by rw [hid]; exact hd)))))]
   exact rone_dir o A n cap w h hg hc hp id hwi hk hk2 hd
  by_cases hn : o.n < 0
  ·rw [oneT_bad (.inr (.inr (.inr (.inr (.inl hn)))))]
   exact rone_neg o A n cap w h hg hc hp id hwi hk hk2 hd hn
  by_cases hn2 : 48640 < o.n
  ·rw [oneT_bad (.inr (.inr (.inr (.inr (.inr hn2)))))]
   exact rone_big o A n cap w h hg hc hp id hwi hk hk2 hd hn2
  have hT : a.oneT o = a.setData id (sizeL (a.nd id).data o.n.toNat) := by
   unfold TS.oneT
   rw [hid, if_neg]
   rintro (e | e | e | e | e | e)
   ·exact e hw
   ·exact hk e
   ·exact hk2 e
   ·exact hd e
   ·omega
   ·omega
  rw [hT]
  exact rone_cut o A n cap w h hg hc hp id hwi hk hk2 hd (by omega) (by omega)
 ·rw [oneT_bad (.inl hw)]
  exact rone_err o A n cap w h hg hc hp hw
end
end Go.Proofs.YtpkhglfhpggceaaGreatDoor
namespace Go.Proofs.YtpkhglfhpggceaaGreatDoor
set_option maxRecDepth 100000
set_option maxHeartbeats 16000000
open Go.RowKit Go.Proofs.YtpkhglfhpggceaaGreatDoorW.PrintLast
set_option linter.unusedVariables false
set_option linter.unusedSimpArgs false
section
variable {F : Nat → Prop} {w w' : World} {y c : Nat} {R : RMem} {a : TS}
theorem set99 {W : World} {b : Nat} {cs : Value × Value × Value} (h : Blk W b 99 #[cs.1, cs.2.1, cs.2.2]) (v0 v1 v2 : Value) :
  Blk (((W.setCell ⟨b, 0, none⟩ v0).setCell ⟨b, 1, none⟩ v1).setCell ⟨b, 2, none⟩ v2) b 99 #[v0, v1, v2] ∧ Turn (· = b) W (((W.setCell ⟨b, 0, none⟩ v0).setCell ⟨b, 1, none⟩ v1).setCell ⟨b, 2, none⟩ v2) :=
 ⟨((h.set_ 0 v0).set_ 1 v1).set_ 2 v2, (((Turn.refl (· = b) W).setCell (p := ⟨b, 0, none⟩) (fun _ => rfl) v0).setCell (p := ⟨b, 1, none⟩) (fun _ => rfl) v1).setCell (p := ⟨b, 2, none⟩) (fun _ => rfl) v2⟩
theorem rfd_none (o : OpT) (A : Option Addr) (cap : Nat) (w : World) (h : RIs F w y R a) (hf : lookO a.op o.fd = none) :
  Calls Tryz.prog 35 #[.pointer (some ⟨y, 0, none⟩), o.val A o.data.length cap] w (RAnsPost F y (a.heldT o) w) := by
 unfold OpT.val
 have HT := Lib.hid h
 have HH := Lib.hid (fun W (hb : Below w.heap.size w W) => h.below hb)
 have HGT := Lib.hid (fun W (h : RIs F W y R a) => show Calls Tryz.prog 78 #[.pointer (some ⟨R.fb, 0, none⟩), .int .i64 o.fd] W (fun e w' => e = .returned (.tuple #[.agg #[.int .i64 0, .int .i64 0, .int .i64 0], .int .i64 46]) ∧ Below W.heap.size W w') from by have := rtget_any o.fd W h; rw [hf] at this; exact this)
 have HR := Lib.hid (show a.heldT o = a by unfold TS.heldT; rw [hf])
 clear h hf
 go_enter Tryz.func35, Tryz.ntmps35
 go_upto_region 1 with (fail)
 have HO := Lib.hid (OO.start w (oc o A o.data.length cap))
 have HB := Lib.hid (below_00 w (.cells (oc o A o.data.length cap) 36) (.cells zero7 33))
 have HFL0 : Hid (∀ j, F j → j < w.heap.size) := Lib.hid fun j e => HT.out.lt j e
 generalize (w.alloc (.cells (oc o A o.data.length cap) 36)).alloc (.cells zero7 33) = w1 at *
 have HT1 := Lib.hid (HH.out _ HB.out)
 have HC3 : Hid (∀ W, OO W w.heap.size (oc o A o.data.length cap) → W.cell? ⟨w.heap.size, 3, none⟩ = some (.int .i64 o.fd)) := Lib.hid fun W hO => by have := hO.b0.cell 3; simpa using this
 have hO := HO.out.drew
 have hT := HT1.out.drew
 have hB : Below w.heap.size w w1.drew := HB.out.trans drew_below'
 refine start_ (n := 13) (S := fun w' => w'.cell? ⟨y, 1, none⟩ = some (.pointer (some ⟨R.fb, 0, none⟩)) ∧ w'.cell? ⟨w.heap.size, 3, none⟩ = some (.int .i64 o.fd)) (ds := []) (bs 13 0) (by kernel_rfl) rfl rfl ⟨hT.cells.2, (HC3.out _ hO)⟩ (fun hHeld => ?_)
 refine py_ 0 14 (bs 13 1) rfl rfl (by kernel_rfl) (fun _ _ _ h => h) (by rfl) (fun w' => by go_simp; with_reducible rfl) (by simp only [Act.put, sA, sZ, sS, i64_w, i32_w]; rfl) ?_
 refine py_ 1 15 (bs 13 3) rfl rfl (by kernel_rfl) (fun _ _ _ h => h) (by rfl) (fun w' => by go_simp; with_reducible rfl) (by simp only [Act.put, sA, sZ, sS, i64_w, i32_w]; rfl) ?_
 refine py_ 2 16 (bs 13 7) rfl rfl (by kernel_rfl) (fun _ _ _ h => h) (by rfl) (fun w' => by go_simp; with_reducible rfl) (by simp only [Act.put, sA, sZ, sS, i64_w, i32_w]; rfl) ?_
 refine py_ 4 18 (bs 13 23) rfl rfl (by kernel_rfl) (fun _ _ _ h => h) (by rfl) (fun w' => by go_simp; with_reducible rfl) (by simp only [Act.put, sA, sZ, sS, i64_w, i32_w]; rfl) ?_
 refine ty_ 3 17 (bs 13 31) rfl rfl (by kernel_rfl) (fun _ _ _ h => h) (by rfl) (by rintro w' ⟨s0, s1⟩; go_simp; with_reducible rfl) hHeld (by simp only [Act.put, sA, sZ, sS, i64_w, i32_w]; rfl) ?_
 refine ty_ 5 19 (bs 13 63) rfl rfl (by kernel_rfl) (fun _ _ _ h => h) (by rfl) (by rintro w' ⟨s0, s1⟩; go_simp; with_reducible rfl) hHeld (by simp only [Act.put, sA, sZ, sS, i64_w, i32_w]; rfl) ?_
 refine join_ (σ := Nat) 2 (bs 13 2047) (fun s => [(20, Value.tuple #[.agg #[.int .i64 0, .int .i64 0, .int .i64 0], .int .i64 46]), (13, Value.tuple #[.agg #[.int .i64 0, .int .i64 0, .int .i64 0], .int .i64 46]), (21, Value.agg #[.int .i64 0, .int .i64 0, .int .i64 0]), (22, Value.int .i64 46), (5, Value.pointer (some ⟨s, 0, none⟩))]) (fun s w' => RIs F w' y R a ∧ OO w' w.heap.size (oc o A o.data.length cap) ∧ Below w.heap.size w w' ∧ Blk w' s 99 #[.int .i64 0, .int .i64 0, .int .i64 0] ∧ w.heap.size + 1 < s) ?_ ?_
 rotate_left
 ·intro hCont
  refine two_ (i := 6) (j := 10) (Ni := some 20) (Nj := some 5) (bs 13 127) (bs 13 1087) rfl rfl rfl rfl (by kernel_rfl) (by decide) (by decide) (fun K hK => ?_) (fun K hK => ?_)
  ·skip
   refine goes_ Tryz.func78 (by kernel_rfl) rfl #[.pointer (some ⟨R.fb, 0, none⟩), .int .i64 o.fd] (by rfl) rfl rfl (by simp only [List.map_toArray, List.map_cons, List.map_nil]; rfl) ?_
   with_reducible refine ((HGT.out _ hT)).mono ?_
   rintro e w3 ⟨rfl, hb3⟩
   refine ⟨_, rfl, ?_⟩
   have hT := hT.below hb3
   have hO := hO.below hb3
   have hB := hB.trans (hb3.mono hB.size)
   clear hb3
   refine hK.out _ _ ⟨hT.cells.2, (HC3.out _ hO)⟩ (fun hHeld => ?_)
   clear hK K
   refine norm_ (a' := ?_) ?_ ?_
   rotate_left
   ·show Act.put _ (some 20) _ = _
    simp only [Act.put, sA, sZ, sS, i64_w, i32_w]
    rfl
   refine py_ 7 13 (bs 13 255) rfl rfl (by kernel_rfl) (fun _ _ _ h => h) (by rfl) (fun w' => by go_simp; with_reducible rfl) (by simp only [Act.put, sA, sZ, sS, i64_w, i32_w]; rfl) ?_
   refine py_ 8 21 (bs 13 511) rfl rfl (by kernel_rfl) (fun _ _ _ h => h) (by rfl) (fun w' => by go_simp; with_reducible rfl) (by simp only [Act.put, sA, sZ, sS, i64_w, i32_w]; rfl) ?_
   refine py_ 9 22 (bs 13 1023) rfl rfl (by kernel_rfl) (fun _ _ _ h => h) (by rfl) (fun w' => by go_simp; with_reducible rfl) (by simp only [Act.put, sA, sZ, sS, i64_w, i32_w]; rfl) ?_
   refine one_ (i := 10) (N := some 5) (bs 13 2047) rfl rfl (by kernel_rfl) (by decide) (fun K hK => ?_)
   refine value_ (w1 := ?_) (v := ?_) (by rfl) rfl ?_ ?_
   rotate_left 2
   ·go_simp
    constructor
    ·rfl
    ·rfl
   have hX := Blk.new w3 99 #[.int .i64 0, .int .i64 0, .int .i64 0]
   have hs : w.heap.size + 1 < w3.heap.size := hO.b1.lt
   have hT := hT.below ((Below.refl _ _).alloc (Nat.le_refl _) (.cells #[.int .i64 0, .int .i64 0, .int .i64 0] 99))
   have hO := hO.alloc (.cells #[.int .i64 0, .int .i64 0, .int .i64 0] 99)
   have hB := hB.alloc hB.size (.cells #[.int .i64 0, .int .i64 0, .int .i64 0] 99)
   refine hK.out _ _ ⟨hT.cells.2, (HC3.out _ hO)⟩ (fun hHeld => ?_)
   clear hK K
   refine norm_ (a' := ?_) ?_ ?_
   rotate_left
   ·show Act.put _ (some 5) _ = _
    simp only [Act.put, sA, sZ, sS, i64_w, i32_w]
    rfl
   exact norm_ (by simp only [putAll, Act.put, sA, sZ, sS]) (hCont w3.heap.size _ ⟨hT, hO, hB, hX, hs⟩)
  ·skip
   refine value_ (w1 := ?_) (v := ?_) (by rfl) rfl ?_ ?_
   rotate_left 2
   ·go_simp
    constructor
    ·rfl
    ·rfl
   have hX := (Blk.new w1 99 #[.int .i64 0, .int .i64 0, .int .i64 0]).drew
   have hs : w.heap.size + 1 < w1.heap.size := HO.out.b1.lt
   have hT := (HT1.out.below ((Below.refl _ _).alloc (Nat.le_refl _) (.cells #[.int .i64 0, .int .i64 0, .int .i64 0] 99))).drew
   have hO := (HO.out.alloc (.cells #[.int .i64 0, .int .i64 0, .int .i64 0] 99)).drew
   have hB : Below w.heap.size w (w1.alloc (.cells #[.int .i64 0, .int .i64 0, .int .i64 0] 99)).drew := (HB.out.alloc HB.out.size (.cells #[.int .i64 0, .int .i64 0, .int .i64 0] 99)).trans drew_below'
   refine hK.out _ _ ⟨hT.cells.2, (HC3.out _ hO)⟩ (fun hHeld => ?_)
   clear hK K
   refine norm_ (a' := ?_) ?_ ?_
   rotate_left
   ·show Act.put _ (some 5) _ = _
    simp only [Act.put, sA, sZ, sS, i64_w, i32_w]
    rfl
   refine one_ (i := 6) (N := some 20) (bs 13 1151) rfl rfl (by kernel_rfl) (by decide) (fun K hK => ?_)
   refine goes_ Tryz.func78 (by kernel_rfl) rfl #[.pointer (some ⟨R.fb, 0, none⟩), .int .i64 o.fd] (by rfl) rfl rfl (by simp only [List.map_toArray, List.map_cons, List.map_nil]; rfl) ?_
   with_reducible refine ((HGT.out _ hT)).mono ?_
   rintro e w3 ⟨rfl, hb3⟩
   refine ⟨_, rfl, ?_⟩
   have hT := hT.below hb3
   have hO := hO.below hb3
   have hX := hX.below hb3 hX.lt
   have hB := hB.trans (hb3.mono hB.size)
   clear hb3
   refine hK.out _ _ ⟨hT.cells.2, (HC3.out _ hO)⟩ (fun hHeld => ?_)
   clear hK K
   refine norm_ (a' := ?_) ?_ ?_
   rotate_left
   ·show Act.put _ (some 20) _ = _
    simp only [Act.put, sA, sZ, sS, i64_w, i32_w]
    rfl
   refine py_ 7 13 (bs 13 1279) rfl rfl (by kernel_rfl) (fun _ _ _ h => h) (by rfl) (fun w' => by go_simp; with_reducible rfl) (by simp only [Act.put, sA, sZ, sS, i64_w, i32_w]; rfl) ?_
   refine py_ 8 21 (bs 13 1535) rfl rfl (by kernel_rfl) (fun _ _ _ h => h) (by rfl) (fun w' => by go_simp; with_reducible rfl) (by simp only [Act.put, sA, sZ, sS, i64_w, i32_w]; rfl) ?_
   refine py_ 9 22 (bs 13 2047) rfl rfl (by kernel_rfl) (fun _ _ _ h => h) (by rfl) (fun w' => by go_simp; with_reducible rfl) (by simp only [Act.put, sA, sZ, sS, i64_w, i32_w]; rfl) ?_
   exact norm_ (by simp only [putAll, Act.put, sA, sZ, sS]) (hCont w1.heap.size _ ⟨hT, hO, hB, hX, hs⟩)
 rintro s w3 ⟨hT, hO, hB, hX, hs⟩
 have hHeld := And.intro hT.cells.2 (HC3.out _ hO)
 refine norm_ (a' := ?_) ?_ ?_
 rotate_left
 ·simp only [putAll, Act.put, sA, sZ, sS]
  rfl
 refine one_ (i := 11) (N := none) (bs 13 4095) rfl rfl (by kernel_rfl) (by decide) (fun K hK => ?_)
 have x0 := hX.cell 0
 have x1 := hX.cell 1
 have x2 := hX.cell 2
 have q0 := hX.frozen 0
 have q1 := hX.frozen 1
 have q2 := hX.frozen 2
 simp at x0 x1 x2
 refine skip_ (w1 := ?_) (by rfl) rfl ?_ ?_
 rotate_left
 ·go_simp
  rfl
 have hTs := set99 (cs := (.int .i64 0, .int .i64 0, .int .i64 0)) hX (.int .i64 0) (.int .i64 0) (.int .i64 0)
 have hX := hTs.1
 have hT := hT.turn hTs.2 (fun j hj e => by have := HFL0.out j hj; have e2 : j = s := e; omega)
 have hO := hO.turn2 hTs.2 (fun e => by have e2 : w.heap.size = s := e; omega) (fun e => by have e2 : w.heap.size + 1 = s := e; omega)
 have hB := set116b hB (b := s) (by omega) (.int .i64 0) (.int .i64 0) (.int .i64 0)
 clear x0 x1 x2 q0 q1 q2 hTs
 refine hK.out _ _ ⟨hT.cells.2, (HC3.out _ hO)⟩ (fun hHeld => ?_)
 clear hK K
 refine py_ 12 6 (bs 13 8191) rfl rfl (by kernel_rfl) (fun _ _ _ h => h) (by rfl) (fun w' => by go_simp; with_reducible rfl) (by simp only [Act.put, sA, sZ, sS, i64_w, i32_w]; rfl) ?_
 refine done_ (by kernel_rfl) ?_
 have HO4 := Lib.hid hO
 have HX4 := Lib.hid hX
 have HB4 := Lib.hid hB
 have HXL := Lib.hid hs
 clear hO hX hB hT hHeld hs
 generalize ((w3.setCell ⟨s, 0, none⟩ (.int .i64 0)).setCell ⟨s, 1, none⟩ (.int .i64 0)).setCell ⟨s, 2, none⟩ (.int .i64 0) = w4 at *
 have HT4 := Lib.hid (HH.out _ HB4.out)
 have ua0 := (HO4.out).b0.c8
 have ur0 := (HO4.out).b1.cf7
 have ul := (HO4.out).b1.lt
 go_wp2_with fail
 refine (failed_any _ _).mono ?_
 rintro e w5 ⟨rfl, hb5⟩
 have HOF := Lib.hid (HO4.out.below hb5)
 have HBF := Lib.hid (HB4.out.trans (hb5.mono HB4.out.size))
 clear hb5
 have vr0 := (HOF.out).b1.cf7
 have vl := (HOF.out).b1.lt
 go_wp2_with fail
 refine bodyPost_ret (v := .agg #[.int .i64 46, .int .i64 0, .slice none 0 0, .slice none 0 0, .int .i64 0, .int .i64 0, .int .i64 0]) (by simp [results, Tryz.results35, go_sem, vr0, vl]) rfl ?_
 rw [HR.out]
 exact rans_same HT.out (ans_set HBF.out (by omega) _ _ _ _ _ _ _)
theorem rfd_rest (o : OpT) (A : Option Addr) (cap k p : Nat) (mode : Int) (w : World) (h : RIs F w y R a) (hg : Good a c) (hc : c + 20 ≤ 100000) (hk : (a.nd k).kind = 1) (hm : 1 ≤ mode ∧ mode ≤ 3) (hp : p ≤ 48640) (hf : lookO a.op o.fd = some ((k : Int), (p : Int), mode)) (hk3 : o.kind ≠ 3) (hk4 : o.kind ≠ 4) :
  Calls Tryz.prog 35 #[.pointer (some ⟨y, 0, none⟩), o.val A o.data.length cap] w (RAnsPost F y (a.heldT o) w) := by
 unfold OpT.val
 have HT := Lib.hid h
 have HH := Lib.hid (fun W (hb : Below w.heap.size w W) => h.below hb)
 have HGT := Lib.hid (fun W (h : RIs F W y R a) => show Calls Tryz.prog 78 #[.pointer (some ⟨R.fb, 0, none⟩), .int .i64 o.fd] W (fun e w' => e = .returned (.tuple #[.agg #[.int .i64 (k : Nat), .int .i64 (p : Nat), .int .i64 mode], .int .i64 0]) ∧ Below W.heap.size W w') from by have := rtget_any o.fd W h; rw [hf] at this; exact this)
 have HF := Lib.hid hf
 have HFL : Hid (∀ j, F j → j < w.heap.size) := Lib.hid fun j e => h.lt j e
 have HSV := Lib.hid (And.intro h (And.intro hg (And.intro hk (And.intro hm (And.intro hf (And.intro hk3 hk4))))))
 clear h hg hk hm hf hk3 hk4
 go_enter Tryz.func35, Tryz.ntmps35
 go_upto_region 1 with (fail)
 have HO := Lib.hid (OO.start w (oc o A o.data.length cap))
 have HB := Lib.hid (below_00 w (.cells (oc o A o.data.length cap) 36) (.cells zero7 33))
 have HFL0 : Hid (∀ j, F j → j < w.heap.size) := Lib.hid fun j e => HT.out.lt j e
 generalize (w.alloc (.cells (oc o A o.data.length cap) 36)).alloc (.cells zero7 33) = w1 at *
 have HT1 := Lib.hid (HH.out _ HB.out)
 have HC3 : Hid (∀ W, OO W w.heap.size (oc o A o.data.length cap) → W.cell? ⟨w.heap.size, 3, none⟩ = some (.int .i64 o.fd)) := Lib.hid fun W hO => by have := hO.b0.cell 3; simpa using this
 have hO := HO.out.drew
 have hT := HT1.out.drew
 have hB : Below w.heap.size w w1.drew := HB.out.trans drew_below'
 refine start_ (n := 13) (S := fun w' => w'.cell? ⟨y, 1, none⟩ = some (.pointer (some ⟨R.fb, 0, none⟩)) ∧ w'.cell? ⟨w.heap.size, 3, none⟩ = some (.int .i64 o.fd)) (ds := []) (bs 13 0) (by kernel_rfl) rfl rfl ⟨hT.cells.2, (HC3.out _ hO)⟩ (fun hHeld => ?_)
 refine py_ 0 14 (bs 13 1) rfl rfl (by kernel_rfl) (fun _ _ _ h => h) (by rfl) (fun w' => by go_simp; with_reducible rfl) (by simp only [Act.put, sA, sZ, sS, i64_w, i32_w]; rfl) ?_
 refine py_ 1 15 (bs 13 3) rfl rfl (by kernel_rfl) (fun _ _ _ h => h) (by rfl) (fun w' => by go_simp; with_reducible rfl) (by simp only [Act.put, sA, sZ, sS, i64_w, i32_w]; rfl) ?_
 refine py_ 2 16 (bs 13 7) rfl rfl (by kernel_rfl) (fun _ _ _ h => h) (by rfl) (fun w' => by go_simp; with_reducible rfl) (by simp only [Act.put, sA, sZ, sS, i64_w, i32_w]; rfl) ?_
 refine py_ 4 18 (bs 13 23) rfl rfl (by kernel_rfl) (fun _ _ _ h => h) (by rfl) (fun w' => by go_simp; with_reducible rfl) (by simp only [Act.put, sA, sZ, sS, i64_w, i32_w]; rfl) ?_
 refine ty_ 3 17 (bs 13 31) rfl rfl (by kernel_rfl) (fun _ _ _ h => h) (by rfl) (by rintro w' ⟨s0, s1⟩; go_simp; with_reducible rfl) hHeld (by simp only [Act.put, sA, sZ, sS, i64_w, i32_w]; rfl) ?_
 refine ty_ 5 19 (bs 13 63) rfl rfl (by kernel_rfl) (fun _ _ _ h => h) (by rfl) (by rintro w' ⟨s0, s1⟩; go_simp; with_reducible rfl) hHeld (by simp only [Act.put, sA, sZ, sS, i64_w, i32_w]; rfl) ?_
 refine join_ (σ := Nat) 2 (bs 13 2047) (fun s => [(20, Value.tuple #[.agg #[.int .i64 (k : Nat), .int .i64 (p : Nat), .int .i64 mode], .int .i64 0]), (13, Value.tuple #[.agg #[.int .i64 (k : Nat), .int .i64 (p : Nat), .int .i64 mode], .int .i64 0]), (21, Value.agg #[.int .i64 (k : Nat), .int .i64 (p : Nat), .int .i64 mode]), (22, Value.int .i64 0), (5, Value.pointer (some ⟨s, 0, none⟩))]) (fun s w' => RIs F w' y R a ∧ OO w' w.heap.size (oc o A o.data.length cap) ∧ Below w.heap.size w w' ∧ Blk w' s 99 #[.int .i64 0, .int .i64 0, .int .i64 0] ∧ w.heap.size + 1 < s) ?_ ?_
 rotate_left
 ·intro hCont
  refine two_ (i := 6) (j := 10) (Ni := some 20) (Nj := some 5) (bs 13 127) (bs 13 1087) rfl rfl rfl rfl (by kernel_rfl) (by decide) (by decide) (fun K hK => ?_) (fun K hK => ?_)
  ·skip
   refine goes_ Tryz.func78 (by kernel_rfl) rfl #[.pointer (some ⟨R.fb, 0, none⟩), .int .i64 o.fd] (by rfl) rfl rfl (by simp only [List.map_toArray, List.map_cons, List.map_nil]; rfl) ?_
   with_reducible refine ((HGT.out _ hT)).mono ?_
   rintro e w3 ⟨rfl, hb3⟩
   refine ⟨_, rfl, ?_⟩
   have hT := hT.below hb3
   have hO := hO.below hb3
   have hB := hB.trans (hb3.mono hB.size)
   clear hb3
   refine hK.out _ _ ⟨hT.cells.2, (HC3.out _ hO)⟩ (fun hHeld => ?_)
   clear hK K
   refine norm_ (a' := ?_) ?_ ?_
   rotate_left
   ·show Act.put _ (some 20) _ = _
    simp only [Act.put, sA, sZ, sS, i64_w, i32_w]
    rfl
   refine py_ 7 13 (bs 13 255) rfl rfl (by kernel_rfl) (fun _ _ _ h => h) (by rfl) (fun w' => by go_simp; with_reducible rfl) (by simp only [Act.put, sA, sZ, sS, i64_w, i32_w]; rfl) ?_
   refine py_ 8 21 (bs 13 511) rfl rfl (by kernel_rfl) (fun _ _ _ h => h) (by rfl) (fun w' => by go_simp; with_reducible rfl) (by simp only [Act.put, sA, sZ, sS, i64_w, i32_w]; rfl) ?_
   refine py_ 9 22 (bs 13 1023) rfl rfl (by kernel_rfl) (fun _ _ _ h => h) (by rfl) (fun w' => by go_simp; with_reducible rfl) (by simp only [Act.put, sA, sZ, sS, i64_w, i32_w]; rfl) ?_
   refine one_ (i := 10) (N := some 5) (bs 13 2047) rfl rfl (by kernel_rfl) (by decide) (fun K hK => ?_)
   refine value_ (w1 := ?_) (v := ?_) (by rfl) rfl ?_ ?_
   rotate_left 2
   ·go_simp
    constructor
    ·rfl
    ·rfl
   have hX := Blk.new w3 99 #[.int .i64 0, .int .i64 0, .int .i64 0]
   have hs : w.heap.size + 1 < w3.heap.size := hO.b1.lt
   have hT := hT.below ((Below.refl _ _).alloc (Nat.le_refl _) (.cells #[.int .i64 0, .int .i64 0, .int .i64 0] 99))
   have hO := hO.alloc (.cells #[.int .i64 0, .int .i64 0, .int .i64 0] 99)
   have hB := hB.alloc hB.size (.cells #[.int .i64 0, .int .i64 0, .int .i64 0] 99)
   refine hK.out _ _ ⟨hT.cells.2, (HC3.out _ hO)⟩ (fun hHeld => ?_)
   clear hK K
   refine norm_ (a' := ?_) ?_ ?_
   rotate_left
   ·show Act.put _ (some 5) _ = _
    simp only [Act.put, sA, sZ, sS, i64_w, i32_w]
    rfl
   exact norm_ (by simp only [putAll, Act.put, sA, sZ, sS]) (hCont w3.heap.size _ ⟨hT, hO, hB, hX, hs⟩)
  ·skip
   refine value_ (w1 := ?_) (v := ?_) (by rfl) rfl ?_ ?_
   rotate_left 2
   ·go_simp
    constructor
    ·rfl
    ·rfl
   have hX := (Blk.new w1 99 #[.int .i64 0, .int .i64 0, .int .i64 0]).drew
   have hs : w.heap.size + 1 < w1.heap.size := HO.out.b1.lt
   have hT := (HT1.out.below ((Below.refl _ _).alloc (Nat.le_refl _) (.cells #[.int .i64 0, .int .i64 0, .int .i64 0] 99))).drew
   have hO := (HO.out.alloc (.cells #[.int .i64 0, .int .i64 0, .int .i64 0] 99)).drew
   have hB : Below w.heap.size w (w1.alloc (.cells #[.int .i64 0, .int .i64 0, .int .i64 0] 99)).drew := (HB.out.alloc HB.out.size (.cells #[.int .i64 0, .int .i64 0, .int .i64 0] 99)).trans drew_below'
   refine hK.out _ _ ⟨hT.cells.2, (HC3.out _ hO)⟩ (fun hHeld => ?_)
   clear hK K
   refine norm_ (a' := ?_) ?_ ?_
   rotate_left
   ·show Act.put _ (some 5) _ = _
    simp only [Act.put, sA, sZ, sS, i64_w, i32_w]
    rfl
   refine one_ (i := 6) (N := some 20) (bs 13 1151) rfl rfl (by kernel_rfl) (by decide) (fun K hK => ?_)
   refine goes_ Tryz.func78 (by kernel_rfl) rfl #[.pointer (some ⟨R.fb, 0, none⟩), .int .i64 o.fd] (by rfl) rfl rfl (by simp only [List.map_toArray, List.map_cons, List.map_nil]; rfl) ?_
   with_reducible refine ((HGT.out _ hT)).mono ?_
   rintro e w3 ⟨rfl, hb3⟩
   refine ⟨_, rfl, ?_⟩
   have hT := hT.below hb3
   have hO := hO.below hb3
   have hX := hX.below hb3 hX.lt
   have hB := hB.trans (hb3.mono hB.size)
   clear hb3
   refine hK.out _ _ ⟨hT.cells.2, (HC3.out _ hO)⟩ (fun hHeld => ?_)
   clear hK K
   refine norm_ (a' := ?_) ?_ ?_
   rotate_left
   ·show Act.put _ (some 20) _ = _
    simp only [Act.put, sA, sZ, sS, i64_w, i32_w]
    rfl
   refine py_ 7 13 (bs 13 1279) rfl rfl (by kernel_rfl) (fun _ _ _ h => h) (by rfl) (fun w' => by go_simp; with_reducible rfl) (by simp only [Act.put, sA, sZ, sS, i64_w, i32_w]; rfl) ?_
   refine py_ 8 21 (bs 13 1535) rfl rfl (by kernel_rfl) (fun _ _ _ h => h) (by rfl) (fun w' => by go_simp; with_reducible rfl) (by simp only [Act.put, sA, sZ, sS, i64_w, i32_w]; rfl) ?_
   refine py_ 9 22 (bs 13 2047) rfl rfl (by kernel_rfl) (fun _ _ _ h => h) (by rfl) (fun w' => by go_simp; with_reducible rfl) (by simp only [Act.put, sA, sZ, sS, i64_w, i32_w]; rfl) ?_
   exact norm_ (by simp only [putAll, Act.put, sA, sZ, sS]) (hCont w1.heap.size _ ⟨hT, hO, hB, hX, hs⟩)
 rintro s w3 ⟨hT, hO, hB, hX, hs⟩
 have hHeld := And.intro hT.cells.2 (HC3.out _ hO)
 refine norm_ (a' := ?_) ?_ ?_
 rotate_left
 ·simp only [putAll, Act.put, sA, sZ, sS]
  rfl
 refine one_ (i := 11) (N := none) (bs 13 4095) rfl rfl (by kernel_rfl) (by decide) (fun K hK => ?_)
 have x0 := hX.cell 0
 have x1 := hX.cell 1
 have x2 := hX.cell 2
 have q0 := hX.frozen 0
 have q1 := hX.frozen 1
 have q2 := hX.frozen 2
 simp at x0 x1 x2
 refine skip_ (w1 := ?_) (by rfl) rfl ?_ ?_
 rotate_left
 ·go_simp
  rfl
 have hTs := set99 (cs := (.int .i64 0, .int .i64 0, .int .i64 0)) hX (.int .i64 (k : Nat)) (.int .i64 (p : Nat)) (.int .i64 mode)
 have hX := hTs.1
 have hT := hT.turn hTs.2 (fun j hj e => by have := HFL0.out j hj; have e2 : j = s := e; omega)
 have hO := hO.turn2 hTs.2 (fun e => by have e2 : w.heap.size = s := e; omega) (fun e => by have e2 : w.heap.size + 1 = s := e; omega)
 have hB := set116b hB (b := s) (by omega) (.int .i64 (k : Nat)) (.int .i64 (p : Nat)) (.int .i64 mode)
 clear x0 x1 x2 q0 q1 q2 hTs
 refine hK.out _ _ ⟨hT.cells.2, (HC3.out _ hO)⟩ (fun hHeld => ?_)
 clear hK K
 refine py_ 12 6 (bs 13 8191) rfl rfl (by kernel_rfl) (fun _ _ _ h => h) (by rfl) (fun w' => by go_simp; with_reducible rfl) (by simp only [Act.put, sA, sZ, sS, i64_w, i32_w]; rfl) ?_
 refine done_ (by kernel_rfl) ?_
 have HO4 := Lib.hid hO
 have HX4 := Lib.hid hX
 have HB4 := Lib.hid hB
 have HXL := Lib.hid hs
 clear hO hX hB hT hHeld hs
 generalize ((w3.setCell ⟨s, 0, none⟩ (.int .i64 (k : Nat))).setCell ⟨s, 1, none⟩ (.int .i64 (p : Nat))).setCell ⟨s, 2, none⟩ (.int .i64 mode) = w4 at *
 have HT4 := Lib.hid (HH.out _ HB4.out)
 obtain ⟨h, hg, hk, hm, hf, hk3, hk4⟩ := HSV.out
 by_cases hk2 : o.kind = 2
 ·have hkd := hk2
  clear hk2 hk3 hk4
  have hlive : (a.nd k).kind ≠ 0 := by rw [hk]; decide
  have hlast := (hg.in_last hlive).2
  have hfew := hg.few
  have hdl := hg.data k
  have HR := Lib.hid (show a.heldT o = (a.setOp o.fd.toNat none).gone k by unfold TS.heldT; rw [hf]; simp [hkd])
  have HLV := Lib.hid (fun W R' (h : RIs F W y R' (a.setOp o.fd.toNat none)) => rgone_any k W h hlast (by show a.last ≤ 1000000; omega))
  clear h hg hk hm hf hlive hlast hfew hdl
  have e2 := kt 2 hkd rfl
  have e3 := kf 3 hkd rfl
  have e4 := kf 4 hkd rfl
  have e5 := kf 5 hkd rfl
  clear hkd
  have ua0 := (HO4.out).b0.c8
  have ur0 := (HO4.out).b1.cf7
  have ul := (HO4.out).b1.lt
  have ux0 := HX4.out.c3
  go_upto_region 6 with (fail)
  clear ua0 ur0 ul ux0
  have HOE := Lib.hid HO4.out.drew
  have HTE := Lib.hid HT4.out.drew
  have vt2 := HTE.out.cells.2
  have va3 := HOE.out.b0.cell 3
  simp at va3
  have hS0 := And.intro vt2 va3
  have HV := Lib.hid vt2
  clear vt2 va3
  go_region_held3 (fun W => W.cell? ⟨y, 1, none⟩ = some (.pointer (some ⟨R.fb, 0, none⟩)) ∧ W.cell? ⟨w.heap.size, 3, none⟩ = some (.int .i64 o.fd))
   (first | exact hS0 | exact hS1)
   (first
    | (go_at_call 79
       refine (rtclose_any o.fd ((k : Int), (p : Int), mode) _ HTE.out HF.out).mono ?_
       rintro e w8 ⟨rfl, R', hT8, hTu8, hbt⟩
       have HO8 := Lib.hid (HOE.out.turn2 hTu8 (fun e => by have := HFL.out _ e; omega) (fun e => by have := HFL.out _ e; omega))
       have va3 := HO8.out.b0.cell 3
       simp at va3
       have hS1 := And.intro ((World.cell?_of_block (a := ⟨y, 1, none⟩) hbt).trans HV.out) va3
       have HT8 := Lib.hid hT8
       have HTu8 := Lib.hid hTu8
       clear hT8 hTu8 hbt va3))
  clear hS0 hS1
  have HX8 := Lib.hid (HX4.out.drew.turn HTu8.out (fun e => by
   have := HFL.out _ e
   have := HXL.out
   omega))
  have vx0 := HX8.out.cell 0
  simp at vx0
  go_wp2_with fail
  refine (HLV.out _ _ HT8.out).mono ?_
  rintro e w9 ⟨rfl, hs9, hTu9⟩
  clear vx0
  have HO9 := Lib.hid (HO8.out.turn2 hTu9 (fun e => by have := HFL.out _ e; omega) (fun e => by have := HFL.out _ e; omega))
  have HS9 := Lib.hid hs9
  have HTu9 := Lib.hid hTu9
  have HL8 := Lib.hid HO8.out.b1.lt
  clear hs9 hTu9
  obtain ⟨va0, va1, va2, va3, va4, va5, va6, va7⟩ := (HO9.out).b0.c8
  have vr0 := (HO9.out).b1.cf7
  have vl := (HO9.out).b1.lt
  go_wp2_with fail
  refine bodyPost_ret (v := .agg #[.int .i64 0, .int .i64 0, .slice none 0 0, .slice none 0 0, .int .i64 0, .int .i64 0, .int .i64 0]) (by simp [results, Tryz.results35, go_sem, vr0, vl]) rfl ?_
  rw [HR.out]
  have hW : Turn F w w8 := ((Turn.of_below (S := F) HB4.out).drew).trans (S' := F) HTu8.out fun _ _ e => e
  exact rans_fin (F' := F) (wX := w8) HT.out HS9.out (hW.trans (S' := F) HTu9.out fun _ _ e => e) hW.size (fun j e => .inl e) (by omega) HL8.out (fun e => by have := HFL.out _ e; omega)
 by_cases hk5 : o.kind = 5
 ·have hkd := hk5
  clear hk5 hk4 hk3 hk2
  by_cases ho : o.off < 0 ∨ 48640 < o.off
  ·skip
   have hlive : (a.nd k).kind ≠ 0 := by rw [hk]; decide
   have hlast := (hg.in_last hlive).2
   have hfew := hg.few
   have hdl := hg.data k
   have HR := Lib.hid (show a.heldT o = a by unfold TS.heldT; rw [hf]; simp [hkd]; intro h1; omega)
   clear h hg hk hm hf hlive hlast hfew hdl
   have e2 := kf 2 hkd rfl
   have e3 := kf 3 hkd rfl
   have e4 := kf 4 hkd rfl
   have e5 := kt 5 hkd rfl
   clear hkd
   rcases ho with ho | ho
   ·skip
    have ua0 := (HO4.out).b0.c8
    have ur0 := (HO4.out).b1.cf7
    have ul := (HO4.out).b1.lt
    have ux0 := HX4.out.c3
    go_wp2_with fail
    refine (failed_any _ _).mono ?_
    rintro e w5 ⟨rfl, hb5⟩
    have HOF := Lib.hid (HO4.out.below hb5)
    have HBF := Lib.hid (HB4.out.trans (hb5.mono HB4.out.size))
    clear hb5
    have vr0 := (HOF.out).b1.cf7
    have vl := (HOF.out).b1.lt
    go_wp2_with fail
    refine bodyPost_ret (v := .agg #[.int .i64 2, .int .i64 0, .slice none 0 0, .slice none 0 0, .int .i64 0, .int .i64 0, .int .i64 0]) (by simp [results, Tryz.results35, go_sem, vr0, vl]) rfl ?_
    rw [HR.out]
    exact rans_same HT.out (ans_set HBF.out (by omega) _ _ _ _ _ _ _)
   ·skip
    have ua0 := (HO4.out).b0.c8
    have ur0 := (HO4.out).b1.cf7
    have ul := (HO4.out).b1.lt
    have ux0 := HX4.out.c3
    go_wp2_with fail
    refine (failed_any _ _).mono ?_
    rintro e w5 ⟨rfl, hb5⟩
    have HOF := Lib.hid (HO4.out.below hb5)
    have HBF := Lib.hid (HB4.out.trans (hb5.mono HB4.out.size))
    clear hb5
    have vr0 := (HOF.out).b1.cf7
    have vl := (HOF.out).b1.lt
    go_wp2_with fail
    refine bodyPost_ret (v := .agg #[.int .i64 2, .int .i64 0, .slice none 0 0, .slice none 0 0, .int .i64 0, .int .i64 0, .int .i64 0]) (by simp [results, Tryz.results35, go_sem, vr0, vl]) rfl ?_
    rw [HR.out]
    exact rans_same HT.out (ans_set HBF.out (by omega) _ _ _ _ _ _ _)
  ·have ho2 : o.off ≤ 48640 := by omega
   replace ho : 0 ≤ o.off := by omega
   have hlive : (a.nd k).kind ≠ 0 := by rw [hk]; decide
   have hlast := (hg.in_last hlive).2
   have hfew := hg.few
   have hdl := hg.data k
   have HR := Lib.hid (show a.heldT o = a.seekT o.fd ((k : Int), (p : Int), mode) o.off by unfold TS.heldT; rw [hf]; simp [hkd]; intro h1; omega)
   clear h hg hk hm hf hlive hlast hfew hdl
   have e2 := kf 2 hkd rfl
   have e3 := kf 3 hkd rfl
   have e4 := kf 4 hkd rfl
   have e5 := kt 5 hkd rfl
   clear hkd
   have ua0 := (HO4.out).b0.c8
   have ur0 := (HO4.out).b1.cf7
   have ul := (HO4.out).b1.lt
   have ux0 := HX4.out.c3
   go_upto_region 39 with (fail)
   clear ua0 ur0 ul ux0
   have HOE := Lib.hid HO4.out.drew
   have HTE := Lib.hid HT4.out.drew
   have vt2 := HTE.out.cells.2
   have va3 := HOE.out.b0.cell 3
   have va5 := HOE.out.b0.cell 5
   simp at va3 va5
   have hS0 := And.intro vt2 (And.intro va3 va5)
   have HV := Lib.hid vt2
   clear vt2 va3 va5
   go_region_held3 (fun W => W.cell? ⟨y, 1, none⟩ = some (.pointer (some ⟨R.fb, 0, none⟩)) ∧ W.cell? ⟨w.heap.size, 3, none⟩ = some (.int .i64 o.fd) ∧ W.cell? ⟨w.heap.size, 5, none⟩ = some (.int .i64 o.off))
    (first | exact hS0 | exact hS1)
    (first
     | (go_at_call 81
        refine (rtseek_any o.fd ((k : Int), (p : Int), mode) o.off _ HTE.out HF.out ho).mono ?_
        rintro e w9 ⟨rfl, R', hT9, hTu9, hbt⟩
        have HO9 := Lib.hid (HOE.out.turn2 hTu9 (fun e => by have := HFL.out _ e; omega) (fun e => by have := HFL.out _ e; omega))
        have va3 := HO9.out.b0.cell 3
        have va5 := HO9.out.b0.cell 5
        simp at va3 va5
        have hS1 := And.intro ((World.cell?_of_block (a := ⟨y, 1, none⟩) hbt).trans HV.out) (And.intro va3 va5)
        have HT9 := Lib.hid hT9
        have HTu9 := Lib.hid hTu9
        clear hT9 hTu9 hbt va3 va5))
   clear hS0 hS1
   obtain ⟨va0, va1, va2, va3, va4, va5, va6, va7⟩ := (HO9.out).b0.c8
   have vr0 := (HO9.out).b1.cf7
   have vl := (HO9.out).b1.lt
   go_wp2_with fail
   refine bodyPost_ret (v := .agg #[.int .i64 0, .int .i64 o.off, .slice none 0 0, .slice none 0 0, .int .i64 0, .int .i64 0, .int .i64 0]) (by simp [results, Tryz.results35, go_sem, vr0, vl]) rfl ?_
   rw [HR.out]
   exact rans_fin (F' := F) (wX := w4.drew) HT.out ⟨_, HT9.out.grown w4.drew HTE.out.w0⟩ (((Turn.of_below (S := F) HB4.out).drew).trans (S' := F) HTu9.out fun _ _ e => e) HB4.out.size (fun j e => .inl e) (by omega) HO4.out.b1.lt (fun e => by have := HFL.out _ e; omega)
 have hlive : (a.nd k).kind ≠ 0 := by rw [hk]; decide
 have hlast := (hg.in_last hlive).2
 have hfew := hg.few
 have hdl := hg.data k
 have HR := Lib.hid (show a.heldT o = a by unfold TS.heldT; rw [hf]; simp [hk2, hk3, hk4, hk5])
 clear h hg hk hm hf hlive hlast hfew hdl
 have e2 : (o.kind == 2) = false := beq_eq_false_iff_ne.2 hk2
 have e3 : (o.kind == 3) = false := beq_eq_false_iff_ne.2 hk3
 have e4 : (o.kind == 4) = false := beq_eq_false_iff_ne.2 hk4
 have e5 : (o.kind == 5) = false := beq_eq_false_iff_ne.2 hk5
 clear hk2 hk3 hk4 hk5
 have ua0 := (HO4.out).b0.c8
 have ur0 := (HO4.out).b1.cf7
 have ul := (HO4.out).b1.lt
 have ux0 := HX4.out.c3
 go_wp2_with fail
 refine bodyPost_ret (v := .agg #[.int .i64 0, .int .i64 0, .slice none 0 0, .slice none 0 0, .int .i64 0, .int .i64 0, .int .i64 0]) (by simp [results, Tryz.results35, go_sem, ur0, ul]) rfl ?_
 rw [HR.out]
 exact rans_same HT.out (ans_set HB4.out (by omega) _ _ _ _ _ _ _)
end
end Go.Proofs.YtpkhglfhpggceaaGreatDoor
