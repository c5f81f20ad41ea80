/- What package tree does to memory: Do (printed by gendo25.py). -/
import Derived.Test.YtpkhglfhpggceaaGreatDoorOne
namespace Go.Proofs.YtpkhglfhpggceaaGreatDoor
set_option maxRecDepth 100000
set_option maxHeartbeats 16000000
open Go.RowKit
set_option linter.unusedVariables false
set_option linter.unusedSimpArgs false
section
variable {F : Nat → Prop} {w w' : World} {t c : Nat} {M : TMem} {a : TS}
theorem do1 (o : OpT) (A : Option Addr) (cap : Nat) (w : World) (h : TreeIs F w t M c a) (hg : Good a c) (hc : c ≤ 100000) (hp : o.path.size ≤ 1000) (hp2 : o.to.size ≤ 1000)
  (hD : RdB w (.slice A o.data.length cap) o.data) (hDF : ∀ g x, A = some ⟨g, x, none⟩ → ¬ F g) (hkd : o.kind = 1) :
  Calls Tryz.prog 7 #[.pointer (some ⟨t, 0, none⟩), o.val A o.data.length cap] w (AnsPost F t (c + 2) (a.doT o) w) := by
 unfold OpT.val

 have e1 := kt 1 hkd rfl
 have HT := Lib.hid h
 have HH := Lib.hid (fun W (hb : Below w.heap.size w W) => h.below hb)
 have HFL : Hid (∀ j, F j → j < w.heap.size) := Lib.hid fun j e => h.lt j e
 have HDW := Lib.hid (fun W (hb : Below w.heap.size w W) => hD.below hb)
 have HCL := Lib.hid (fun W (h : TreeIs F W t M c a) => show Calls Tryz.prog 26 #[.pointer (some ⟨t, 0, none⟩), .agg (oc o A o.data.length cap)] W (AnsPost F t (c + 2) (a.openT o) W) from opened_any o A o.data.length cap W h hg hc hp)
 have HR := Lib.hid (show a.doT o = a.openT o by unfold TS.doT; simp [hkd])
 clear h hg hD hDF hkd
 go_enter Tryz.func7, Tryz.ntmps7
 go_upto_region 3 with (fail)
 obtain ⟨w1, hwe, HO1, HB1⟩ := asked w (oc o A o.data.length cap)
 rw [← hwe]
 clear hwe
 have ua0 := (HO1.out).b0.c8
 have ur0 := (HO1.out).b1.cf7
 have ul := (HO1.out).b1.lt
 go_wp2_with fail
 refine (HCL.out _ (HH.out _ HB1.out)).mono ?_
 rintro e w9 ⟨er, en, B1, n1, c1, B2, n2, c2, ek, es, el, rfl, hs9, hTu9⟩
 clear ua0 ur0 ul
 have HO9 := Lib.hid (HO1.out.turn2 hTu9 (fun e => by have := HFL.out _ e; omega) (fun e => by have := HFL.out _ e; omega))
 have HS9 := Lib.hid hs9
 have HTu9 := Lib.hid hTu9
 clear hs9 hTu9
 have vr0 := (HO9.out).b1.cf7
 have vl := (HO9.out).b1.lt
 unfold ansV
 go_wp2_with fail
 refine bodyPost_ret (v := .agg #[.int .i64 er, .int .i64 en, .slice B1 n1 c1, .slice B2 n2 c2, .int .i64 ek, .int .i64 es, .int .i64 el]) (by simp [results, Tryz.results7, go_sem, vr0, vl]) rfl ?_
 rw [HR.out]
 exact ans_fin (F' := F) (wX := w1) HT.out HS9.out (Nat.le_refl _) ((Turn.of_below (S := F) HB1.out).trans (S' := F) HTu9.out fun _ _ e => e) HB1.out.size (fun j e => .inl e) (by omega) HO1.out.b1.lt (fun e => by have := HFL.out _ e; omega)
theorem do2 (o : OpT) (A : Option Addr) (cap : Nat) (w : World) (h : TreeIs F w t M c a) (hg : Good a c) (hc : c ≤ 100000) (hp : o.path.size ≤ 1000) (hp2 : o.to.size ≤ 1000)
  (hD : RdB w (.slice A o.data.length cap) o.data) (hDF : ∀ g x, A = some ⟨g, x, none⟩ → ¬ F g) (hkd : o.kind = 2) :
  Calls Tryz.prog 7 #[.pointer (some ⟨t, 0, none⟩), o.val A o.data.length cap] w (AnsPost F t (c + 2) (a.doT o) w) := by
 unfold OpT.val
 have e1 := kf 1 hkd rfl
 have e2 := kt 2 hkd rfl
 have HT := Lib.hid h
 have HH := Lib.hid (fun W (hb : Below w.heap.size w W) => h.below hb)
 have HFL : Hid (∀ j, F j → j < w.heap.size) := Lib.hid fun j e => h.lt j e
 have HDW := Lib.hid (fun W (hb : Below w.heap.size w W) => hD.below hb)
 have HCL := Lib.hid (fun W (h : TreeIs F W t M c a) (hD : RdB W (.slice A o.data.length cap) o.data) => show Calls Tryz.prog 27 #[.pointer (some ⟨t, 0, none⟩), .agg (oc o A o.data.length cap)] W (AnsPost F t (c + 2) (a.heldT o) W) from held_any o A cap W h hg hc hD hDF)
 have HR := Lib.hid (show a.doT o = a.heldT o by unfold TS.doT; simp [hkd])
 clear h hg hD hDF hkd
 go_enter Tryz.func7, Tryz.ntmps7
 go_upto_region 3 with (fail)
 obtain ⟨w1, hwe, HO1, HB1⟩ := asked w (oc o A o.data.length cap)
 rw [← hwe]
 clear hwe
 have ua0 := (HO1.out).b0.c8
 have ur0 := (HO1.out).b1.cf7
 have ul := (HO1.out).b1.lt
 go_wp2_with fail
 refine (HCL.out _ (HH.out _ HB1.out) (HDW.out _ HB1.out)).mono ?_
 rintro e w9 ⟨er, en, B1, n1, c1, B2, n2, c2, ek, es, el, rfl, hs9, hTu9⟩
 clear ua0 ur0 ul
 have HO9 := Lib.hid (HO1.out.turn2 hTu9 (fun e => by have := HFL.out _ e; omega) (fun e => by have := HFL.out _ e; omega))
 have HS9 := Lib.hid hs9
 have HTu9 := Lib.hid hTu9
 clear hs9 hTu9
 have vr0 := (HO9.out).b1.cf7
 have vl := (HO9.out).b1.lt
 unfold ansV
 go_wp2_with fail
 refine bodyPost_ret (v := .agg #[.int .i64 er, .int .i64 en, .slice B1 n1 c1, .slice B2 n2 c2, .int .i64 ek, .int .i64 es, .int .i64 el]) (by simp [results, Tryz.results7, go_sem, vr0, vl]) rfl ?_
 rw [HR.out]
 exact ans_fin (F' := F) (wX := w1) HT.out HS9.out (Nat.le_refl _) ((Turn.of_below (S := F) HB1.out).trans (S' := F) HTu9.out fun _ _ e => e) HB1.out.size (fun j e => .inl e) (by omega) HO1.out.b1.lt (fun e => by have := HFL.out _ e; omega)
theorem do3 (o : OpT) (A : Option Addr) (cap : Nat) (w : World) (h : TreeIs F w t M c a) (hg : Good a c) (hc : c ≤ 100000) (hp : o.path.size ≤ 1000) (hp2 : o.to.size ≤ 1000)
  (hD : RdB w (.slice A o.data.length cap) o.data) (hDF : ∀ g x, A = some ⟨g, x, none⟩ → ¬ F g) (hkd : o.kind = 3) :
  Calls Tryz.prog 7 #[.pointer (some ⟨t, 0, none⟩), o.val A o.data.length cap] w (AnsPost F t (c + 2) (a.doT o) w) := by
 unfold OpT.val
 have e1 := kf 1 hkd rfl
 have e2 := kf 2 hkd rfl
 have e3 := kt 3 hkd rfl
 have HT := Lib.hid h
 have HH := Lib.hid (fun W (hb : Below w.heap.size w W) => h.below hb)
 have HFL : Hid (∀ j, F j → j < w.heap.size) := Lib.hid fun j e => h.lt j e
 have HDW := Lib.hid (fun W (hb : Below w.heap.size w W) => hD.below hb)
 have HCL := Lib.hid (fun W (h : TreeIs F W t M c a) (hD : RdB W (.slice A o.data.length cap) o.data) => show Calls Tryz.prog 27 #[.pointer (some ⟨t, 0, none⟩), .agg (oc o A o.data.length cap)] W (AnsPost F t (c + 2) (a.heldT o) W) from held_any o A cap W h hg hc hD hDF)
 have HR := Lib.hid (show a.doT o = a.heldT o by unfold TS.doT; simp [hkd])
 clear h hg hD hDF hkd
 go_enter Tryz.func7, Tryz.ntmps7
 go_upto_region 3 with (fail)
 obtain ⟨w1, hwe, HO1, HB1⟩ := asked w (oc o A o.data.length cap)
 rw [← hwe]
 clear hwe
 have ua0 := (HO1.out).b0.c8
 have ur0 := (HO1.out).b1.cf7
 have ul := (HO1.out).b1.lt
 go_wp2_with fail
 refine (HCL.out _ (HH.out _ HB1.out) (HDW.out _ HB1.out)).mono ?_
 rintro e w9 ⟨er, en, B1, n1, c1, B2, n2, c2, ek, es, el, rfl, hs9, hTu9⟩
 clear ua0 ur0 ul
 have HO9 := Lib.hid (HO1.out.turn2 hTu9 (fun e => by have := HFL.out _ e; omega) (fun e => by have := HFL.out _ e; omega))
 have HS9 := Lib.hid hs9
 have HTu9 := Lib.hid hTu9
 clear hs9 hTu9
 have vr0 := (HO9.out).b1.cf7
 have vl := (HO9.out).b1.lt
 unfold ansV
 go_wp2_with fail
 refine bodyPost_ret (v := .agg #[.int .i64 er, .int .i64 en, .slice B1 n1 c1, .slice B2 n2 c2, .int .i64 ek, .int .i64 es, .int .i64 el]) (by simp [results, Tryz.results7, go_sem, vr0, vl]) rfl ?_
 rw [HR.out]
 exact ans_fin (F' := F) (wX := w1) HT.out HS9.out (Nat.le_refl _) ((Turn.of_below (S := F) HB1.out).trans (S' := F) HTu9.out fun _ _ e => e) HB1.out.size (fun j e => .inl e) (by omega) HO1.out.b1.lt (fun e => by have := HFL.out _ e; omega)
theorem do4 (o : OpT) (A : Option Addr) (cap : Nat) (w : World) (h : TreeIs F w t M c a) (hg : Good a c) (hc : c ≤ 100000) (hp : o.path.size ≤ 1000) (hp2 : o.to.size ≤ 1000)
  (hD : RdB w (.slice A o.data.length cap) o.data) (hDF : ∀ g x, A = some ⟨g, x, none⟩ → ¬ F g) (hkd : o.kind = 4) :
  Calls Tryz.prog 7 #[.pointer (some ⟨t, 0, none⟩), o.val A o.data.length cap] w (AnsPost F t (c + 2) (a.doT o) w) := by
 unfold OpT.val
 have e1 := kf 1 hkd rfl
 have e2 := kf 2 hkd rfl
 have e3 := kf 3 hkd rfl
 have e4 := kt 4 hkd rfl
 have HT := Lib.hid h
 have HH := Lib.hid (fun W (hb : Below w.heap.size w W) => h.below hb)
 have HFL : Hid (∀ j, F j → j < w.heap.size) := Lib.hid fun j e => h.lt j e
 have HDW := Lib.hid (fun W (hb : Below w.heap.size w W) => hD.below hb)
 have HCL := Lib.hid (fun W (h : TreeIs F W t M c a) (hD : RdB W (.slice A o.data.length cap) o.data) => show Calls Tryz.prog 27 #[.pointer (some ⟨t, 0, none⟩), .agg (oc o A o.data.length cap)] W (AnsPost F t (c + 2) (a.heldT o) W) from held_any o A cap W h hg hc hD hDF)
 have HR := Lib.hid (show a.doT o = a.heldT o by unfold TS.doT; simp [hkd])
 clear h hg hD hDF hkd
 go_enter Tryz.func7, Tryz.ntmps7
 go_upto_region 3 with (fail)
 obtain ⟨w1, hwe, HO1, HB1⟩ := asked w (oc o A o.data.length cap)
 rw [← hwe]
 clear hwe
 have ua0 := (HO1.out).b0.c8
 have ur0 := (HO1.out).b1.cf7
 have ul := (HO1.out).b1.lt
 go_wp2_with fail
 refine (HCL.out _ (HH.out _ HB1.out) (HDW.out _ HB1.out)).mono ?_
 rintro e w9 ⟨er, en, B1, n1, c1, B2, n2, c2, ek, es, el, rfl, hs9, hTu9⟩
 clear ua0 ur0 ul
 have HO9 := Lib.hid (HO1.out.turn2 hTu9 (fun e => by have := HFL.out _ e; omega) (fun e => by have := HFL.out _ e; omega))
 have HS9 := Lib.hid hs9
 have HTu9 := Lib.hid hTu9
 clear hs9 hTu9
 have vr0 := (HO9.out).b1.cf7
 have vl := (HO9.out).b1.lt
 unfold ansV
 go_wp2_with fail
 refine bodyPost_ret (v := .agg #[.int .i64 er, .int .i64 en, .slice B1 n1 c1, .slice B2 n2 c2, .int .i64 ek, .int .i64 es, .int .i64 el]) (by simp [results, Tryz.results7, go_sem, vr0, vl]) rfl ?_
 rw [HR.out]
 exact ans_fin (F' := F) (wX := w1) HT.out HS9.out (Nat.le_refl _) ((Turn.of_below (S := F) HB1.out).trans (S' := F) HTu9.out fun _ _ e => e) HB1.out.size (fun j e => .inl e) (by omega) HO1.out.b1.lt (fun e => by have := HFL.out _ e; omega)
theorem do5 (o : OpT) (A : Option Addr) (cap : Nat) (w : World) (h : TreeIs F w t M c a) (hg : Good a c) (hc : c ≤ 100000) (hp : o.path.size ≤ 1000) (hp2 : o.to.size ≤ 1000)
  (hD : RdB w (.slice A o.data.length cap) o.data) (hDF : ∀ g x, A = some ⟨g, x, none⟩ → ¬ F g) (hkd : o.kind = 5) :
  Calls Tryz.prog 7 #[.pointer (some ⟨t, 0, none⟩), o.val A o.data.length cap] w (AnsPost F t (c + 2) (a.doT o) w) := by
 unfold OpT.val
 have e1 := kf 1 hkd rfl
 have e2 := kf 2 hkd rfl
 have e3 := kf 3 hkd rfl
 have e4 := kf 4 hkd rfl
 have e5 := kt 5 hkd rfl
 have HT := Lib.hid h
 have HH := Lib.hid (fun W (hb : Below w.heap.size w W) => h.below hb)
 have HFL : Hid (∀ j, F j → j < w.heap.size) := Lib.hid fun j e => h.lt j e
 have HDW := Lib.hid (fun W (hb : Below w.heap.size w W) => hD.below hb)
 have HCL := Lib.hid (fun W (h : TreeIs F W t M c a) (hD : RdB W (.slice A o.data.length cap) o.data) => show Calls Tryz.prog 27 #[.pointer (some ⟨t, 0, none⟩), .agg (oc o A o.data.length cap)] W (AnsPost F t (c + 2) (a.heldT o) W) from held_any o A cap W h hg hc hD hDF)
 have HR := Lib.hid (show a.doT o = a.heldT o by unfold TS.doT; simp [hkd])
 clear h hg hD hDF hkd
 go_enter Tryz.func7, Tryz.ntmps7
 go_upto_region 3 with (fail)
 obtain ⟨w1, hwe, HO1, HB1⟩ := asked w (oc o A o.data.length cap)
 rw [← hwe]
 clear hwe
 have ua0 := (HO1.out).b0.c8
 have ur0 := (HO1.out).b1.cf7
 have ul := (HO1.out).b1.lt
 go_wp2_with fail
 refine (HCL.out _ (HH.out _ HB1.out) (HDW.out _ HB1.out)).mono ?_
 rintro e w9 ⟨er, en, B1, n1, c1, B2, n2, c2, ek, es, el, rfl, hs9, hTu9⟩
 clear ua0 ur0 ul
 have HO9 := Lib.hid (HO1.out.turn2 hTu9 (fun e => by have := HFL.out _ e; omega) (fun e => by have := HFL.out _ e; omega))
 have HS9 := Lib.hid hs9
 have HTu9 := Lib.hid hTu9
 clear hs9 hTu9
 have vr0 := (HO9.out).b1.cf7
 have vl := (HO9.out).b1.lt
 unfold ansV
 go_wp2_with fail
 refine bodyPost_ret (v := .agg #[.int .i64 er, .int .i64 en, .slice B1 n1 c1, .slice B2 n2 c2, .int .i64 ek, .int .i64 es, .int .i64 el]) (by simp [results, Tryz.results7, go_sem, vr0, vl]) rfl ?_
 rw [HR.out]
 exact ans_fin (F' := F) (wX := w1) HT.out HS9.out (Nat.le_refl _) ((Turn.of_below (S := F) HB1.out).trans (S' := F) HTu9.out fun _ _ e => e) HB1.out.size (fun j e => .inl e) (by omega) HO1.out.b1.lt (fun e => by have := HFL.out _ e; omega)
theorem do14 (o : OpT) (A : Option Addr) (cap : Nat) (w : World) (h : TreeIs F w t M c a) (hg : Good a c) (hc : c ≤ 100000) (hp : o.path.size ≤ 1000) (hp2 : o.to.size ≤ 1000)
  (hD : RdB w (.slice A o.data.length cap) o.data) (hDF : ∀ g x, A = some ⟨g, x, none⟩ → ¬ F g) (hkd : o.kind = 14) :
  Calls Tryz.prog 7 #[.pointer (some ⟨t, 0, none⟩), o.val A o.data.length cap] w (AnsPost F t (c + 2) (a.doT o) w) := by
 unfold OpT.val
 have e1 := kf 1 hkd rfl
 have e2 := kf 2 hkd rfl
 have e3 := kf 3 hkd rfl
 have e4 := kf 4 hkd rfl
 have e5 := kf 5 hkd rfl
 have e14 := kt 14 hkd rfl
 have HT := Lib.hid h
 have HH := Lib.hid (fun W (hb : Below w.heap.size w W) => h.below hb)
 have HFL : Hid (∀ j, F j → j < w.heap.size) := Lib.hid fun j e => h.lt j e
 have HDW := Lib.hid (fun W (hb : Below w.heap.size w W) => hD.below hb)
 have HCL := Lib.hid (fun W (h : TreeIs F W t M c a) (hD : RdB W (.slice A o.data.length cap) o.data) => show Calls Tryz.prog 27 #[.pointer (some ⟨t, 0, none⟩), .agg (oc o A o.data.length cap)] W (AnsPost F t (c + 2) (a.heldT o) W) from held_any o A cap W h hg hc hD hDF)
 have HR := Lib.hid (show a.doT o = a.heldT o by unfold TS.doT; simp [hkd])
 clear h hg hD hDF hkd
 go_enter Tryz.func7, Tryz.ntmps7
 go_upto_region 3 with (fail)
 obtain ⟨w1, hwe, HO1, HB1⟩ := asked w (oc o A o.data.length cap)
 rw [← hwe]
 clear hwe
 have ua0 := (HO1.out).b0.c8
 have ur0 := (HO1.out).b1.cf7
 have ul := (HO1.out).b1.lt
 go_wp2_with fail
 refine (HCL.out _ (HH.out _ HB1.out) (HDW.out _ HB1.out)).mono ?_
 rintro e w9 ⟨er, en, B1, n1, c1, B2, n2, c2, ek, es, el, rfl, hs9, hTu9⟩
 clear ua0 ur0 ul
 have HO9 := Lib.hid (HO1.out.turn2 hTu9 (fun e => by have := HFL.out _ e; omega) (fun e => by have := HFL.out _ e; omega))
 have HS9 := Lib.hid hs9
 have HTu9 := Lib.hid hTu9
 clear hs9 hTu9
 have vr0 := (HO9.out).b1.cf7
 have vl := (HO9.out).b1.lt
 unfold ansV
 go_wp2_with fail
 refine bodyPost_ret (v := .agg #[.int .i64 er, .int .i64 en, .slice B1 n1 c1, .slice B2 n2 c2, .int .i64 ek, .int .i64 es, .int .i64 el]) (by simp [results, Tryz.results7, go_sem, vr0, vl]) rfl ?_
 rw [HR.out]
 exact ans_fin (F' := F) (wX := w1) HT.out HS9.out (Nat.le_refl _) ((Turn.of_below (S := F) HB1.out).trans (S' := F) HTu9.out fun _ _ e => e) HB1.out.size (fun j e => .inl e) (by omega) HO1.out.b1.lt (fun e => by have := HFL.out _ e; omega)
theorem do7 (o : OpT) (A : Option Addr) (cap : Nat) (w : World) (h : TreeIs F w t M c a) (hg : Good a c) (hc : c ≤ 100000) (hp : o.path.size ≤ 1000) (hp2 : o.to.size ≤ 1000)
  (hD : RdB w (.slice A o.data.length cap) o.data) (hDF : ∀ g x, A = some ⟨g, x, none⟩ → ¬ F g) (hkd : o.kind = 7) :
  Calls Tryz.prog 7 #[.pointer (some ⟨t, 0, none⟩), o.val A o.data.length cap] w (AnsPost F t (c + 2) (a.doT o) w) := by
 unfold OpT.val
 have e1 := kf 1 hkd rfl
 have e2 := kf 2 hkd rfl
 have e3 := kf 3 hkd rfl
 have e4 := kf 4 hkd rfl
 have e5 := kf 5 hkd rfl
 have e14 := kf 14 hkd rfl
 have e7 := kt 7 hkd rfl
 have HT := Lib.hid h
 have HH := Lib.hid (fun W (hb : Below w.heap.size w W) => h.below hb)
 have HFL : Hid (∀ j, F j → j < w.heap.size) := Lib.hid fun j e => h.lt j e
 have HDW := Lib.hid (fun W (hb : Below w.heap.size w W) => hD.below hb)
 have HCL := Lib.hid (fun W (h : TreeIs F W t M c a) => show Calls Tryz.prog 28 #[.pointer (some ⟨t, 0, none⟩), .agg (oc o A o.data.length cap)] W (StepPost F t (c + 2) (a.mkdirT o) (.int .i64 (a.mkdirE o)) W) from mkdir_any o A o.data.length cap W h hg hc hp)
 have HR := Lib.hid (show a.doT o = a.mkdirT o by unfold TS.doT; simp [hkd])
 clear h hg hD hDF hkd
 go_enter Tryz.func7, Tryz.ntmps7
 go_upto_region 3 with (fail)
 obtain ⟨w1, hwe, HO1, HB1⟩ := asked w (oc o A o.data.length cap)
 rw [← hwe]
 clear hwe
 have ua0 := (HO1.out).b0.c8
 have ur0 := (HO1.out).b1.cf7
 have ul := (HO1.out).b1.lt
 go_wp2_with fail
 refine (HCL.out _ (HH.out _ HB1.out)).mono ?_
 rintro e w9 ⟨rfl, hs9, hTu9⟩
 clear ua0 ur0 ul
 have HO9 := Lib.hid (HO1.out.turn2 hTu9 (fun e => by have := HFL.out _ e; omega) (fun e => by have := HFL.out _ e; omega))
 have HS9 := Lib.hid hs9
 have HTu9 := Lib.hid hTu9
 clear hs9 hTu9
 have vr0 := (HO9.out).b1.cf7
 have vl := (HO9.out).b1.lt
 go_wp2_with fail
 refine bodyPost_ret (v := .agg #[.int .i64 (a.mkdirE o), .int .i64 0, .slice none 0 0, .slice none 0 0, .int .i64 0, .int .i64 0, .int .i64 0]) (by simp [results, Tryz.results7, go_sem, vr0, vl]) rfl ?_
 rw [HR.out]
 exact ans_fin (F' := F) (wX := w1) HT.out HS9.out (Nat.le_refl _) ((Turn.of_below (S := F) HB1.out).trans (S' := F) HTu9.out fun _ _ e => e) HB1.out.size (fun j e => .inl e) (by omega) HO1.out.b1.lt (fun e => by have := HFL.out _ e; omega)
theorem do8 (o : OpT) (A : Option Addr) (cap : Nat) (w : World) (h : TreeIs F w t M c a) (hg : Good a c) (hc : c ≤ 100000) (hp : o.path.size ≤ 1000) (hp2 : o.to.size ≤ 1000)
  (hD : RdB w (.slice A o.data.length cap) o.data) (hDF : ∀ g x, A = some ⟨g, x, none⟩ → ¬ F g) (hkd : o.kind = 8) :
  Calls Tryz.prog 7 #[.pointer (some ⟨t, 0, none⟩), o.val A o.data.length cap] w (AnsPost F t (c + 2) (a.doT o) w) := by
 unfold OpT.val
 have e1 := kf 1 hkd rfl
 have e2 := kf 2 hkd rfl
 have e3 := kf 3 hkd rfl
 have e4 := kf 4 hkd rfl
 have e5 := kf 5 hkd rfl
 have e14 := kf 14 hkd rfl
 have e7 := kf 7 hkd rfl
 have e8 := kt 8 hkd rfl
 have HT := Lib.hid h
 have HH := Lib.hid (fun W (hb : Below w.heap.size w W) => h.below hb)
 have HFL : Hid (∀ j, F j → j < w.heap.size) := Lib.hid fun j e => h.lt j e
 have HDW := Lib.hid (fun W (hb : Below w.heap.size w W) => hD.below hb)
 have HCL := Lib.hid (fun W (h : TreeIs F W t M c a) => show Calls Tryz.prog 29 #[.pointer (some ⟨t, 0, none⟩), .agg (oc o A o.data.length cap)] W (ErrPost F t (c + 2) (a.removeT o) W) from remove8_any o A o.data.length cap W h hg hc hp hkd)
 have HR := Lib.hid (show a.doT o = a.removeT o by unfold TS.doT; simp [hkd])
 clear h hg hD hDF hkd
 go_enter Tryz.func7, Tryz.ntmps7
 go_upto_region 3 with (fail)
 obtain ⟨w1, hwe, HO1, HB1⟩ := asked w (oc o A o.data.length cap)
 rw [← hwe]
 clear hwe
 have ua0 := (HO1.out).b0.c8
 have ur0 := (HO1.out).b1.cf7
 have ul := (HO1.out).b1.lt
 go_wp2_with fail
 refine (HCL.out _ (HH.out _ HB1.out)).mono ?_
 rintro e w9 ⟨r, rfl, hs9, hTu9⟩
 clear ua0 ur0 ul
 have HO9 := Lib.hid (HO1.out.turn2 hTu9 (fun e => by have := HFL.out _ e; omega) (fun e => by have := HFL.out _ e; omega))
 have HS9 := Lib.hid hs9
 have HTu9 := Lib.hid hTu9
 clear hs9 hTu9
 have vr0 := (HO9.out).b1.cf7
 have vl := (HO9.out).b1.lt
 go_wp2_with fail
 refine bodyPost_ret (v := .agg #[.int .i64 r, .int .i64 0, .slice none 0 0, .slice none 0 0, .int .i64 0, .int .i64 0, .int .i64 0]) (by simp [results, Tryz.results7, go_sem, vr0, vl]) rfl ?_
 rw [HR.out]
 exact ans_fin (F' := F) (wX := w1) HT.out HS9.out (Nat.le_refl _) ((Turn.of_below (S := F) HB1.out).trans (S' := F) HTu9.out fun _ _ e => e) HB1.out.size (fun j e => .inl e) (by omega) HO1.out.b1.lt (fun e => by have := HFL.out _ e; omega)
theorem do10 (o : OpT) (A : Option Addr) (cap : Nat) (w : World) (h : TreeIs F w t M c a) (hg : Good a c) (hc : c ≤ 100000) (hp : o.path.size ≤ 1000) (hp2 : o.to.size ≤ 1000)
  (hD : RdB w (.slice A o.data.length cap) o.data) (hDF : ∀ g x, A = some ⟨g, x, none⟩ → ¬ F g) (hkd : o.kind = 10) :
  Calls Tryz.prog 7 #[.pointer (some ⟨t, 0, none⟩), o.val A o.data.length cap] w (AnsPost F t (c + 2) (a.doT o) w) := by
 unfold OpT.val
 have e1 := kf 1 hkd rfl
 have e2 := kf 2 hkd rfl
 have e3 := kf 3 hkd rfl
 have e4 := kf 4 hkd rfl
 have e5 := kf 5 hkd rfl
 have e14 := kf 14 hkd rfl
 have e7 := kf 7 hkd rfl
 have e8 := kf 8 hkd rfl
 have e10 := kt 10 hkd rfl
 have HT := Lib.hid h
 have HH := Lib.hid (fun W (hb : Below w.heap.size w W) => h.below hb)
 have HFL : Hid (∀ j, F j → j < w.heap.size) := Lib.hid fun j e => h.lt j e
 have HDW := Lib.hid (fun W (hb : Below w.heap.size w W) => hD.below hb)
 have HCL := Lib.hid (fun W (h : TreeIs F W t M c a) => show Calls Tryz.prog 29 #[.pointer (some ⟨t, 0, none⟩), .agg (oc o A o.data.length cap)] W (ErrPost F t (c + 2) (a.removeT o) W) from remove10_any o A o.data.length cap W h hg hc hp hkd)
 have HR := Lib.hid (show a.doT o = a.removeT o by unfold TS.doT; simp [hkd])
 clear h hg hD hDF hkd
 go_enter Tryz.func7, Tryz.ntmps7
 go_upto_region 3 with (fail)
 obtain ⟨w1, hwe, HO1, HB1⟩ := asked w (oc o A o.data.length cap)
 rw [← hwe]
 clear hwe
 have ua0 := (HO1.out).b0.c8
 have ur0 := (HO1.out).b1.cf7
 have ul := (HO1.out).b1.lt
 go_wp2_with fail
 refine (HCL.out _ (HH.out _ HB1.out)).mono ?_
 rintro e w9 ⟨r, rfl, hs9, hTu9⟩
 clear ua0 ur0 ul
 have HO9 := Lib.hid (HO1.out.turn2 hTu9 (fun e => by have := HFL.out _ e; omega) (fun e => by have := HFL.out _ e; omega))
 have HS9 := Lib.hid hs9
 have HTu9 := Lib.hid hTu9
 clear hs9 hTu9
 have vr0 := (HO9.out).b1.cf7
 have vl := (HO9.out).b1.lt
 go_wp2_with fail
 refine bodyPost_ret (v := .agg #[.int .i64 r, .int .i64 0, .slice none 0 0, .slice none 0 0, .int .i64 0, .int .i64 0, .int .i64 0]) (by simp [results, Tryz.results7, go_sem, vr0, vl]) rfl ?_
 rw [HR.out]
 exact ans_fin (F' := F) (wX := w1) HT.out HS9.out (Nat.le_refl _) ((Turn.of_below (S := F) HB1.out).trans (S' := F) HTu9.out fun _ _ e => e) HB1.out.size (fun j e => .inl e) (by omega) HO1.out.b1.lt (fun e => by have := HFL.out _ e; omega)
theorem do9 (o : OpT) (A : Option Addr) (cap : Nat) (w : World) (h : TreeIs F w t M c a) (hg : Good a c) (hc : c ≤ 100000) (hp : o.path.size ≤ 1000) (hp2 : o.to.size ≤ 1000)
  (hD : RdB w (.slice A o.data.length cap) o.data) (hDF : ∀ g x, A = some ⟨g, x, none⟩ → ¬ F g) (hkd : o.kind = 9) :
  Calls Tryz.prog 7 #[.pointer (some ⟨t, 0, none⟩), o.val A o.data.length cap] w (AnsPost F t (c + 2) (a.doT o) w) := by
 unfold OpT.val
 have e1 := kf 1 hkd rfl
 have e2 := kf 2 hkd rfl
 have e3 := kf 3 hkd rfl
 have e4 := kf 4 hkd rfl
 have e5 := kf 5 hkd rfl
 have e14 := kf 14 hkd rfl
 have e7 := kf 7 hkd rfl
 have e8 := kf 8 hkd rfl
 have e10 := kf 10 hkd rfl
 have e9 := kt 9 hkd rfl
 have HT := Lib.hid h
 have HH := Lib.hid (fun W (hb : Below w.heap.size w W) => h.below hb)
 have HFL : Hid (∀ j, F j → j < w.heap.size) := Lib.hid fun j e => h.lt j e
 have HDW := Lib.hid (fun W (hb : Below w.heap.size w W) => hD.below hb)
 have HCL := Lib.hid (fun W (h : TreeIs F W t M c a) => show Calls Tryz.prog 30 #[.pointer (some ⟨t, 0, none⟩), .agg (oc o A o.data.length cap)] W (ErrPost F t (c + 2) (a.linkT o) W) from link_any o A o.data.length cap W h hg hc hp hp2)
 have HR := Lib.hid (show a.doT o = a.linkT o by unfold TS.doT; simp [hkd])
 clear h hg hD hDF hkd
 go_enter Tryz.func7, Tryz.ntmps7
 go_upto_region 3 with (fail)
 obtain ⟨w1, hwe, HO1, HB1⟩ := asked w (oc o A o.data.length cap)
 rw [← hwe]
 clear hwe
 have ua0 := (HO1.out).b0.c8
 have ur0 := (HO1.out).b1.cf7
 have ul := (HO1.out).b1.lt
 go_wp2_with fail
 refine (HCL.out _ (HH.out _ HB1.out)).mono ?_
 rintro e w9 ⟨r, rfl, hs9, hTu9⟩
 clear ua0 ur0 ul
 have HO9 := Lib.hid (HO1.out.turn2 hTu9 (fun e => by have := HFL.out _ e; omega) (fun e => by have := HFL.out _ e; omega))
 have HS9 := Lib.hid hs9
 have HTu9 := Lib.hid hTu9
 clear hs9 hTu9
 have vr0 := (HO9.out).b1.cf7
 have vl := (HO9.out).b1.lt
 go_wp2_with fail
 refine bodyPost_ret (v := .agg #[.int .i64 r, .int .i64 0, .slice none 0 0, .slice none 0 0, .int .i64 0, .int .i64 0, .int .i64 0]) (by simp [results, Tryz.results7, go_sem, vr0, vl]) rfl ?_
 rw [HR.out]
 exact ans_fin (F' := F) (wX := w1) HT.out HS9.out (Nat.le_refl _) ((Turn.of_below (S := F) HB1.out).trans (S' := F) HTu9.out fun _ _ e => e) HB1.out.size (fun j e => .inl e) (by omega) HO1.out.b1.lt (fun e => by have := HFL.out _ e; omega)
theorem do11 (o : OpT) (A : Option Addr) (cap : Nat) (w : World) (h : TreeIs F w t M c a) (hg : Good a c) (hc : c ≤ 100000) (hp : o.path.size ≤ 1000) (hp2 : o.to.size ≤ 1000)
  (hD : RdB w (.slice A o.data.length cap) o.data) (hDF : ∀ g x, A = some ⟨g, x, none⟩ → ¬ F g) (hkd : o.kind = 11) :
  Calls Tryz.prog 7 #[.pointer (some ⟨t, 0, none⟩), o.val A o.data.length cap] w (AnsPost F t (c + 2) (a.doT o) w) := by
 unfold OpT.val
 have e1 := kf 1 hkd rfl
 have e2 := kf 2 hkd rfl
 have e3 := kf 3 hkd rfl
 have e4 := kf 4 hkd rfl
 have e5 := kf 5 hkd rfl
 have e14 := kf 14 hkd rfl
 have e7 := kf 7 hkd rfl
 have e8 := kf 8 hkd rfl
 have e10 := kf 10 hkd rfl
 have e9 := kf 9 hkd rfl
 have e11 := kt 11 hkd rfl
 have HT := Lib.hid h
 have HH := Lib.hid (fun W (hb : Below w.heap.size w W) => h.below hb)
 have HFL : Hid (∀ j, F j → j < w.heap.size) := Lib.hid fun j e => h.lt j e
 have HDW := Lib.hid (fun W (hb : Below w.heap.size w W) => hD.below hb)
 have HCL := Lib.hid (fun W (h : TreeIs F W t M c a) => show Calls Tryz.prog 31 #[.pointer (some ⟨t, 0, none⟩), .agg (oc o A o.data.length cap)] W (ErrPost F t (c + 2) (a.renameT o) W) from rename_any o A o.data.length cap W h hg hc hp hp2)
 have HR := Lib.hid (show a.doT o = a.renameT o by unfold TS.doT; simp [hkd])
 clear h hg hD hDF hkd
 go_enter Tryz.func7, Tryz.ntmps7
 go_upto_region 3 with (fail)
 obtain ⟨w1, hwe, HO1, HB1⟩ := asked w (oc o A o.data.length cap)
 rw [← hwe]
 clear hwe
 have ua0 := (HO1.out).b0.c8
 have ur0 := (HO1.out).b1.cf7
 have ul := (HO1.out).b1.lt
 go_wp2_with fail
 refine (HCL.out _ (HH.out _ HB1.out)).mono ?_
 rintro e w9 ⟨r, rfl, hs9, hTu9⟩
 clear ua0 ur0 ul
 have HO9 := Lib.hid (HO1.out.turn2 hTu9 (fun e => by have := HFL.out _ e; omega) (fun e => by have := HFL.out _ e; omega))
 have HS9 := Lib.hid hs9
 have HTu9 := Lib.hid hTu9
 clear hs9 hTu9
 have vr0 := (HO9.out).b1.cf7
 have vl := (HO9.out).b1.lt
 go_wp2_with fail
 refine bodyPost_ret (v := .agg #[.int .i64 r, .int .i64 0, .slice none 0 0, .slice none 0 0, .int .i64 0, .int .i64 0, .int .i64 0]) (by simp [results, Tryz.results7, go_sem, vr0, vl]) rfl ?_
 rw [HR.out]
 exact ans_fin (F' := F) (wX := w1) HT.out HS9.out (Nat.le_refl _) ((Turn.of_below (S := F) HB1.out).trans (S' := F) HTu9.out fun _ _ e => e) HB1.out.size (fun j e => .inl e) (by omega) HO1.out.b1.lt (fun e => by have := HFL.out _ e; omega)
theorem do6 (o : OpT) (A : Option Addr) (cap : Nat) (w : World) (h : TreeIs F w t M c a) (hg : Good a c) (hc : c ≤ 100000) (hp : o.path.size ≤ 1000) (hp2 : o.to.size ≤ 1000)
  (hD : RdB w (.slice A o.data.length cap) o.data) (hDF : ∀ g x, A = some ⟨g, x, none⟩ → ¬ F g) (hkd : o.kind = 6) :
  Calls Tryz.prog 7 #[.pointer (some ⟨t, 0, none⟩), o.val A o.data.length cap] w (AnsPost F t (c + 2) (a.doT o) w) := by
 unfold OpT.val
 have e1 := kf 1 hkd rfl
 have e2 := kf 2 hkd rfl
 have e3 := kf 3 hkd rfl
 have e4 := kf 4 hkd rfl
 have e5 := kf 5 hkd rfl
 have e14 := kf 14 hkd rfl
 have e7 := kf 7 hkd rfl
 have e8 := kf 8 hkd rfl
 have e10 := kf 10 hkd rfl
 have e9 := kf 9 hkd rfl
 have e11 := kf 11 hkd rfl
 have e6 := kt 6 hkd rfl
 have HT := Lib.hid h
 have HH := Lib.hid (fun W (hb : Below w.heap.size w W) => h.below hb)
 have HFL : Hid (∀ j, F j → j < w.heap.size) := Lib.hid fun j e => h.lt j e
 have HDW := Lib.hid (fun W (hb : Below w.heap.size w W) => hD.below hb)
 have HCL := Lib.hid (fun W (h : TreeIs F W t M c a) => show Calls Tryz.prog 32 #[.pointer (some ⟨t, 0, none⟩), .agg (oc o A o.data.length cap)] W (AnsPost F t (c + 2) (a.oneT o) W) from one_any o A o.data.length cap W h hg hc hp)
 have HR := Lib.hid (show a.doT o = a.oneT o by unfold TS.doT; simp [hkd])
 clear h hg hD hDF hkd
 go_enter Tryz.func7, Tryz.ntmps7
 go_upto_region 3 with (fail)
 obtain ⟨w1, hwe, HO1, HB1⟩ := asked w (oc o A o.data.length cap)
 rw [← hwe]
 clear hwe
 have ua0 := (HO1.out).b0.c8
 have ur0 := (HO1.out).b1.cf7
 have ul := (HO1.out).b1.lt
 go_wp2_with fail
 refine (HCL.out _ (HH.out _ HB1.out)).mono ?_
 rintro e w9 ⟨er, en, B1, n1, c1, B2, n2, c2, ek, es, el, rfl, hs9, hTu9⟩
 clear ua0 ur0 ul
 have HO9 := Lib.hid (HO1.out.turn2 hTu9 (fun e => by have := HFL.out _ e; omega) (fun e => by have := HFL.out _ e; omega))
 have HS9 := Lib.hid hs9
 have HTu9 := Lib.hid hTu9
 clear hs9 hTu9
 have vr0 := (HO9.out).b1.cf7
 have vl := (HO9.out).b1.lt
 unfold ansV
 go_wp2_with fail
 refine bodyPost_ret (v := .agg #[.int .i64 er, .int .i64 en, .slice B1 n1 c1, .slice B2 n2 c2, .int .i64 ek, .int .i64 es, .int .i64 el]) (by simp [results, Tryz.results7, go_sem, vr0, vl]) rfl ?_
 rw [HR.out]
 exact ans_fin (F' := F) (wX := w1) HT.out HS9.out (Nat.le_refl _) ((Turn.of_below (S := F) HB1.out).trans (S' := F) HTu9.out fun _ _ e => e) HB1.out.size (fun j e => .inl e) (by omega) HO1.out.b1.lt (fun e => by have := HFL.out _ e; omega)
theorem do12 (o : OpT) (A : Option Addr) (cap : Nat) (w : World) (h : TreeIs F w t M c a) (hg : Good a c) (hc : c ≤ 100000) (hp : o.path.size ≤ 1000) (hp2 : o.to.size ≤ 1000)
  (hD : RdB w (.slice A o.data.length cap) o.data) (hDF : ∀ g x, A = some ⟨g, x, none⟩ → ¬ F g) (hkd : o.kind = 12) :
  Calls Tryz.prog 7 #[.pointer (some ⟨t, 0, none⟩), o.val A o.data.length cap] w (AnsPost F t (c + 2) (a.doT o) w) := by
 unfold OpT.val
 have e1 := kf 1 hkd rfl
 have e2 := kf 2 hkd rfl
 have e3 := kf 3 hkd rfl
 have e4 := kf 4 hkd rfl
 have e5 := kf 5 hkd rfl
 have e14 := kf 14 hkd rfl
 have e7 := kf 7 hkd rfl
 have e8 := kf 8 hkd rfl
 have e10 := kf 10 hkd rfl
 have e9 := kf 9 hkd rfl
 have e11 := kf 11 hkd rfl
 have e6 := kf 6 hkd rfl
 have e12 := kt 12 hkd rfl
 have HT := Lib.hid h
 have HH := Lib.hid (fun W (hb : Below w.heap.size w W) => h.below hb)
 have HFL : Hid (∀ j, F j → j < w.heap.size) := Lib.hid fun j e => h.lt j e
 have HDW := Lib.hid (fun W (hb : Below w.heap.size w W) => hD.below hb)
 have HCL := Lib.hid (fun W (h : TreeIs F W t M c a) => show Calls Tryz.prog 32 #[.pointer (some ⟨t, 0, none⟩), .agg (oc o A o.data.length cap)] W (AnsPost F t (c + 2) (a.oneT o) W) from one_any o A o.data.length cap W h hg hc hp)
 have HR := Lib.hid (show a.doT o = a.oneT o by unfold TS.doT; simp [hkd])
 clear h hg hD hDF hkd
 go_enter Tryz.func7, Tryz.ntmps7
 go_upto_region 3 with (fail)
 obtain ⟨w1, hwe, HO1, HB1⟩ := asked w (oc o A o.data.length cap)
 rw [← hwe]
 clear hwe
 have ua0 := (HO1.out).b0.c8
 have ur0 := (HO1.out).b1.cf7
 have ul := (HO1.out).b1.lt
 go_wp2_with fail
 refine (HCL.out _ (HH.out _ HB1.out)).mono ?_
 rintro e w9 ⟨er, en, B1, n1, c1, B2, n2, c2, ek, es, el, rfl, hs9, hTu9⟩
 clear ua0 ur0 ul
 have HO9 := Lib.hid (HO1.out.turn2 hTu9 (fun e => by have := HFL.out _ e; omega) (fun e => by have := HFL.out _ e; omega))
 have HS9 := Lib.hid hs9
 have HTu9 := Lib.hid hTu9
 clear hs9 hTu9
 have vr0 := (HO9.out).b1.cf7
 have vl := (HO9.out).b1.lt
 unfold ansV
 go_wp2_with fail
 refine bodyPost_ret (v := .agg #[.int .i64 er, .int .i64 en, .slice B1 n1 c1, .slice B2 n2 c2, .int .i64 ek, .int .i64 es, .int .i64 el]) (by simp [results, Tryz.results7, go_sem, vr0, vl]) rfl ?_
 rw [HR.out]
 exact ans_fin (F' := F) (wX := w1) HT.out HS9.out (Nat.le_refl _) ((Turn.of_below (S := F) HB1.out).trans (S' := F) HTu9.out fun _ _ e => e) HB1.out.size (fun j e => .inl e) (by omega) HO1.out.b1.lt (fun e => by have := HFL.out _ e; omega)
theorem do13 (o : OpT) (A : Option Addr) (cap : Nat) (w : World) (h : TreeIs F w t M c a) (hg : Good a c) (hc : c ≤ 100000) (hp : o.path.size ≤ 1000) (hp2 : o.to.size ≤ 1000)
  (hD : RdB w (.slice A o.data.length cap) o.data) (hDF : ∀ g x, A = some ⟨g, x, none⟩ → ¬ F g) (hkd : o.kind = 13) :
  Calls Tryz.prog 7 #[.pointer (some ⟨t, 0, none⟩), o.val A o.data.length cap] w (AnsPost F t (c + 2) (a.doT o) w) := by
 unfold OpT.val
 have e1 := kf 1 hkd rfl
 have e2 := kf 2 hkd rfl
 have e3 := kf 3 hkd rfl
 have e4 := kf 4 hkd rfl
 have e5 := kf 5 hkd rfl
 have e14 := kf 14 hkd rfl
 have e7 := kf 7 hkd rfl
 have e8 := kf 8 hkd rfl
 have e10 := kf 10 hkd rfl
 have e9 := kf 9 hkd rfl
 have e11 := kf 11 hkd rfl
 have e6 := kf 6 hkd rfl
 have e12 := kf 12 hkd rfl
 have e13 := kt 13 hkd rfl
 have HT := Lib.hid h
 have HH := Lib.hid (fun W (hb : Below w.heap.size w W) => h.below hb)
 have HFL : Hid (∀ j, F j → j < w.heap.size) := Lib.hid fun j e => h.lt j e
 have HDW := Lib.hid (fun W (hb : Below w.heap.size w W) => hD.below hb)
 have HCL := Lib.hid (fun W (h : TreeIs F W t M c a) => show Calls Tryz.prog 32 #[.pointer (some ⟨t, 0, none⟩), .agg (oc o A o.data.length cap)] W (AnsPost F t (c + 2) (a.oneT o) W) from one_any o A o.data.length cap W h hg hc hp)
 have HR := Lib.hid (show a.doT o = a.oneT o by unfold TS.doT; simp [hkd])
 clear h hg hD hDF hkd
 go_enter Tryz.func7, Tryz.ntmps7
 go_upto_region 3 with (fail)
 obtain ⟨w1, hwe, HO1, HB1⟩ := asked w (oc o A o.data.length cap)
 rw [← hwe]
 clear hwe
 have ua0 := (HO1.out).b0.c8
 have ur0 := (HO1.out).b1.cf7
 have ul := (HO1.out).b1.lt
 go_wp2_with fail
 refine (HCL.out _ (HH.out _ HB1.out)).mono ?_
 rintro e w9 ⟨er, en, B1, n1, c1, B2, n2, c2, ek, es, el, rfl, hs9, hTu9⟩
 clear ua0 ur0 ul
 have HO9 := Lib.hid (HO1.out.turn2 hTu9 (fun e => by have := HFL.out _ e; omega) (fun e => by have := HFL.out _ e; omega))
 have HS9 := Lib.hid hs9
 have HTu9 := Lib.hid hTu9
 clear hs9 hTu9
 have vr0 := (HO9.out).b1.cf7
 have vl := (HO9.out).b1.lt
 unfold ansV
 go_wp2_with fail
 refine bodyPost_ret (v := .agg #[.int .i64 er, .int .i64 en, .slice B1 n1 c1, .slice B2 n2 c2, .int .i64 ek, .int .i64 es, .int .i64 el]) (by simp [results, Tryz.results7, go_sem, vr0, vl]) rfl ?_
 rw [HR.out]
 exact ans_fin (F' := F) (wX := w1) HT.out HS9.out (Nat.le_refl _) ((Turn.of_below (S := F) HB1.out).trans (S' := F) HTu9.out fun _ _ e => e) HB1.out.size (fun j e => .inl e) (by omega) HO1.out.b1.lt (fun e => by have := HFL.out _ e; omega)
theorem do15 (o : OpT) (A : Option Addr) (cap : Nat) (w : World) (h : TreeIs F w t M c a) (hg : Good a c) (hc : c ≤ 100000) (hp : o.path.size ≤ 1000) (hp2 : o.to.size ≤ 1000)
  (hD : RdB w (.slice A o.data.length cap) o.data) (hDF : ∀ g x, A = some ⟨g, x, none⟩ → ¬ F g) (hkd : o.kind = 15) :
  Calls Tryz.prog 7 #[.pointer (some ⟨t, 0, none⟩), o.val A o.data.length cap] w (AnsPost F t (c + 2) (a.doT o) w) := by
 unfold OpT.val
 have e1 := kf 1 hkd rfl
 have e2 := kf 2 hkd rfl
 have e3 := kf 3 hkd rfl
 have e4 := kf 4 hkd rfl
 have e5 := kf 5 hkd rfl
 have e14 := kf 14 hkd rfl
 have e7 := kf 7 hkd rfl
 have e8 := kf 8 hkd rfl
 have e10 := kf 10 hkd rfl
 have e9 := kf 9 hkd rfl
 have e11 := kf 11 hkd rfl
 have e6 := kf 6 hkd rfl
 have e12 := kf 12 hkd rfl
 have e13 := kf 13 hkd rfl
 have e15 := kt 15 hkd rfl
 have HT := Lib.hid h
 have HR := Lib.hid (show a.doT o = a by unfold TS.doT; simp [hkd])
 clear h hg hD hDF hkd
 go_enter Tryz.func7, Tryz.ntmps7
 go_upto_region 3 with (fail)
 obtain ⟨w1, hwe, HO1, HB1⟩ := asked w (oc o A o.data.length cap)
 rw [← hwe]
 clear hwe
 have ua0 := (HO1.out).b0.c8
 have ur0 := (HO1.out).b1.cf7
 have ul := (HO1.out).b1.lt
 go_wp2_with fail
 refine bodyPost_ret (v := .agg #[.int .i64 0, .int .i64 0, .slice none 0 0, .slice none 0 0, .int .i64 0, .int .i64 0, .int .i64 0]) (by simp [results, Tryz.results7, go_sem, ur0, ul]) rfl ?_
 rw [HR.out]
 exact ans_same HT.out (ans_set HB1.out (by omega) _ _ _ _ _ _ _)
theorem do0 (o : OpT) (A : Option Addr) (cap : Nat) (w : World) (h : TreeIs F w t M c a) (hg : Good a c) (hc : c ≤ 100000) (hp : o.path.size ≤ 1000) (hp2 : o.to.size ≤ 1000)
  (hD : RdB w (.slice A o.data.length cap) o.data) (hDF : ∀ g x, A = some ⟨g, x, none⟩ → ¬ F g) (k1 : o.kind ≠ 1) (k2 : o.kind ≠ 2) (k3 : o.kind ≠ 3) (k4 : o.kind ≠ 4) (k5 : o.kind ≠ 5) (k14 : o.kind ≠ 14) (k7 : o.kind ≠ 7) (k8 : o.kind ≠ 8) (k10 : o.kind ≠ 10) (k9 : o.kind ≠ 9) (k11 : o.kind ≠ 11) (k6 : o.kind ≠ 6) (k12 : o.kind ≠ 12) (k13 : o.kind ≠ 13) (k15 : o.kind ≠ 15) :
  Calls Tryz.prog 7 #[.pointer (some ⟨t, 0, none⟩), o.val A o.data.length cap] w (AnsPost F t (c + 2) (a.doT o) w) := by
 unfold OpT.val
 have e1 : (o.kind == 1) = false := beq_eq_false_iff_ne.2 k1
 have e2 : (o.kind == 2) = false := beq_eq_false_iff_ne.2 k2
 have e3 : (o.kind == 3) = false := beq_eq_false_iff_ne.2 k3
 have e4 : (o.kind == 4) = false := beq_eq_false_iff_ne.2 k4
 have e5 : (o.kind == 5) = false := beq_eq_false_iff_ne.2 k5
 have e14 : (o.kind == 14) = false := beq_eq_false_iff_ne.2 k14
 have e7 : (o.kind == 7) = false := beq_eq_false_iff_ne.2 k7
 have e8 : (o.kind == 8) = false := beq_eq_false_iff_ne.2 k8
 have e10 : (o.kind == 10) = false := beq_eq_false_iff_ne.2 k10
 have e9 : (o.kind == 9) = false := beq_eq_false_iff_ne.2 k9
 have e11 : (o.kind == 11) = false := beq_eq_false_iff_ne.2 k11
 have e6 : (o.kind == 6) = false := beq_eq_false_iff_ne.2 k6
 have e12 : (o.kind == 12) = false := beq_eq_false_iff_ne.2 k12
 have e13 : (o.kind == 13) = false := beq_eq_false_iff_ne.2 k13
 have e15 : (o.kind == 15) = false := beq_eq_false_iff_ne.2 k15
 have HT := Lib.hid h
 have HR := Lib.hid (show a.doT o = a by unfold TS.doT; simp [k1, k2, k3, k4, k5, k14, k7, k8, k10, k9, k11, k6, k12, k13, k15])
 clear h hg hD hDF k1 k2 k3 k4 k5 k14 k7 k8 k10 k9 k11 k6 k12 k13 k15
 go_enter Tryz.func7, Tryz.ntmps7
 go_upto_region 3 with (fail)
 obtain ⟨w1, hwe, HO1, HB1⟩ := asked w (oc o A o.data.length cap)
 rw [← hwe]
 clear hwe
 have ua0 := (HO1.out).b0.c8
 have ur0 := (HO1.out).b1.cf7
 have ul := (HO1.out).b1.lt
 go_wp2_with fail
 refine bodyPost_ret (v := .agg #[.int .i64 2, .int .i64 0, .slice none 0 0, .slice none 0 0, .int .i64 0, .int .i64 0, .int .i64 0]) (by simp [results, Tryz.results7, go_sem, ur0, ul]) rfl ?_
 rw [HR.out]
 exact ans_same HT.out (ans_set HB1.out (by omega) _ _ _ _ _ _ _)
theorem do_any (o : OpT) (A : Option Addr) (cap : Nat) (w : World) (h : TreeIs F w t M c a) (hg : Good a c) (hc : c ≤ 100000) (hp : o.path.size ≤ 1000) (hp2 : o.to.size ≤ 1000)
  (hD : RdB w (.slice A o.data.length cap) o.data) (hDF : ∀ g x, A = some ⟨g, x, none⟩ → ¬ F g) :
  Calls Tryz.prog 7 #[.pointer (some ⟨t, 0, none⟩), o.val A o.data.length cap] w (AnsPost F t (c + 2) (a.doT o) w) := by
 by_cases k1 : o.kind = 1
 ·exact do1 o A cap w h hg hc hp hp2 hD hDF k1
 by_cases k2 : o.kind = 2
 ·exact do2 o A cap w h hg hc hp hp2 hD hDF k2
 by_cases k3 : o.kind = 3
 ·exact do3 o A cap w h hg hc hp hp2 hD hDF k3
 by_cases k4 : o.kind = 4
 ·exact do4 o A cap w h hg hc hp hp2 hD hDF k4
 by_cases k5 : o.kind = 5
 ·exact do5 o A cap w h hg hc hp hp2 hD hDF k5
 by_cases k14 : o.kind = 14
 ·exact do14 o A cap w h hg hc hp hp2 hD hDF k14
 by_cases k7 : o.kind = 7
 ·exact do7 o A cap w h hg hc hp hp2 hD hDF k7
 by_cases k8 : o.kind = 8
 ·exact do8 o A cap w h hg hc hp hp2 hD hDF k8
 by_cases k10 : o.kind = 10
 ·exact do10 o A cap w h hg hc hp hp2 hD hDF k10
 by_cases k9 : o.kind = 9
 ·exact do9 o A cap w h hg hc hp hp2 hD hDF k9
 by_cases k11 : o.kind = 11
 ·exact do11 o A cap w h hg hc hp hp2 hD hDF k11
 by_cases k6 : o.kind = 6
 ·exact do6 o A cap w h hg hc hp hp2 hD hDF k6
 by_cases k12 : o.kind = 12
 ·exact do12 o A cap w h hg hc hp hp2 hD hDF k12
 by_cases k13 : o.kind = 13
 ·exact do13 o A cap w h hg hc hp hp2 hD hDF k13
 by_cases k15 : o.kind = 15
 ·exact do15 o A cap w h hg hc hp hp2 hD hDF k15
 exact do0 o A cap w h hg hc hp hp2 hD hDF k1 k2 k3 k4 k5 k14 k7 k8 k10 k9 k11 k6 k12 k13 k15
end
end Go.Proofs.YtpkhglfhpggceaaGreatDoor
