/- What package tree does to memory: held (printed by genheld.py). -/
import Derived.Test.YtpkhglfhpggceaaGreatDoorWrite
namespace Go.Proofs.YtpkhglfhpggceaaGreatDoor
set_option maxRecDepth 100000
set_option maxHeartbeats 16000000
open Go.RowKit Go.Proofs.YtpkhglfhpggceaaGreatDoorW.PrintLast
set_option linter.unusedVariables false
set_option linter.unusedSimpArgs false
section
variable {F : Nat → Prop} {w w' : World} {t c : Nat} {M : TMem} {a : TS}
theorem set116 {W : World} {b : Nat} {cs : Value × Value × Value} (h : Blk W b 116 #[cs.1, cs.2.1, cs.2.2]) (v0 v1 v2 : Value) :
  Blk (((W.setCell ⟨b, 0, none⟩ v0).setCell ⟨b, 1, none⟩ v1).setCell ⟨b, 2, none⟩ v2) b 116 #[v0, v1, v2] ∧ Turn (· = b) W (((W.setCell ⟨b, 0, none⟩ v0).setCell ⟨b, 1, none⟩ v1).setCell ⟨b, 2, none⟩ v2) :=
 ⟨((h.set_ 0 v0).set_ 1 v1).set_ 2 v2, (((Turn.refl (· = b) W).setCell (p := ⟨b, 0, none⟩) (fun _ => rfl) v0).setCell (p := ⟨b, 1, none⟩) (fun _ => rfl) v1).setCell (p := ⟨b, 2, none⟩) (fun _ => rfl) v2⟩
theorem set116b {B : Nat} {w W : World} (h : Below B w W) {b : Nat} (hb : B ≤ b) (v0 v1 v2 : Value) : Below B w (((W.setCell ⟨b, 0, none⟩ v0).setCell ⟨b, 1, none⟩ v1).setCell ⟨b, 2, none⟩ v2) := below_set (below_set (below_set h hb _) hb _) hb _
theorem held_none (o : OpT) (A : Option Addr) (cap : Nat) (w : World) (h : TreeIs F w t M c a) (hf : lookO a.op o.fd = none) :
  Calls Tryz.prog 27 #[.pointer (some ⟨t, 0, none⟩), o.val A o.data.length cap] w (AnsPost F t (c + 2) (a.heldT o) w) := by
 unfold OpT.val
 have HT := Lib.hid h
 have HH := Lib.hid (fun W (hb : Below w.heap.size w W) => h.below hb)
 have HGT := Lib.hid (fun W (h : TreeIs F W t M c a) => show Calls Tryz.prog 64 #[.pointer (some ⟨M.tb, 0, none⟩), .int .i64 o.fd] W (fun e w' => e = .returned (.tuple #[.agg #[.int .i64 0, .int .i64 0, .int .i64 0], .int .i64 46]) ∧ Below W.heap.size W w') from by have := tget_any o.fd W h; rw [hf] at this; exact this)
 have HR := Lib.hid (show a.heldT o = a by unfold TS.heldT; rw [hf])
 clear h hf
 go_enter Tryz.func27, Tryz.ntmps27
 go_upto_region 1 with (fail)
 have HO := Lib.hid (OO.start w (oc o A o.data.length cap))
 have HB := Lib.hid (below_00 w (.cells (oc o A o.data.length cap) 36) (.cells zero7 33))
 have HFL0 : Hid (∀ j, F j → j < w.heap.size) := Lib.hid fun j e => HT.out.lt j e
 generalize (w.alloc (.cells (oc o A o.data.length cap) 36)).alloc (.cells zero7 33) = w1 at *
 have HT1 := Lib.hid (HH.out _ HB.out)
 have HC3 : Hid (∀ W, OO W w.heap.size (oc o A o.data.length cap) → W.cell? ⟨w.heap.size, 3, none⟩ = some (.int .i64 o.fd)) := Lib.hid fun W hO => by have := hO.b0.cell 3; simpa using this
 have hO := HO.out.drew
 have hT := HT1.out.drew
 have hB : Below w.heap.size w w1.drew := HB.out.trans drew_below'
 refine start_ (n := 13) (S := fun w' => w'.cell? ⟨t, 2, none⟩ = some (.pointer (some ⟨M.tb, 0, none⟩)) ∧ w'.cell? ⟨w.heap.size, 3, none⟩ = some (.int .i64 o.fd)) (ds := []) (bs 13 0) (by kernel_rfl) rfl rfl ⟨hT.cells.2.2, (HC3.out _ hO)⟩ (fun hHeld => ?_)
 refine py_ 0 8 (bs 13 1) rfl rfl (by kernel_rfl) (fun _ _ _ h => h) (by rfl) (fun w' => by go_simp; with_reducible rfl) (by simp only [Act.put, sA, sZ, sS, i64_w, i32_w]; rfl) ?_
 refine py_ 1 9 (bs 13 3) rfl rfl (by kernel_rfl) (fun _ _ _ h => h) (by rfl) (fun w' => by go_simp; with_reducible rfl) (by simp only [Act.put, sA, sZ, sS, i64_w, i32_w]; rfl) ?_
 refine py_ 2 10 (bs 13 7) rfl rfl (by kernel_rfl) (fun _ _ _ h => h) (by rfl) (fun w' => by go_simp; with_reducible rfl) (by simp only [Act.put, sA, sZ, sS, i64_w, i32_w]; rfl) ?_
 refine py_ 4 12 (bs 13 23) rfl rfl (by kernel_rfl) (fun _ _ _ h => h) (by rfl) (fun w' => by go_simp; with_reducible rfl) (by simp only [Act.put, sA, sZ, sS, i64_w, i32_w]; rfl) ?_
 refine ty_ 3 11 (bs 13 31) rfl rfl (by kernel_rfl) (fun _ _ _ h => h) (by rfl) (by rintro w' ⟨s0, s1⟩; go_simp; with_reducible rfl) hHeld (by simp only [Act.put, sA, sZ, sS, i64_w, i32_w]; rfl) ?_
 refine ty_ 5 13 (bs 13 63) rfl rfl (by kernel_rfl) (fun _ _ _ h => h) (by rfl) (by rintro w' ⟨s0, s1⟩; go_simp; with_reducible rfl) hHeld (by simp only [Act.put, sA, sZ, sS, i64_w, i32_w]; rfl) ?_
 refine join_ (σ := Nat) 2 (bs 13 2047) (fun s => [(14, Value.tuple #[.agg #[.int .i64 0, .int .i64 0, .int .i64 0], .int .i64 46]), (7, Value.tuple #[.agg #[.int .i64 0, .int .i64 0, .int .i64 0], .int .i64 46]), (15, Value.agg #[.int .i64 0, .int .i64 0, .int .i64 0]), (16, Value.int .i64 46), (5, Value.pointer (some ⟨s, 0, none⟩))]) (fun s w' => TreeIs F w' t M c a ∧ OO w' w.heap.size (oc o A o.data.length cap) ∧ Below w.heap.size w w' ∧ Blk w' s 116 #[.int .i64 0, .int .i64 0, .int .i64 0] ∧ w.heap.size + 1 < s) ?_ ?_
 rotate_left
 ·intro hCont
  refine two_ (i := 6) (j := 10) (Ni := some 14) (Nj := some 5) (bs 13 127) (bs 13 1087) rfl rfl rfl rfl (by kernel_rfl) (by decide) (by decide) (fun K hK => ?_) (fun K hK => ?_)
  ·skip
   refine goes_ Tryz.func64 (by kernel_rfl) rfl #[.pointer (some ⟨M.tb, 0, none⟩), .int .i64 o.fd] (by rfl) rfl rfl (by simp only [List.map_toArray, List.map_cons, List.map_nil]; rfl) ?_
   with_reducible refine ((HGT.out _ hT)).mono ?_
   rintro e w3 ⟨rfl, hb3⟩
   refine ⟨_, rfl, ?_⟩
   have hT := hT.below hb3
   have hO := hO.below hb3
   have hB := hB.trans (hb3.mono hB.size)
   clear hb3
   refine hK.out _ _ ⟨hT.cells.2.2, (HC3.out _ hO)⟩ (fun hHeld => ?_)
   clear hK K
   refine norm_ (a' := ?_) ?_ ?_
   rotate_left
   ·show Act.put _ (some 14) _ = _
    simp only [Act.put, sA, sZ, sS, i64_w, i32_w]
    rfl
   refine py_ 7 7 (bs 13 255) rfl rfl (by kernel_rfl) (fun _ _ _ h => h) (by rfl) (fun w' => by go_simp; with_reducible rfl) (by simp only [Act.put, sA, sZ, sS, i64_w, i32_w]; rfl) ?_
   refine py_ 8 15 (bs 13 511) rfl rfl (by kernel_rfl) (fun _ _ _ h => h) (by rfl) (fun w' => by go_simp; with_reducible rfl) (by simp only [Act.put, sA, sZ, sS, i64_w, i32_w]; rfl) ?_
   refine py_ 9 16 (bs 13 1023) rfl rfl (by kernel_rfl) (fun _ _ _ h => h) (by rfl) (fun w' => by go_simp; with_reducible rfl) (by simp only [Act.put, sA, sZ, sS, i64_w, i32_w]; rfl) ?_
   refine one_ (i := 10) (N := some 5) (bs 13 2047) rfl rfl (by kernel_rfl) (by decide) (fun K hK => ?_)
   refine value_ (w1 := ?_) (v := ?_) (by rfl) rfl ?_ ?_
   rotate_left 2
   ·go_simp
    constructor
    ·rfl
    ·rfl
   have hX := Blk.new w3 116 #[.int .i64 0, .int .i64 0, .int .i64 0]
   have hs : w.heap.size + 1 < w3.heap.size := hO.b1.lt
   have hT := hT.below ((Below.refl _ _).alloc (Nat.le_refl _) (.cells #[.int .i64 0, .int .i64 0, .int .i64 0] 116))
   have hO := hO.alloc (.cells #[.int .i64 0, .int .i64 0, .int .i64 0] 116)
   have hB := hB.alloc hB.size (.cells #[.int .i64 0, .int .i64 0, .int .i64 0] 116)
   refine hK.out _ _ ⟨hT.cells.2.2, (HC3.out _ hO)⟩ (fun hHeld => ?_)
   clear hK K
   refine norm_ (a' := ?_) ?_ ?_
   rotate_left
   ·show Act.put _ (some 5) _ = _
    simp only [Act.put, sA, sZ, sS, i64_w, i32_w]
    rfl
   exact norm_ (by simp only [putAll, Act.put, sA, sZ, sS]) (hCont w3.heap.size _ ⟨hT, hO, hB, hX, hs⟩)
  ·skip
   refine value_ (w1 := ?_) (v := ?_) (by rfl) rfl ?_ ?_
   rotate_left 2
   ·go_simp
    constructor
    ·rfl
    ·rfl
   have hX := (Blk.new w1 116 #[.int .i64 0, .int .i64 0, .int .i64 0]).drew
   have hs : w.heap.size + 1 < w1.heap.size := HO.out.b1.lt
   have hT := (HT1.out.below ((Below.refl _ _).alloc (Nat.le_refl _) (.cells #[.int .i64 0, .int .i64 0, .int .i64 0] 116))).drew
   have hO := (HO.out.alloc (.cells #[.int .i64 0, .int .i64 0, .int .i64 0] 116)).drew
   have hB : Below w.heap.size w (w1.alloc (.cells #[.int .i64 0, .int .i64 0, .int .i64 0] 116)).drew := (HB.out.alloc HB.out.size (.cells #[.int .i64 0, .int .i64 0, .int .i64 0] 116)).trans drew_below'
   refine hK.out _ _ ⟨hT.cells.2.2, (HC3.out _ hO)⟩ (fun hHeld => ?_)
   clear hK K
   refine norm_ (a' := ?_) ?_ ?_
   rotate_left
   ·show Act.put _ (some 5) _ = _
    simp only [Act.put, sA, sZ, sS, i64_w, i32_w]
    rfl
   refine one_ (i := 6) (N := some 14) (bs 13 1151) rfl rfl (by kernel_rfl) (by decide) (fun K hK => ?_)
   refine goes_ Tryz.func64 (by kernel_rfl) rfl #[.pointer (some ⟨M.tb, 0, none⟩), .int .i64 o.fd] (by rfl) rfl rfl (by simp only [List.map_toArray, List.map_cons, List.map_nil]; rfl) ?_
   with_reducible refine ((HGT.out _ hT)).mono ?_
   rintro e w3 ⟨rfl, hb3⟩
   refine ⟨_, rfl, ?_⟩
   have hT := hT.below hb3
   have hO := hO.below hb3
   have hX := hX.below hb3 hX.lt
   have hB := hB.trans (hb3.mono hB.size)
   clear hb3
   refine hK.out _ _ ⟨hT.cells.2.2, (HC3.out _ hO)⟩ (fun hHeld => ?_)
   clear hK K
   refine norm_ (a' := ?_) ?_ ?_
   rotate_left
   ·show Act.put _ (some 14) _ = _
    simp only [Act.put, sA, sZ, sS, i64_w, i32_w]
    rfl
   refine py_ 7 7 (bs 13 1279) rfl rfl (by kernel_rfl) (fun _ _ _ h => h) (by rfl) (fun w' => by go_simp; with_reducible rfl) (by simp only [Act.put, sA, sZ, sS, i64_w, i32_w]; rfl) ?_
   refine py_ 8 15 (bs 13 1535) rfl rfl (by kernel_rfl) (fun _ _ _ h => h) (by rfl) (fun w' => by go_simp; with_reducible rfl) (by simp only [Act.put, sA, sZ, sS, i64_w, i32_w]; rfl) ?_
   refine py_ 9 16 (bs 13 2047) rfl rfl (by kernel_rfl) (fun _ _ _ h => h) (by rfl) (fun w' => by go_simp; with_reducible rfl) (by simp only [Act.put, sA, sZ, sS, i64_w, i32_w]; rfl) ?_
   exact norm_ (by simp only [putAll, Act.put, sA, sZ, sS]) (hCont w1.heap.size _ ⟨hT, hO, hB, hX, hs⟩)
 rintro s w3 ⟨hT, hO, hB, hX, hs⟩
 have hHeld := And.intro hT.cells.2.2 (HC3.out _ hO)
 refine norm_ (a' := ?_) ?_ ?_
 rotate_left
 ·simp only [putAll, Act.put, sA, sZ, sS]
  rfl
 refine one_ (i := 11) (N := none) (bs 13 4095) rfl rfl (by kernel_rfl) (by decide) (fun K hK => ?_)
 have x0 := hX.cell 0
 have x1 := hX.cell 1
 have x2 := hX.cell 2
 have q0 := hX.frozen 0
 have q1 := hX.frozen 1
 have q2 := hX.frozen 2
 simp at x0 x1 x2
 refine skip_ (w1 := ?_) (by rfl) rfl ?_ ?_
 rotate_left
 ·go_simp
  rfl
 have hTs := set116 (cs := (.int .i64 0, .int .i64 0, .int .i64 0)) hX (.int .i64 0) (.int .i64 0) (.int .i64 0)
 have hX := hTs.1
 have hT := hT.turn hTs.2 (fun j hj e => by have := HFL0.out j hj; have e2 : j = s := e; omega) (fun e => by have e2 : 0 = s := e; omega)
 have hO := hO.turn2 hTs.2 (fun e => by have e2 : w.heap.size = s := e; omega) (fun e => by have e2 : w.heap.size + 1 = s := e; omega)
 have hB := set116b hB (b := s) (by omega) (.int .i64 0) (.int .i64 0) (.int .i64 0)
 clear x0 x1 x2 q0 q1 q2 hTs
 refine hK.out _ _ ⟨hT.cells.2.2, (HC3.out _ hO)⟩ (fun hHeld => ?_)
 clear hK K
 refine py_ 12 6 (bs 13 8191) rfl rfl (by kernel_rfl) (fun _ _ _ h => h) (by rfl) (fun w' => by go_simp; with_reducible rfl) (by simp only [Act.put, sA, sZ, sS, i64_w, i32_w]; rfl) ?_
 refine done_ (by kernel_rfl) ?_
 have HO4 := Lib.hid hO
 have HX4 := Lib.hid hX
 have HB4 := Lib.hid hB
 have HXL := Lib.hid hs
 clear hO hX hB hT hHeld hs
 generalize ((w3.setCell ⟨s, 0, none⟩ (.int .i64 0)).setCell ⟨s, 1, none⟩ (.int .i64 0)).setCell ⟨s, 2, none⟩ (.int .i64 0) = w4 at *
 have ua0 := (HO4.out).b0.c8
 have ur0 := (HO4.out).b1.cf7
 have ul := (HO4.out).b1.lt
 go_wp2_with fail
 refine bodyPost_ret (v := .agg #[.int .i64 46, .int .i64 0, .slice none 0 0, .slice none 0 0, .int .i64 0, .int .i64 0, .int .i64 0]) (by simp [results, Tryz.results27, go_sem, ur0, ul]) rfl ?_
 rw [HR.out]
 exact ans_same HT.out (ans_set HB4.out (by omega) _ _ _ _ _ _ _)
theorem held_some (o : OpT) (A : Option Addr) (cap k p : Nat) (mode : Int) (w : World) (h : TreeIs F w t M c a) (hg : Good a c) (hc : c ≤ 100000) (hk : (a.nd k).kind = 1) (hm : 1 ≤ mode ∧ mode ≤ 3) (hp : p ≤ 48640) (hf : lookO a.op o.fd = some ((k : Int), (p : Int), mode))
  (hD : RdB w (.slice A o.data.length cap) o.data) (hDF : ∀ g x, A = some ⟨g, x, none⟩ → ¬ F g) :
  Calls Tryz.prog 27 #[.pointer (some ⟨t, 0, none⟩), o.val A o.data.length cap] w (AnsPost F t (c + 2) (a.heldT o) w) := by
 unfold OpT.val
 have HT := Lib.hid h
 have HH := Lib.hid (fun W (hb : Below w.heap.size w W) => h.below hb)
 have HGT := Lib.hid (fun W (h : TreeIs F W t M c a) => show Calls Tryz.prog 64 #[.pointer (some ⟨M.tb, 0, none⟩), .int .i64 o.fd] W (fun e w' => e = .returned (.tuple #[.agg #[.int .i64 (k : Nat), .int .i64 (p : Nat), .int .i64 mode], .int .i64 0]) ∧ Below W.heap.size W w') from by have := tget_any o.fd W h; rw [hf] at this; exact this)
 have HF := Lib.hid hf
 have HFL : Hid (∀ j, F j → j < w.heap.size) := Lib.hid fun j e => h.lt j e
 have HSV := Lib.hid (And.intro h (And.intro hg (And.intro hk (And.intro hm (And.intro hf (And.intro hD hDF))))))
 clear h hg hk hm hf hD hDF
 go_enter Tryz.func27, Tryz.ntmps27
 go_upto_region 1 with (fail)
 have HO := Lib.hid (OO.start w (oc o A o.data.length cap))
 have HB := Lib.hid (below_00 w (.cells (oc o A o.data.length cap) 36) (.cells zero7 33))
 have HFL0 : Hid (∀ j, F j → j < w.heap.size) := Lib.hid fun j e => HT.out.lt j e
 generalize (w.alloc (.cells (oc o A o.data.length cap) 36)).alloc (.cells zero7 33) = w1 at *
 have HT1 := Lib.hid (HH.out _ HB.out)
 have HC3 : Hid (∀ W, OO W w.heap.size (oc o A o.data.length cap) → W.cell? ⟨w.heap.size, 3, none⟩ = some (.int .i64 o.fd)) := Lib.hid fun W hO => by have := hO.b0.cell 3; simpa using this
 have hO := HO.out.drew
 have hT := HT1.out.drew
 have hB : Below w.heap.size w w1.drew := HB.out.trans drew_below'
 refine start_ (n := 13) (S := fun w' => w'.cell? ⟨t, 2, none⟩ = some (.pointer (some ⟨M.tb, 0, none⟩)) ∧ w'.cell? ⟨w.heap.size, 3, none⟩ = some (.int .i64 o.fd)) (ds := []) (bs 13 0) (by kernel_rfl) rfl rfl ⟨hT.cells.2.2, (HC3.out _ hO)⟩ (fun hHeld => ?_)
 refine py_ 0 8 (bs 13 1) rfl rfl (by kernel_rfl) (fun _ _ _ h => h) (by rfl) (fun w' => by go_simp; with_reducible rfl) (by simp only [Act.put, sA, sZ, sS, i64_w, i32_w]; rfl) ?_
 refine py_ 1 9 (bs 13 3) rfl rfl (by kernel_rfl) (fun _ _ _ h => h) (by rfl) (fun w' => by go_simp; with_reducible rfl) (by simp only [Act.put, sA, sZ, sS, i64_w, i32_w]; rfl) ?_
 refine py_ 2 10 (bs 13 7) rfl rfl (by kernel_rfl) (fun _ _ _ h => h) (by rfl) (fun w' => by go_simp; with_reducible rfl) (by simp only [Act.put, sA, sZ, sS, i64_w, i32_w]; rfl) ?_
 refine py_ 4 12 (bs 13 23) rfl rfl (by kernel_rfl) (fun _ _ _ h => h) (by rfl) (fun w' => by go_simp; with_reducible rfl) (by simp only [Act.put, sA, sZ, sS, i64_w, i32_w]; rfl) ?_
 refine ty_ 3 11 (bs 13 31) rfl rfl (by kernel_rfl) (fun _ _ _ h => h) (by rfl) (by rintro w' ⟨s0, s1⟩; go_simp; with_reducible rfl) hHeld (by simp only [Act.put, sA, sZ, sS, i64_w, i32_w]; rfl) ?_
 refine ty_ 5 13 (bs 13 63) rfl rfl (by kernel_rfl) (fun _ _ _ h => h) (by rfl) (by rintro w' ⟨s0, s1⟩; go_simp; with_reducible rfl) hHeld (by simp only [Act.put, sA, sZ, sS, i64_w, i32_w]; rfl) ?_
 refine join_ (σ := Nat) 2 (bs 13 2047) (fun s => [(14, Value.tuple #[.agg #[.int .i64 (k : Nat), .int .i64 (p : Nat), .int .i64 mode], .int .i64 0]), (7, Value.tuple #[.agg #[.int .i64 (k : Nat), .int .i64 (p : Nat), .int .i64 mode], .int .i64 0]), (15, Value.agg #[.int .i64 (k : Nat), .int .i64 (p : Nat), .int .i64 mode]), (16, Value.int .i64 0), (5, Value.pointer (some ⟨s, 0, none⟩))]) (fun s w' => TreeIs F w' t M c a ∧ OO w' w.heap.size (oc o A o.data.length cap) ∧ Below w.heap.size w w' ∧ Blk w' s 116 #[.int .i64 0, .int .i64 0, .int .i64 0] ∧ w.heap.size + 1 < s) ?_ ?_
 rotate_left
 ·intro hCont
  refine two_ (i := 6) (j := 10) (Ni := some 14) (Nj := some 5) (bs 13 127) (bs 13 1087) rfl rfl rfl rfl (by kernel_rfl) (by decide) (by decide) (fun K hK => ?_) (fun K hK => ?_)
  ·skip
   refine goes_ Tryz.func64 (by kernel_rfl) rfl #[.pointer (some ⟨M.tb, 0, none⟩), .int .i64 o.fd] (by rfl) rfl rfl (by simp only [List.map_toArray, List.map_cons, List.map_nil]; rfl) ?_
   with_reducible refine ((HGT.out _ hT)).mono ?_
   rintro e w3 ⟨rfl, hb3⟩
   refine ⟨_, rfl, ?_⟩
   have hT := hT.below hb3
   have hO := hO.below hb3
   have hB := hB.trans (hb3.mono hB.size)
   clear hb3
   refine hK.out _ _ ⟨hT.cells.2.2, (HC3.out _ hO)⟩ (fun hHeld => ?_)
   clear hK K
   refine norm_ (a' := ?_) ?_ ?_
   rotate_left
   ·show Act.put _ (some 14) _ = _
    simp only [Act.put, sA, sZ, sS, i64_w, i32_w]
    rfl
   refine py_ 7 7 (bs 13 255) rfl rfl (by kernel_rfl) (fun _ _ _ h => h) (by rfl) (fun w' => by go_simp; with_reducible rfl) (by simp only [Act.put, sA, sZ, sS, i64_w, i32_w]; rfl) ?_
   refine py_ 8 15 (bs 13 511) rfl rfl (by kernel_rfl) (fun _ _ _ h => h) (by rfl) (fun w' => by go_simp; with_reducible rfl) (by simp only [Act.put, sA, sZ, sS, i64_w, i32_w]; rfl) ?_
   refine py_ 9 16 (bs 13 1023) rfl rfl (by kernel_rfl) (fun _ _ _ h => h) (by rfl) (fun w' => by go_simp; with_reducible rfl) (by simp only [Act.put, sA, sZ, sS, i64_w, i32_w]; rfl) ?_
   refine one_ (i := 10) (N := some 5) (bs 13 2047) rfl rfl (by kernel_rfl) (by decide) (fun K hK => ?_)
   refine value_ (w1 := ?_) (v := ?_) (by rfl) rfl ?_ ?_
   rotate_left 2
   ·go_simp
    constructor
    ·rfl
    ·rfl
   have hX := Blk.new w3 116 #[.int .i64 0, .int .i64 0, .int .i64 0]
   have hs : w.heap.size + 1 < w3.heap.size := hO.b1.lt
   have hT := hT.below ((Below.refl _ _).alloc (Nat.le_refl _) (.cells #[.int .i64 0, .int .i64 0, .int .i64 0] 116))
   have hO := hO.alloc (.cells #[.int .i64 0, .int .i64 0, .int .i64 0] 116)
   have hB := hB.alloc hB.size (.cells #[.int .i64 0, .int .i64 0, .int .i64 0] 116)
   refine hK.out _ _ ⟨hT.cells.2.2, (HC3.out _ hO)⟩ (fun hHeld => ?_)
   clear hK K
   refine norm_ (a' := ?_) ?_ ?_
   rotate_left
   ·show Act.put _ (some 5) _ = _
    simp only [Act.put, sA, sZ, sS, i64_w, i32_w]
    rfl
   exact norm_ (by simp only [putAll, Act.put, sA, sZ, sS]) (hCont w3.heap.size _ ⟨hT, hO, hB, hX, hs⟩)
  ·skip
   refine value_ (w1 := ?_) (v := ?_) (by rfl) rfl ?_ ?_
   rotate_left 2
   ·go_simp
    constructor
    ·rfl
    ·rfl
   have hX := (Blk.new w1 116 #[.int .i64 0, .int .i64 0, .int .i64 0]).drew
   have hs : w.heap.size + 1 < w1.heap.size := HO.out.b1.lt
   have hT := (HT1.out.below ((Below.refl _ _).alloc (Nat.le_refl _) (.cells #[.int .i64 0, .int .i64 0, .int .i64 0] 116))).drew
   have hO := (HO.out.alloc (.cells #[.int .i64 0, .int .i64 0, .int .i64 0] 116)).drew
   have hB : Below w.heap.size w (w1.alloc (.cells #[.int .i64 0, .int .i64 0, .int .i64 0] 116)).drew := (HB.out.alloc HB.out.size (.cells #[.int .i64 0, .int .i64 0, .int .i64 0] 116)).trans drew_below'
   refine hK.out _ _ ⟨hT.cells.2.2, (HC3.out _ hO)⟩ (fun hHeld => ?_)
   clear hK K
   refine norm_ (a' := ?_) ?_ ?_
   rotate_left
   ·show Act.put _ (some 5) _ = _
    simp only [Act.put, sA, sZ, sS, i64_w, i32_w]
    rfl
   refine one_ (i := 6) (N := some 14) (bs 13 1151) rfl rfl (by kernel_rfl) (by decide) (fun K hK => ?_)
   refine goes_ Tryz.func64 (by kernel_rfl) rfl #[.pointer (some ⟨M.tb, 0, none⟩), .int .i64 o.fd] (by rfl) rfl rfl (by simp only [List.map_toArray, List.map_cons, List.map_nil]; rfl) ?_
   with_reducible refine ((HGT.out _ hT)).mono ?_
   rintro e w3 ⟨rfl, hb3⟩
   refine ⟨_, rfl, ?_⟩
   have hT := hT.below hb3
   have hO := hO.below hb3
   have hX := hX.below hb3 hX.lt
   have hB := hB.trans (hb3.mono hB.size)
   clear hb3
   refine hK.out _ _ ⟨hT.cells.2.2, (HC3.out _ hO)⟩ (fun hHeld => ?_)
   clear hK K
   refine norm_ (a' := ?_) ?_ ?_
   rotate_left
   ·show Act.put _ (some 14) _ = _
    simp only [Act.put, sA, sZ, sS, i64_w, i32_w]
    rfl
   refine py_ 7 7 (bs 13 1279) rfl rfl (by kernel_rfl) (fun _ _ _ h => h) (by rfl) (fun w' => by go_simp; with_reducible rfl) (by simp only [Act.put, sA, sZ, sS, i64_w, i32_w]; rfl) ?_
   refine py_ 8 15 (bs 13 1535) rfl rfl (by kernel_rfl) (fun _ _ _ h => h) (by rfl) (fun w' => by go_simp; with_reducible rfl) (by simp only [Act.put, sA, sZ, sS, i64_w, i32_w]; rfl) ?_
   refine py_ 9 16 (bs 13 2047) rfl rfl (by kernel_rfl) (fun _ _ _ h => h) (by rfl) (fun w' => by go_simp; with_reducible rfl) (by simp only [Act.put, sA, sZ, sS, i64_w, i32_w]; rfl) ?_
   exact norm_ (by simp only [putAll, Act.put, sA, sZ, sS]) (hCont w1.heap.size _ ⟨hT, hO, hB, hX, hs⟩)
 rintro s w3 ⟨hT, hO, hB, hX, hs⟩
 have hHeld := And.intro hT.cells.2.2 (HC3.out _ hO)
 refine norm_ (a' := ?_) ?_ ?_
 rotate_left
 ·simp only [putAll, Act.put, sA, sZ, sS]
  rfl
 refine one_ (i := 11) (N := none) (bs 13 4095) rfl rfl (by kernel_rfl) (by decide) (fun K hK => ?_)
 have x0 := hX.cell 0
 have x1 := hX.cell 1
 have x2 := hX.cell 2
 have q0 := hX.frozen 0
 have q1 := hX.frozen 1
 have q2 := hX.frozen 2
 simp at x0 x1 x2
 refine skip_ (w1 := ?_) (by rfl) rfl ?_ ?_
 rotate_left
 ·go_simp
  rfl
 have hTs := set116 (cs := (.int .i64 0, .int .i64 0, .int .i64 0)) hX (.int .i64 (k : Nat)) (.int .i64 (p : Nat)) (.int .i64 mode)
 have hX := hTs.1
 have hT := hT.turn hTs.2 (fun j hj e => by have := HFL0.out j hj; have e2 : j = s := e; omega) (fun e => by have e2 : 0 = s := e; omega)
 have hO := hO.turn2 hTs.2 (fun e => by have e2 : w.heap.size = s := e; omega) (fun e => by have e2 : w.heap.size + 1 = s := e; omega)
 have hB := set116b hB (b := s) (by omega) (.int .i64 (k : Nat)) (.int .i64 (p : Nat)) (.int .i64 mode)
 clear x0 x1 x2 q0 q1 q2 hTs
 refine hK.out _ _ ⟨hT.cells.2.2, (HC3.out _ hO)⟩ (fun hHeld => ?_)
 clear hK K
 refine py_ 12 6 (bs 13 8191) rfl rfl (by kernel_rfl) (fun _ _ _ h => h) (by rfl) (fun w' => by go_simp; with_reducible rfl) (by simp only [Act.put, sA, sZ, sS, i64_w, i32_w]; rfl) ?_
 refine done_ (by kernel_rfl) ?_
 have HO4 := Lib.hid hO
 have HX4 := Lib.hid hX
 have HB4 := Lib.hid hB
 have HXL := Lib.hid hs
 clear hO hX hB hT hHeld hs
 generalize ((w3.setCell ⟨s, 0, none⟩ (.int .i64 (k : Nat))).setCell ⟨s, 1, none⟩ (.int .i64 (p : Nat))).setCell ⟨s, 2, none⟩ (.int .i64 mode) = w4 at *
 by_cases hk2 : o.kind = 2
 ·have hkd := hk2
  clear hk2
  obtain ⟨h, hg, hk, hm, hf, hD, hDF⟩ := HSV.out
  clear hD hDF
  have HR := Lib.hid (show a.heldT o = (a.setOp o.fd.toNat none).gone k by unfold TS.heldT; rw [hf]; simp [hkd])
  have hlive : (a.nd k).kind ≠ 0 := by rw [hk]; decide
  have hlast := (hg.in_last hlive).2
  have hfew := hg.few
  have HLV := Lib.hid (fun W M' (h : TreeIs F W t M' c (a.setOp o.fd.toNat none)) => leave_any k W h hlive (by omega))
  clear h hg hk hm hf hlive hlast hfew
  have e2 := kt 2 hkd rfl
  have e3 := kf 3 hkd rfl
  have e4 := kf 4 hkd rfl
  have e5 := kf 5 hkd rfl
  clear hkd
  have ua0 := (HO4.out).b0.c8
  have ur0 := (HO4.out).b1.cf7
  have ul := (HO4.out).b1.lt
  have ux0 := HX4.out.c3
  go_upto_region 6 with (fail)
  clear ua0 ur0 ul ux0
  have HOE := Lib.hid HO4.out.drew
  have HTE := Lib.hid (HH.out _ HB4.out).drew
  have vt2 := HTE.out.cells.2.2
  have va3 := HOE.out.b0.cell 3
  simp at va3
  have hS0 := And.intro vt2 va3
  have HV := Lib.hid vt2
  clear vt2 va3
  go_region_held3 (fun W => W.cell? ⟨t, 2, none⟩ = some (.pointer (some ⟨M.tb, 0, none⟩)) ∧ W.cell? ⟨w.heap.size, 3, none⟩ = some (.int .i64 o.fd))
   (first | exact hS0 | exact hS1)
   (first
    | (go_at_call 65
       refine (tclose_any o.fd ((k : Int), (p : Int), mode) _ HTE.out HF.out).mono ?_
       rintro e w8 ⟨rfl, M', hT8, hTu8, hbt⟩
       have HO8 := Lib.hid (HOE.out.turn2 hTu8 (fun e => by have := HFL.out _ e; omega) (fun e => by have := HFL.out _ e; omega))
       have va3 := HO8.out.b0.cell 3
       simp at va3
       have hS1 := And.intro ((World.cell?_of_block (a := ⟨t, 2, none⟩) hbt).trans HV.out) va3
       have HT8 := Lib.hid hT8
       have HTu8 := Lib.hid hTu8
       clear hT8 hTu8 hbt va3))
  clear hS0 hS1
  have HX8 := Lib.hid (HX4.out.drew.turn HTu8.out (fun e => by
   have := HFL.out _ e
   have := HXL.out
   omega))
  have vx0 := HX8.out.cell 0
  simp at vx0
  go_wp2_with fail
  refine (HLV.out _ _ HT8.out).mono ?_
  rintro e w9 ⟨rfl, hs9, hTu9⟩
  clear vx0
  have HO9 := Lib.hid (HO8.out.turn2 hTu9 (fun e => by have := HFL.out _ e; omega) (fun e => by have := HFL.out _ e; omega))
  have HS9 := Lib.hid hs9
  have HTu9 := Lib.hid hTu9
  have HL8 := Lib.hid HO8.out.b1.lt
  clear hs9 hTu9
  obtain ⟨va0, va1, va2, va3, va4, va5, va6, va7⟩ := (HO9.out).b0.c8
  have vr0 := (HO9.out).b1.cf7
  have vl := (HO9.out).b1.lt
  go_wp2_with fail
  refine bodyPost_ret (v := .agg #[.int .i64 0, .int .i64 0, .slice none 0 0, .slice none 0 0, .int .i64 0, .int .i64 0, .int .i64 0]) (by simp [results, Tryz.results27, go_sem, vr0, vl]) rfl ?_
  rw [HR.out]
  have hW : Turn F w w8 := ((Turn.of_below (S := F) HB4.out).drew).trans (S' := F) HTu8.out fun _ _ e => e
  exact ans_fin (F' := F) (wX := w8) HT.out HS9.out (by omega) (hW.trans (S' := F) HTu9.out fun _ _ e => e) hW.size (fun j e => .inl e) (by omega) HL8.out (fun e => by have := HFL.out _ e; omega)
 by_cases hk3 : o.kind = 3
 ·have hkd := hk3
  clear hk3 hk2
  obtain ⟨h, hg, hk, hm, hf, hD, hDF⟩ := HSV.out
  clear hD hDF
  have HCL := Lib.hid (fun W (h : TreeIs F W t M c a) => show Calls Tryz.prog 67 #[.pointer (some ⟨t, 0, none⟩), .agg (oc o A o.data.length cap), .agg #[.int .i64 (k : Nat), .int .i64 (p : Nat), .int .i64 mode]] W (AnsPost F t (c + 2) (a.readT o ((k : Int), (p : Int), mode)) W) from read_any o A o.data.length cap k p mode W h hg hc hk hm (by omega) hf)
  have HR := Lib.hid (show a.heldT o = a.readT o ((k : Int), (p : Int), mode) by unfold TS.heldT; rw [hf]; simp [hkd])
  clear h hg hk hm hf
  have e2 := kf 2 hkd rfl
  have e3 := kt 3 hkd rfl
  have e4 := kf 4 hkd rfl
  have e5 := kf 5 hkd rfl
  clear hkd
  have ua0 := (HO4.out).b0.c8
  have ur0 := (HO4.out).b1.cf7
  have ul := (HO4.out).b1.lt
  have ux0 := HX4.out.c3
  go_wp2_with fail
  refine (HCL.out _ (HH.out _ HB4.out)).mono ?_
  rintro e w9 ⟨er, en, B1, n1, c1, B2, n2, c2, ek, es, el, rfl, hs9, hTu9⟩
  clear ua0 ur0 ul ux0
  have HO9 := Lib.hid (HO4.out.turn2 hTu9 (fun e => by have := HFL.out _ e; omega) (fun e => by have := HFL.out _ e; omega))
  have HS9 := Lib.hid hs9
  have HTu9 := Lib.hid hTu9
  clear hs9 hTu9
  have vr0 := (HO9.out).b1.cf7
  have vl := (HO9.out).b1.lt
  unfold ansV
  go_wp2_with fail
  refine bodyPost_ret (v := .agg #[.int .i64 er, .int .i64 en, .slice B1 n1 c1, .slice B2 n2 c2, .int .i64 ek, .int .i64 es, .int .i64 el]) (by simp [results, Tryz.results27, go_sem, vr0, vl]) rfl ?_
  rw [HR.out]
  exact ans_fin (F' := F) (wX := w4) HT.out HS9.out (Nat.le_refl _) ((Turn.of_below (S := F) HB4.out).trans (S' := F) HTu9.out fun _ _ e => e) HB4.out.size (fun j e => .inl e) (by omega) HO4.out.b1.lt (fun e => by have := HFL.out _ e; omega)
 by_cases hk4 : o.kind = 4
 ·have hkd := hk4
  clear hk4 hk3 hk2
  obtain ⟨h, hg, hk, hm, hf, hD, hDF⟩ := HSV.out
  have HDW := Lib.hid (fun W (hb : Below w.heap.size w W) => hD.below hb)
  have HCL := Lib.hid (fun W (h : TreeIs F W t M c a) (hD : RdB W (.slice A o.data.length cap) o.data) => show Calls Tryz.prog 68 #[.pointer (some ⟨t, 0, none⟩), .agg (oc o A o.data.length cap), .agg #[.int .i64 (k : Nat), .int .i64 (p : Nat), .int .i64 mode]] W (AnsPost F t (c + 2) (a.writeT o ((k : Int), (p : Int), mode)) W) from write_any o A cap k p mode W h hg hc hk hm hp hf hD hDF)
  have HR := Lib.hid (show a.heldT o = a.writeT o ((k : Int), (p : Int), mode) by unfold TS.heldT; rw [hf]; simp [hkd])
  clear h hg hk hm hf hD hDF
  have e2 := kf 2 hkd rfl
  have e3 := kf 3 hkd rfl
  have e4 := kt 4 hkd rfl
  have e5 := kf 5 hkd rfl
  clear hkd
  have ua0 := (HO4.out).b0.c8
  have ur0 := (HO4.out).b1.cf7
  have ul := (HO4.out).b1.lt
  have ux0 := HX4.out.c3
  go_wp2_with fail
  refine (HCL.out _ (HH.out _ HB4.out) (HDW.out _ HB4.out)).mono ?_
  rintro e w9 ⟨er, en, B1, n1, c1, B2, n2, c2, ek, es, el, rfl, hs9, hTu9⟩
  clear ua0 ur0 ul ux0
  have HO9 := Lib.hid (HO4.out.turn2 hTu9 (fun e => by have := HFL.out _ e; omega) (fun e => by have := HFL.out _ e; omega))
  have HS9 := Lib.hid hs9
  have HTu9 := Lib.hid hTu9
  clear hs9 hTu9
  have vr0 := (HO9.out).b1.cf7
  have vl := (HO9.out).b1.lt
  unfold ansV
  go_wp2_with fail
  refine bodyPost_ret (v := .agg #[.int .i64 er, .int .i64 en, .slice B1 n1 c1, .slice B2 n2 c2, .int .i64 ek, .int .i64 es, .int .i64 el]) (by simp [results, Tryz.results27, go_sem, vr0, vl]) rfl ?_
  rw [HR.out]
  exact ans_fin (F' := F) (wX := w4) HT.out HS9.out (Nat.le_refl _) ((Turn.of_below (S := F) HB4.out).trans (S' := F) HTu9.out fun _ _ e => e) HB4.out.size (fun j e => .inl e) (by omega) HO4.out.b1.lt (fun e => by have := HFL.out _ e; omega)
 by_cases hk5 : o.kind = 5
 ·have hkd := hk5
  clear hk5 hk4 hk3 hk2
  obtain ⟨h, hg, hk, hm, hf, hD, hDF⟩ := HSV.out
  clear hD hDF
  by_cases ho : o.off < 0 ∨ 48640 < o.off
  ·skip
   have HR := Lib.hid (show a.heldT o = a by unfold TS.heldT; rw [hf]; simp [hkd]; intro h1; omega)
   clear h hg hk hm hf
   have e2 := kf 2 hkd rfl
   have e3 := kf 3 hkd rfl
   have e4 := kf 4 hkd rfl
   have e5 := kt 5 hkd rfl
   clear hkd
   rcases ho with ho | ho
   ·skip
    have ua0 := (HO4.out).b0.c8
    have ur0 := (HO4.out).b1.cf7
    have ul := (HO4.out).b1.lt
    have ux0 := HX4.out.c3
    go_wp2_with fail
    refine bodyPost_ret (v := .agg #[.int .i64 2, .int .i64 0, .slice none 0 0, .slice none 0 0, .int .i64 0, .int .i64 0, .int .i64 0]) (by simp [results, Tryz.results27, go_sem, ur0, ul]) rfl ?_
    rw [HR.out]
    exact ans_same HT.out (ans_set HB4.out (by omega) _ _ _ _ _ _ _)
   ·skip
    have ua0 := (HO4.out).b0.c8
    have ur0 := (HO4.out).b1.cf7
    have ul := (HO4.out).b1.lt
    have ux0 := HX4.out.c3
    go_wp2_with fail
    refine bodyPost_ret (v := .agg #[.int .i64 2, .int .i64 0, .slice none 0 0, .slice none 0 0, .int .i64 0, .int .i64 0, .int .i64 0]) (by simp [results, Tryz.results27, go_sem, ur0, ul]) rfl ?_
    rw [HR.out]
    exact ans_same HT.out (ans_set HB4.out (by omega) _ _ _ _ _ _ _)
  ·have ho2 : o.off ≤ 48640 := by omega
   replace ho : 0 ≤ o.off := by omega
   have HR := Lib.hid (show a.heldT o = a.seekT o.fd ((k : Int), (p : Int), mode) o.off by unfold TS.heldT; rw [hf]; simp [hkd]; intro h1; omega)
   clear h hg hk hm hf
   have e2 := kf 2 hkd rfl
   have e3 := kf 3 hkd rfl
   have e4 := kf 4 hkd rfl
   have e5 := kt 5 hkd rfl
   clear hkd
   have ua0 := (HO4.out).b0.c8
   have ur0 := (HO4.out).b1.cf7
   have ul := (HO4.out).b1.lt
   have ux0 := HX4.out.c3
   go_upto_region 15 with (fail)
   clear ua0 ur0 ul ux0
   have HOE := Lib.hid HO4.out.drew
   have HTE := Lib.hid (HH.out _ HB4.out).drew
   have vt2 := HTE.out.cells.2.2
   have va3 := HOE.out.b0.cell 3
   have va5 := HOE.out.b0.cell 5
   simp at va3 va5
   have hS0 := And.intro vt2 (And.intro va3 va5)
   have HV := Lib.hid vt2
   clear vt2 va3 va5
   go_region_held3 (fun W => W.cell? ⟨t, 2, none⟩ = some (.pointer (some ⟨M.tb, 0, none⟩)) ∧ W.cell? ⟨w.heap.size, 3, none⟩ = some (.int .i64 o.fd) ∧ W.cell? ⟨w.heap.size, 5, none⟩ = some (.int .i64 o.off))
    (first | exact hS0 | exact hS1)
    (first
     | (go_at_call 69
        refine (tseek_any o.fd ((k : Int), (p : Int), mode) o.off _ HTE.out HF.out ho).mono ?_
        rintro e w9 ⟨rfl, M', hT9, hTu9, hbt⟩
        have HO9 := Lib.hid (HOE.out.turn2 hTu9 (fun e => by have := HFL.out _ e; omega) (fun e => by have := HFL.out _ e; omega))
        have va3 := HO9.out.b0.cell 3
        have va5 := HO9.out.b0.cell 5
        simp at va3 va5
        have hS1 := And.intro ((World.cell?_of_block (a := ⟨t, 2, none⟩) hbt).trans HV.out) (And.intro va3 va5)
        have HT9 := Lib.hid hT9
        have HTu9 := Lib.hid hTu9
        clear hT9 hTu9 hbt va3 va5))
   clear hS0 hS1
   obtain ⟨va0, va1, va2, va3, va4, va5, va6, va7⟩ := (HO9.out).b0.c8
   have vr0 := (HO9.out).b1.cf7
   have vl := (HO9.out).b1.lt
   go_wp2_with fail
   refine bodyPost_ret (v := .agg #[.int .i64 0, .int .i64 o.off, .slice none 0 0, .slice none 0 0, .int .i64 0, .int .i64 0, .int .i64 0]) (by simp [results, Tryz.results27, go_sem, vr0, vl]) rfl ?_
   rw [HR.out]
   exact ans_fin (F' := F) (wX := w4.drew) HT.out ⟨_, HT9.out.grown w4.drew HTu9.out.size (by have := HT.out.w0; have := HB4.out.size; exact Nat.lt_of_lt_of_le HT.out.w0 this)⟩ (by omega) (((Turn.of_below (S := F) HB4.out).drew).trans (S' := F) HTu9.out fun _ _ e => e) HB4.out.size (fun j e => .inl e) (by omega) HO4.out.b1.lt (fun e => by have := HFL.out _ e; omega)
 obtain ⟨h, hg, hk, hm, hf, hD, hDF⟩ := HSV.out
 clear hD hDF
 have HR := Lib.hid (show a.heldT o = a by unfold TS.heldT; rw [hf]; simp [hk2, hk3, hk4, hk5])
 clear h hg hk hm hf
 have e2 : (o.kind == 2) = false := beq_eq_false_iff_ne.2 hk2
 have e3 : (o.kind == 3) = false := beq_eq_false_iff_ne.2 hk3
 have e4 : (o.kind == 4) = false := beq_eq_false_iff_ne.2 hk4
 have e5 : (o.kind == 5) = false := beq_eq_false_iff_ne.2 hk5
 clear hk2 hk3 hk4 hk5
 have ua0 := (HO4.out).b0.c8
 have ur0 := (HO4.out).b1.cf7
 have ul := (HO4.out).b1.lt
 have ux0 := HX4.out.c3
 go_wp2_with fail
 refine bodyPost_ret (v := .agg #[.int .i64 0, .int .i64 0, .slice none 0 0, .slice none 0 0, .int .i64 0, .int .i64 0, .int .i64 0]) (by simp [results, Tryz.results27, go_sem, ur0, ul]) rfl ?_
 rw [HR.out]
 exact ans_same HT.out (ans_set HB4.out (by omega) _ _ _ _ _ _ _)
theorem held_any (o : OpT) (A : Option Addr) (cap : Nat) (w : World) (h : TreeIs F w t M c a) (hg : Good a c) (hc : c ≤ 100000)
  (hD : RdB w (.slice A o.data.length cap) o.data) (hDF : ∀ g x, A = some ⟨g, x, none⟩ → ¬ F g) :
  Calls Tryz.prog 27 #[.pointer (some ⟨t, 0, none⟩), o.val A o.data.length cap] w (AnsPost F t (c + 2) (a.heldT o) w) := by
 cases hf : lookO a.op o.fd with
 | none => exact held_none o A cap w h hf
 | some f =>
  obtain ⟨i, hfd, hi, hop⟩ := lookO_some hf
  obtain ⟨k, e1, hk, hp0, hp1, hm0, hm1⟩ := hg.ops i hi f hop
  obtain ⟨p, hp⟩ : ∃ p : Nat, f.2.1 = p := ⟨f.2.1.toNat, by omega⟩
  have hf' : f = ((k : Int), (p : Int), f.2.2) := by rw [← e1, ← hp]
  rw [hf'] at hf
  have hp48 : p ≤ 48640 := by omega
  exact held_some o A cap k p f.2.2 w h hg hc hk ⟨hm0, hm1⟩ hp48 hf hD hDF
end
end Go.Proofs.YtpkhglfhpggceaaGreatDoor
