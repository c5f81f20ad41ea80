/- What the reference does to memory: fd, read (printed by genrfdb.py). What the reference does to memory: fd, write (printed by genrfdc.py). What the reference does to memory: Do (printed by genrdo.py). tree.New, the reference's New; the start keeps what every act keeps. Few, base's Bytes. What package tree does to memory: Node (printed by gennode.py). The law's function node; SameBytes. What package tree does to memory: mkdir by Do, with its answer (printed by gendo7x.py). What the law's function works holds of its own. A tree and a reference's tree in one world; the acts that come in. What the law's works does (printed by genwks.py). What the two Tree laws share at their top: the witness's world, whose two listed tables hold what the rows list, and the cell of bytealg.MaxLen. An argument of acts, opened: whatever slice of acts comes in reads as a list of them. -/
import Derived.Test.YtpkhglfhpggceaaGreatDoorJc3
import Derived.Test.YtpkhglfhpggceaaGreatDoorJc4
import Derived.Test.YtpkhglfhpggceaaGreatDoorDo
import Derived.Deep.AppendLies
import Derived.Below
import Derived.Laws.BytesArg
import Derived.Test.YtpkhglfhpggceaaGreatDoorCards
import Derived.Test.YtpkhglfhpggceaaGreatDoorTie
import Derived.Test.YtpkhglfhpggceaaGreatDoorBase
import Derived.WalkKit
import Derived.ProofKit
import Derived.OpenShut
import Derived.Deep.DeepHandedRow
import Derived.Lib.LaidTab
import Derived.Shelf.Vars
import Derived.ChangeOld
import Derived.ChangeMaps5
import Derived.SizedLaws
import Derived.Deep.Slices
import Derived.Deep.Strs
import Derived.Lib.SmallJoins
namespace Go.Proofs.YtpkhglfhpggceaaGreatDoor
set_option maxRecDepth 100000
set_option maxHeartbeats 16000000
open Go.RowKit Go.Proofs.YtpkhglfhpggceaaGreatDoorW.PrintLast
set_option linter.unusedVariables false
set_option linter.unusedSimpArgs false
section
variable {F : Nat → Prop} {w w' : World} {y c : Nat} {R : RMem} {a : TS}
theorem rtseek2_any (fd : Int) (f : FT) (pos : Int) (w : World) (h : RIs F w y R a) (hf : lookO a.op fd = some f) (hp : 0 ≤ pos) :
  Calls Tryz.prog 81 #[.pointer (some ⟨R.fb, 0, none⟩), .int .i64 fd, .int .i64 pos] w fun e w' => e = .returned (.int .i64 0) ∧ (∃ I' T', RIs F w' y { R with I := I', T := T' } (a.seekT fd f pos)) ∧ Turn F w w' ∧ w'.heap[y]? = w.heap[y]? := by
 obtain ⟨k, rfl, hk, hop⟩ := lookO_some hf
 obtain ⟨h1, h2⟩ := h.opT hk hop
 refine (rseek_some R.I R.T R.fb k pos w h.tab hk h1 hp).mono ?_
 rintro e w' ⟨rfl, htab, hTu⟩
 rw [h2] at htab
 refine ⟨rfl, ⟨_, _, h.tabbed hTu htab (op' := setF a.op k (some (f.1, pos, f.2.2))) (fun i hi => ?_)⟩, hTu.mono fun i _ e => by rw [e]; exact h.fo _ (.inr (.inr rfl)), hTu.block y h.blk.lt h.ne.2.1⟩
 unfold setF opOf _root_.Go.Proofs.YtpkhglfhpggceaaGreatDoor.put
 by_cases e : i = k
 ·rw [if_pos e, if_pos e, e, h1]; rfl
 ·rw [if_neg e, if_neg e]; exact h.op i hi
theorem slice_cut (w : World) (g o m cap p q : Nat) (h1 : p ≤ q) (h2 : q ≤ cap) : (Instr.slice 28 (.slice (some ⟨g, o, none⟩) m cap) (some (.int .i64 (p : Nat))) (some (.int .i64 (q : Nat))) none).run Tryz.prog w = .ok (.slice (some ⟨g, if p = cap then o else o + p, none⟩) (q - p) (cap - p)) w := by
 have h3 : (p : Int) ≤ (q : Int) := by omega
 have h4 : (0 : Int) ≤ (p : Int) := by omega
 have h5 : (q : Int) ≤ (cap : Int) := by omega
 have h6 : (0 : Int) ≤ (q : Int) := by omega
 by_cases hc : p = cap
 ·subst hc
  obtain rfl : q = p := by omega
  simp [Tryz.underlying28, go_sem, h3, h4, h5, h6]
 ·have hc2 : cap ≠ p := fun e => hc e.symm
  simp [Tryz.underlying28, go_sem, h3, h4, h5, h6, hc, hc2, addr_add]
theorem slice_cut_nil (w : World) : (Instr.slice 28 (.slice none 0 0) (some (.int .i64 ((0 : Nat) : Int))) (some (.int .i64 ((0 : Nat) : Int))) none).run Tryz.prog w = .ok (.slice none 0 0) w := by
 simp [Tryz.underlying28, go_sem]
theorem Bs.cut {v : Value} {l : List UInt8} (h : Bs w v l) {p q : Nat} (hp : p ≤ q) (hq : q ≤ l.length) : ∃ A2 c2, (∀ W, (Instr.slice 28 v (some (.int .i64 (p : Nat))) (some (.int .i64 (q : Nat))) none).run Tryz.prog W = .ok (.slice A2 (q - p) c2) W) ∧ (A2 = none → c2 = 0 ∧ q - p = 0) ∧
  ∀ W, Bs W v l → ∀ ad, A2 = some ad → ∀ j u, (byts ((l.drop p).take (q - p)))[j]? = some u → W.cell? (ad.add j) = some u := by
 rcases h with ⟨rfl, rfl⟩ | ⟨g, o, c, rfl, h1, h2, h3, h4⟩
 ·obtain rfl : q = 0 := by simpa using hq
  obtain rfl : p = 0 := by omega
  exact ⟨none, 0, fun W => slice_cut_nil W, fun _ => ⟨rfl, rfl⟩, fun W _ ad e => by cases e⟩
 ·refine ⟨_, _, fun W => slice_cut W g o _ c p q hp (by omega), (fun e => by cases e), fun W hW ad e j u hu => ?_⟩
  obtain rfl := Option.some.inj e
  unfold byts at hu
  rw [List.getElem?_map, Option.map_eq_some_iff] at hu
  obtain ⟨b, hb, rfl⟩ := hu
  rw [List.getElem?_take] at hb
  split at hb
  ·rw [List.getElem?_drop] at hb
   have hlt : p + j < l.length := (List.getElem?_eq_some_iff.1 hb).1
   rw [if_neg (by omega), addr_add]
   rcases hW with ⟨e1, _⟩ | ⟨g', o', c', e1, _, _, _, h4'⟩
   ·cases e1
   ·injection e1 with e1 e2 e3
    injection e1 with e1
    injection e1 with e1 e4
    subst e1 e4
    rw [show o + p + j = o + (p + j) by omega]
    exact h4' _ b hb
  ·cases hb
theorem held_read_is {o : OpT} {f : FT} (hf : lookO a.op o.fd = some f) (hkd : o.kind = 3) : a.heldT o = a.readT o f := by unfold TS.heldT; rw [hf]; simp [hkd]
theorem held_write_is {o : OpT} {f : FT} (hf : lookO a.op o.fd = some f) (hkd : o.kind = 4) : a.heldT o = a.writeT o f := by unfold TS.heldT; rw [hf]; simp [hkd]
theorem rfd_read (o : OpT) (A : Option Addr) (cap k p : Nat) (mode : Int) (w : World) (h : RIs F w y R a) (hg : Good a c) (hc : c + 20 ≤ 100000) (hk : (a.nd k).kind = 1) (hm : 1 ≤ mode ∧ mode ≤ 3) (hp : p ≤ 48640) (hf : lookO a.op o.fd = some ((k : Int), (p : Int), mode)) (hkd : o.kind = 3) :
  Calls Tryz.prog 35 #[.pointer (some ⟨y, 0, none⟩), o.val A o.data.length cap] w (RAnsPost F y (a.heldT o) w) := by
 unfold OpT.val
 have HT := Lib.hid h
 have HH := Lib.hid (fun W (hb : Below w.heap.size w W) => h.below hb)
 have HGT := Lib.hid (fun W (h : RIs F W y R a) => show Calls Tryz.prog 78 #[.pointer (some ⟨R.fb, 0, none⟩), .int .i64 o.fd] W (fun e w' => e = .returned (.tuple #[.agg #[.int .i64 (k : Nat), .int .i64 (p : Nat), .int .i64 mode], .int .i64 0]) ∧ Below W.heap.size W w') from by have := rtget_any o.fd W h; rw [hf] at this; exact this)
 have HF := Lib.hid hf
 have HFL : Hid (∀ j, F j → j < w.heap.size) := Lib.hid fun j e => h.lt j e
 have HSV := Lib.hid (And.intro h (And.intro hg (And.intro hk (And.intro hm (And.intro hf hkd)))))
 clear h hg hk hm hf hkd
 go_enter Tryz.func35, Tryz.ntmps35
 go_upto_region 1 with (fail)
 have HO := Lib.hid (OO.start w (oc o A o.data.length cap))
 have HB := Lib.hid (below_00 w (.cells (oc o A o.data.length cap) 36) (.cells zero7 33))
 have HFL0 : Hid (∀ j, F j → j < w.heap.size) := Lib.hid fun j e => HT.out.lt j e
 generalize (w.alloc (.cells (oc o A o.data.length cap) 36)).alloc (.cells zero7 33) = w1 at *
 have HT1 := Lib.hid (HH.out _ HB.out)
 have HC3 : Hid (∀ W, OO W w.heap.size (oc o A o.data.length cap) → W.cell? ⟨w.heap.size, 3, none⟩ = some (.int .i64 o.fd)) := Lib.hid fun W hO => by have := hO.b0.cell 3; simpa using this
 have hO := HO.out.drew
 have hT := HT1.out.drew
 have hB : Below w.heap.size w w1.drew := HB.out.trans drew_below'
 refine start_ (n := 13) (S := fun w' => w'.cell? ⟨y, 1, none⟩ = some (.pointer (some ⟨R.fb, 0, none⟩)) ∧ w'.cell? ⟨w.heap.size, 3, none⟩ = some (.int .i64 o.fd)) (ds := []) (bs 13 0) (by kernel_rfl) rfl rfl ⟨hT.cells.2, (HC3.out _ hO)⟩ (fun hHeld => ?_)
 refine py_ 0 14 (bs 13 1) rfl rfl (by kernel_rfl) (fun _ _ _ h => h) (by rfl) (fun w' => by go_simp; with_reducible rfl) (by simp only [Act.put, sA, sZ, sS, i64_w, i32_w]; rfl) ?_
 refine py_ 1 15 (bs 13 3) rfl rfl (by kernel_rfl) (fun _ _ _ h => h) (by rfl) (fun w' => by go_simp; with_reducible rfl) (by simp only [Act.put, sA, sZ, sS, i64_w, i32_w]; rfl) ?_
 refine py_ 2 16 (bs 13 7) rfl rfl (by kernel_rfl) (fun _ _ _ h => h) (by rfl) (fun w' => by go_simp; with_reducible rfl) (by simp only [Act.put, sA, sZ, sS, i64_w, i32_w]; rfl) ?_
 refine py_ 4 18 (bs 13 23) rfl rfl (by kernel_rfl) (fun _ _ _ h => h) (by rfl) (fun w' => by go_simp; with_reducible rfl) (by simp only [Act.put, sA, sZ, sS, i64_w, i32_w]; rfl) ?_
 refine ty_ 3 17 (bs 13 31) rfl rfl (by kernel_rfl) (fun _ _ _ h => h) (by rfl) (by rintro w' ⟨s0, s1⟩; go_simp; with_reducible rfl) hHeld (by simp only [Act.put, sA, sZ, sS, i64_w, i32_w]; rfl) ?_
 refine ty_ 5 19 (bs 13 63) rfl rfl (by kernel_rfl) (fun _ _ _ h => h) (by rfl) (by rintro w' ⟨s0, s1⟩; go_simp; with_reducible rfl) hHeld (by simp only [Act.put, sA, sZ, sS, i64_w, i32_w]; rfl) ?_
 refine join_ (σ := Nat) 2 (bs 13 2047) (fun s => [(20, Value.tuple #[.agg #[.int .i64 (k : Nat), .int .i64 (p : Nat), .int .i64 mode], .int .i64 0]), (13, Value.tuple #[.agg #[.int .i64 (k : Nat), .int .i64 (p : Nat), .int .i64 mode], .int .i64 0]), (21, Value.agg #[.int .i64 (k : Nat), .int .i64 (p : Nat), .int .i64 mode]), (22, Value.int .i64 0), (5, Value.pointer (some ⟨s, 0, none⟩))]) (fun s w' => RIs F w' y R a ∧ OO w' w.heap.size (oc o A o.data.length cap) ∧ Below w.heap.size w w' ∧ Blk w' s 99 #[.int .i64 0, .int .i64 0, .int .i64 0] ∧ w.heap.size + 1 < s) ?_ ?_
 rotate_left
 ·intro hCont
  refine two_ (i := 6) (j := 10) (Ni := some 20) (Nj := some 5) (bs 13 127) (bs 13 1087) rfl rfl rfl rfl (by kernel_rfl) (by decide) (by decide) (fun K hK => ?_) (fun K hK => ?_)
  ·skip
   refine goes_ Tryz.func78 (by kernel_rfl) rfl #[.pointer (some ⟨R.fb, 0, none⟩), .int .i64 o.fd] (by rfl) rfl rfl (by simp only [List.map_toArray, List.map_cons, List.map_nil]; rfl) ?_
   with_reducible refine ((HGT.out _ hT)).mono ?_
   rintro e w3 ⟨rfl, hb3⟩
   refine ⟨_, rfl, ?_⟩
   have hT := hT.below hb3
   have hO := hO.below hb3
   have hB := hB.trans (hb3.mono hB.size)
   clear hb3
   refine hK.out _ _ ⟨hT.cells.2, (HC3.out _ hO)⟩ (fun hHeld => ?_)
   clear hK K
   refine norm_ (a' := ?_) ?_ ?_
   rotate_left
   ·show Act.put _ (some 20) _ = _
    simp only [Act.put, sA, sZ, sS, i64_w, i32_w]
    rfl
   refine py_ 7 13 (bs 13 255) rfl rfl (by kernel_rfl) (fun _ _ _ h => h) (by rfl) (fun w' => by go_simp; with_reducible rfl) (by simp only [Act.put, sA, sZ, sS, i64_w, i32_w]; rfl) ?_
   refine py_ 8 21 (bs 13 511) rfl rfl (by kernel_rfl) (fun _ _ _ h => h) (by rfl) (fun w' => by go_simp; with_reducible rfl) (by simp only [Act.put, sA, sZ, sS, i64_w, i32_w]; rfl) ?_
   refine py_ 9 22 (bs 13 1023) rfl rfl (by kernel_rfl) (fun _ _ _ h => h) (by rfl) (fun w' => by go_simp; with_reducible rfl) (by simp only [Act.put, sA, sZ, sS, i64_w, i32_w]; rfl) ?_
   refine one_ (i := 10) (N := some 5) (bs 13 2047) rfl rfl (by kernel_rfl) (by decide) (fun K hK => ?_)
   refine value_ (w1 := ?_) (v := ?_) (by rfl) rfl ?_ ?_
   rotate_left 2
   ·go_simp
    constructor
    ·rfl
    ·rfl
   have hX := Blk.new w3 99 #[.int .i64 0, .int .i64 0, .int .i64 0]
   have hs : w.heap.size + 1 < w3.heap.size := hO.b1.lt
   have hT := hT.below ((Below.refl _ _).alloc (Nat.le_refl _) (.cells #[.int .i64 0, .int .i64 0, .int .i64 0] 99))
   have hO := hO.alloc (.cells #[.int .i64 0, .int .i64 0, .int .i64 0] 99)
   have hB := hB.alloc hB.size (.cells #[.int .i64 0, .int .i64 0, .int .i64 0] 99)
   refine hK.out _ _ ⟨hT.cells.2, (HC3.out _ hO)⟩ (fun hHeld => ?_)
   clear hK K
   refine norm_ (a' := ?_) ?_ ?_
   rotate_left
   ·show Act.put _ (some 5) _ = _
    simp only [Act.put, sA, sZ, sS, i64_w, i32_w]
    rfl
   exact norm_ (by simp only [putAll, Act.put, sA, sZ, sS]) (hCont w3.heap.size _ ⟨hT, hO, hB, hX, hs⟩)
  ·skip
   refine value_ (w1 := ?_) (v := ?_) (by rfl) rfl ?_ ?_
   rotate_left 2
   ·go_simp
    constructor
    ·rfl
    ·rfl
   have hX := (Blk.new w1 99 #[.int .i64 0, .int .i64 0, .int .i64 0]).drew
   have hs : w.heap.size + 1 < w1.heap.size := HO.out.b1.lt
   have hT := (HT1.out.below ((Below.refl _ _).alloc (Nat.le_refl _) (.cells #[.int .i64 0, .int .i64 0, .int .i64 0] 99))).drew
   have hO := (HO.out.alloc (.cells #[.int .i64 0, .int .i64 0, .int .i64 0] 99)).drew
   have hB : Below w.heap.size w (w1.alloc (.cells #[.int .i64 0, .int .i64 0, .int .i64 0] 99)).drew := (HB.out.alloc HB.out.size (.cells #[.int .i64 0, .int .i64 0, .int .i64 0] 99)).trans drew_below'
   refine hK.out _ _ ⟨hT.cells.2, (HC3.out _ hO)⟩ (fun hHeld => ?_)
   clear hK K
   refine norm_ (a' := ?_) ?_ ?_
   rotate_left
   ·show Act.put _ (some 5) _ = _
    simp only [Act.put, sA, sZ, sS, i64_w, i32_w]
    rfl
   refine one_ (i := 6) (N := some 20) (bs 13 1151) rfl rfl (by kernel_rfl) (by decide) (fun K hK => ?_)
   refine goes_ Tryz.func78 (by kernel_rfl) rfl #[.pointer (some ⟨R.fb, 0, none⟩), .int .i64 o.fd] (by rfl) rfl rfl (by simp only [List.map_toArray, List.map_cons, List.map_nil]; rfl) ?_
   with_reducible refine ((HGT.out _ hT)).mono ?_
   rintro e w3 ⟨rfl, hb3⟩
   refine ⟨_, rfl, ?_⟩
   have hT := hT.below hb3
   have hO := hO.below hb3
   have hX := hX.below hb3 hX.lt
   have hB := hB.trans (hb3.mono hB.size)
   clear hb3
   refine hK.out _ _ ⟨hT.cells.2, (HC3.out _ hO)⟩ (fun hHeld => ?_)
   clear hK K
   refine norm_ (a' := ?_) ?_ ?_
   rotate_left
   ·show Act.put _ (some 20) _ = _
    simp only [Act.put, sA, sZ, sS, i64_w, i32_w]
    rfl
   refine py_ 7 13 (bs 13 1279) rfl rfl (by kernel_rfl) (fun _ _ _ h => h) (by rfl) (fun w' => by go_simp; with_reducible rfl) (by simp only [Act.put, sA, sZ, sS, i64_w, i32_w]; rfl) ?_
   refine py_ 8 21 (bs 13 1535) rfl rfl (by kernel_rfl) (fun _ _ _ h => h) (by rfl) (fun w' => by go_simp; with_reducible rfl) (by simp only [Act.put, sA, sZ, sS, i64_w, i32_w]; rfl) ?_
   refine py_ 9 22 (bs 13 2047) rfl rfl (by kernel_rfl) (fun _ _ _ h => h) (by rfl) (fun w' => by go_simp; with_reducible rfl) (by simp only [Act.put, sA, sZ, sS, i64_w, i32_w]; rfl) ?_
   exact norm_ (by simp only [putAll, Act.put, sA, sZ, sS]) (hCont w1.heap.size _ ⟨hT, hO, hB, hX, hs⟩)
 rintro s w3 ⟨hT, hO, hB, hX, hs⟩
 have hHeld := And.intro hT.cells.2 (HC3.out _ hO)
 refine norm_ (a' := ?_) ?_ ?_
 rotate_left
 ·simp only [putAll, Act.put, sA, sZ, sS]
  rfl
 refine one_ (i := 11) (N := none) (bs 13 4095) rfl rfl (by kernel_rfl) (by decide) (fun K hK => ?_)
 have x0 := hX.cell 0
 have x1 := hX.cell 1
 have x2 := hX.cell 2
 have q0 := hX.frozen 0
 have q1 := hX.frozen 1
 have q2 := hX.frozen 2
 simp at x0 x1 x2
 refine skip_ (w1 := ?_) (by rfl) rfl ?_ ?_
 rotate_left
 ·go_simp
  rfl
 have hTs := set99 (cs := (.int .i64 0, .int .i64 0, .int .i64 0)) hX (.int .i64 (k : Nat)) (.int .i64 (p : Nat)) (.int .i64 mode)
 have hX := hTs.1
 have hT := hT.turn hTs.2 (fun j hj e => by have := HFL0.out j hj; have e2 : j = s := e; omega)
 have hO := hO.turn2 hTs.2 (fun e => by have e2 : w.heap.size = s := e; omega) (fun e => by have e2 : w.heap.size + 1 = s := e; omega)
 have hB := set116b hB (b := s) (by omega) (.int .i64 (k : Nat)) (.int .i64 (p : Nat)) (.int .i64 mode)
 clear x0 x1 x2 q0 q1 q2 hTs
 refine hK.out _ _ ⟨hT.cells.2, (HC3.out _ hO)⟩ (fun hHeld => ?_)
 clear hK K
 refine py_ 12 6 (bs 13 8191) rfl rfl (by kernel_rfl) (fun _ _ _ h => h) (by rfl) (fun w' => by go_simp; with_reducible rfl) (by simp only [Act.put, sA, sZ, sS, i64_w, i32_w]; rfl) ?_
 refine done_ (by kernel_rfl) ?_
 have HO4 := Lib.hid hO
 have HX4 := Lib.hid hX
 have HB4 := Lib.hid hB
 have HXL := Lib.hid hs
 clear hO hX hB hT hHeld hs
 generalize ((w3.setCell ⟨s, 0, none⟩ (.int .i64 (k : Nat))).setCell ⟨s, 1, none⟩ (.int .i64 (p : Nat))).setCell ⟨s, 2, none⟩ (.int .i64 mode) = w4 at *
 have HT4 := Lib.hid (HH.out _ HB4.out)
 obtain ⟨h, hg, hk, hm, hf, hkd⟩ := HSV.out
 by_cases h1 : mode % 2 = 0
 ·skip
  have hlive : (a.nd k).kind ≠ 0 := by rw [hk]; decide
  have hlast := (hg.in_last hlive).2
  have hfew := hg.few
  have hdl := hg.data k
  have HR := Lib.hid (show a.heldT o = a by rw [held_read_is hf hkd, readT_bad (.inl h1)])
  have t1 : (mode.tmod 2 == 0) = true := beq_iff_eq.2 (by rw [Int.tmod_eq_emod_of_nonneg (by omega)]; omega)
  clear h1
  clear h hg hk hm hf hlive hlast hfew hdl
  have e2 := kf 2 hkd rfl
  have e3 := kt 3 hkd rfl
  have e4 := kf 4 hkd rfl
  have e5 := kf 5 hkd rfl
  clear hkd
  have ua0 := (HO4.out).b0.c8
  have ur0 := (HO4.out).b1.cf7
  have ul := (HO4.out).b1.lt
  have ux0 := HX4.out.c3
  go_wp2_with fail
  refine (failed_any _ _).mono ?_
  rintro e w5 ⟨rfl, hb5⟩
  have HOF := Lib.hid (HO4.out.below hb5)
  have HBF := Lib.hid (HB4.out.trans (hb5.mono HB4.out.size))
  clear hb5
  have vr0 := (HOF.out).b1.cf7
  have vl := (HOF.out).b1.lt
  go_wp2_with fail
  refine bodyPost_ret (v := .agg #[.int .i64 50, .int .i64 0, .slice none 0 0, .slice none 0 0, .int .i64 0, .int .i64 0, .int .i64 0]) (by simp [results, Tryz.results35, go_sem, vr0, vl]) rfl ?_
  rw [HR.out]
  exact rans_same HT.out (ans_set HBF.out (by omega) _ _ _ _ _ _ _)
 replace h1 : mode % 2 = 1 := by omega
 by_cases hn : o.n < 0
 ·skip
  have hlive : (a.nd k).kind ≠ 0 := by rw [hk]; decide
  have hlast := (hg.in_last hlive).2
  have hfew := hg.few
  have hdl := hg.data k
  have HR := Lib.hid (show a.heldT o = a by rw [held_read_is hf hkd, readT_bad (.inr (.inl hn))])
  have t1 : (mode.tmod 2 == 0) = false := beq_eq_false_iff_ne.2 (by rw [Int.tmod_eq_emod_of_nonneg (by omega)]; omega)
  clear h1
  clear h hg hk hm hf hlive hlast hfew hdl
  have e2 := kf 2 hkd rfl
  have e3 := kt 3 hkd rfl
  have e4 := kf 4 hkd rfl
  have e5 := kf 5 hkd rfl
  clear hkd
  have ua0 := (HO4.out).b0.c8
  have ur0 := (HO4.out).b1.cf7
  have ul := (HO4.out).b1.lt
  have ux0 := HX4.out.c3
  go_wp2_with fail
  refine (failed_any _ _).mono ?_
  rintro e w5 ⟨rfl, hb5⟩
  have HOF := Lib.hid (HO4.out.below hb5)
  have HBF := Lib.hid (HB4.out.trans (hb5.mono HB4.out.size))
  clear hb5
  have vr0 := (HOF.out).b1.cf7
  have vl := (HOF.out).b1.lt
  go_wp2_with fail
  refine bodyPost_ret (v := .agg #[.int .i64 2, .int .i64 0, .slice none 0 0, .slice none 0 0, .int .i64 0, .int .i64 0, .int .i64 0]) (by simp [results, Tryz.results35, go_sem, vr0, vl]) rfl ?_
  rw [HR.out]
  exact rans_same HT.out (ans_set HBF.out (by omega) _ _ _ _ _ _ _)
 by_cases hn2 : 4096 < o.n
 ·clear hn
  have hn := hn2
  clear hn2
  have hlive : (a.nd k).kind ≠ 0 := by rw [hk]; decide
  have hlast := (hg.in_last hlive).2
  have hfew := hg.few
  have hdl := hg.data k
  have HR := Lib.hid (show a.heldT o = a by rw [held_read_is hf hkd, readT_bad (.inr (.inr hn))])
  have hn0 : ¬ o.n < 0 := by omega
  have t1 : (mode.tmod 2 == 0) = false := beq_eq_false_iff_ne.2 (by rw [Int.tmod_eq_emod_of_nonneg (by omega)]; omega)
  clear h1
  clear h hg hk hm hf hlive hlast hfew hdl
  have e2 := kf 2 hkd rfl
  have e3 := kt 3 hkd rfl
  have e4 := kf 4 hkd rfl
  have e5 := kf 5 hkd rfl
  clear hkd
  have ua0 := (HO4.out).b0.c8
  have ur0 := (HO4.out).b1.cf7
  have ul := (HO4.out).b1.lt
  have ux0 := HX4.out.c3
  go_wp2_with fail
  refine (failed_any _ _).mono ?_
  rintro e w5 ⟨rfl, hb5⟩
  have HOF := Lib.hid (HO4.out.below hb5)
  have HBF := Lib.hid (HB4.out.trans (hb5.mono HB4.out.size))
  clear hb5
  have vr0 := (HOF.out).b1.cf7
  have vl := (HOF.out).b1.lt
  go_wp2_with fail
  refine bodyPost_ret (v := .agg #[.int .i64 2, .int .i64 0, .slice none 0 0, .slice none 0 0, .int .i64 0, .int .i64 0, .int .i64 0]) (by simp [results, Tryz.results35, go_sem, vr0, vl]) rfl ?_
  rw [HR.out]
  exact rans_same HT.out (ans_set HBF.out (by omega) _ _ _ _ _ _ _)
 obtain ⟨nn, hnn⟩ : ∃ nn : Nat, o.n = (nn : Nat) := ⟨o.n.toNat, by omega⟩
 have hn1 : nn ≤ 4096 := by omega
 clear hn hn2
 have hlive : (a.nd k).kind ≠ 0 := by rw [hk]; decide
 have hlast := (hg.in_last hlive).2
 have hfew := hg.few
 have hdl := hg.data k
 have HKL := Lib.hid hlast
 obtain ⟨i0, hi0, hz0, hz1, hz2⟩ := info_parts info5
 obtain ⟨st, hst⟩ : ∃ st : Nat, st = min p (a.nd k).data.length := ⟨_, rfl⟩
 obtain ⟨en, hen⟩ : ∃ en : Nat, en = min (st + nn) (a.nd k).data.length := ⟨_, rfl⟩
 have HR := Lib.hid (show a.heldT o = a.seekT o.fd ((k : Int), (p : Int), mode) ((p : Int) + (en : Int) - (st : Int)) by
  rw [held_read_is hf hkd]
  unfold TS.readT
  rw [if_neg (by
   rintro (e | e | e)
   ·have e2 : mode % 2 = 0 := e
    omega
   ·omega
   ·omega)]
  show a.seekT o.fd _ ((p : Int) + min o.n (((a.nd k).data.length : Int) - min (p : Int) ((a.nd k).data.length : Int))) = _
  congr 1
  omega)
 obtain ⟨A1, c1, hdv⟩ : ∃ A1 c1, R.dv k = .slice A1 (a.nd k).data.length c1 := by
  obtain ⟨A1, c1, e, _⟩ := (h.dat k hlast).1.rd
  exact ⟨A1, c1, e⟩
 have HDV := Lib.hid hdv
 have hbs := (h.dat k hlast).1
 rw [hdv] at hbs
 obtain ⟨A2, c2, hsl, hA2, hr2⟩ := hbs.cut (p := st) (q := en) (by omega) (by omega)
 have HSL := Lib.hid hsl
 have HA2 := Lib.hid hA2
 have HR2 := Lib.hid hr2
 have HNL := Lib.hid (show (byts (((a.nd k).data.drop st).take (en - st))).length = (en - st) * 1 by rw [byts_len, List.length_take, List.length_drop]; omega)
 have H1 : Hid (∀ u ∈ byts (((a.nd k).data.drop st).take (en - st)), u.oneCell' = true) := Lib.hid (byts_one _)
 have hm1 : min ((p : Nat) : Int) (((a.nd k).data.length : Nat) : Int) = ((st : Nat) : Int) := by omega
 have hm2 : min (((st : Nat) : Int) + ((nn : Nat) : Int)) (((a.nd k).data.length : Nat) : Int) = ((en : Nat) : Int) := by omega
 have hstp : st ≤ p := by omega
 have hen2 : en ≤ st + nn := by omega
 have hse : st ≤ en := by omega
 have HEQ := Lib.hid (show ((p : Int) + (en : Int) - (st : Int)) = ((p : Int) + (en : Int) - (st : Int)) from rfl)
 have hin : ((k : Nat) : Int) < ((a.last + 1 : Nat) : Int) := by omega
 have hk0 : (0 : Int) ≤ ((k : Nat) : Int) := by omega
 generalize hx1 : a.last + 1 = n1 at *
 have hnb : n1 ≤ 1000001 := by omega
 have HNN := Lib.hid hx1
 generalize hLL : (a.nd k).data.length = L at *
 generalize hnw : byts (((a.nd k).data.drop st).take (en - st)) = news at *
 have t1 : (mode.tmod 2 == 0) = false := beq_eq_false_iff_ne.2 (by rw [Int.tmod_eq_emod_of_nonneg (by omega)]; omega)
 clear h1
 clear h hg hk hm hf hlive hlast hfew hdl hst hen hdv hbs hsl hA2 hr2 hx1
 have e2 := kf 2 hkd rfl
 have e3 := kt 3 hkd rfl
 have e4 := kf 4 hkd rfl
 have e5 := kf 5 hkd rfl
 clear hkd
 have ua0 := (HO4.out).b0.c8
 have ur0 := (HO4.out).b1.cf7
 have ul := (HO4.out).b1.lt
 have ux0 := HX4.out.c3
 go_upto_region 13 with (fail)
 clear ua0 ur0 ul ux0
 have HOE := Lib.hid HO4.out.drew
 have HTE := Lib.hid HT4.out.drew
 have HXE := Lib.hid HX4.out.drew
 have d0 := HTE.out.cells.1
 rw [HNN.out] at d0
 have cx0 := HXE.out.cell 0
 simp at cx0
 have n2 := (HTE.out.cel k HKL.out).2.2.1
 rw [HDV.out] at n2
 go_region
 clear d0 cx0 n2
 have HBE := Lib.hid (show Below w.heap.size w w4.drew from HB4.out.trans drew_below')
 generalize w4.drew = w5 at *
 have cx1 := HXE.out.cell 1
 have ca4 := HOE.out.b0.cell 4
 simp at cx1 ca4
 go_upto_region 16 with (fail)
 clear cx1 ca4
 have HO6 := Lib.hid HOE.out.drew
 have HT6 := Lib.hid HTE.out.drew
 have HX6 := Lib.hid HXE.out.drew
 have vt2 := HT6.out.cells.2
 have va3 := HO6.out.b0.cell 3
 have vx1 := HX6.out.cell 1
 simp at va3 vx1
 have hS0 := And.intro vt2 (And.intro va3 vx1)
 have HV := Lib.hid vt2
 clear vt2 va3 vx1
 have hwr1 : IntKind.i64.wrap (((p : Nat) : Int) + ((en : Nat) : Int)) = ((p : Nat) : Int) + ((en : Nat) : Int) := IntWalk.i64_in _ (by omega)
 have hwr2 : IntKind.i64.wrap (((p : Nat) : Int) + ((en : Nat) : Int) - ((st : Nat) : Int)) = ((p : Nat) : Int) + ((en : Nat) : Int) - ((st : Nat) : Int) := IntWalk.i64_in _ (by omega)
 go_region_held3 (fun W => W.cell? ⟨y, 1, none⟩ = some (.pointer (some ⟨R.fb, 0, none⟩)) ∧ W.cell? ⟨w.heap.size, 3, none⟩ = some (.int .i64 o.fd) ∧ W.cell? ⟨s, 1, none⟩ = some (.int .i64 (p : Nat)))
  (first | exact hS0 | exact hS1)
  (first
   | (go_at_call 81
      refine (rtseek2_any o.fd ((k : Int), (p : Int), mode) _ _ HT6.out HF.out (by omega)).mono ?_
      rintro e w9 ⟨rfl, hT9, hTu9, hbt⟩
      have HO9 := Lib.hid (HO6.out.turn2 hTu9 (fun e => by have := HFL.out _ e; omega) (fun e => by have := HFL.out _ e; omega))
      have HX9 := Lib.hid (HX6.out.turn hTu9 (fun e => by
       have := HFL.out _ e
       have := HXL.out
       omega))
      have va3 := HO9.out.b0.cell 3
      have vx1 := HX9.out.cell 1
      simp at va3 vx1
      have hS1 := And.intro ((World.cell?_of_block (a := ⟨y, 1, none⟩) hbt).trans HV.out) (And.intro va3 vx1)
      have HT9 := Lib.hid hT9
      have HTu9 := Lib.hid hTu9
      clear hT9 hTu9 hbt va3 vx1))
 clear hS0 hS1
 obtain ⟨I9, T9, h9⟩ := HT9.out
 have HC9 := Lib.hid (show ∀ W, Below w9.heap.size w9 W → ∀ ad, A2 = some ad → ∀ j u, news[j]? = some u → W.cell? (ad.add j) = some u from fun W hW => by
  have h10 := (h9.below hW).dat k HKL.out
  have h11 : Bs W (R.dv k) (a.nd k).data := h10.1
  rw [HDV.out] at h11
  exact HR2.out W h11)
 have HT10 := Lib.hid h9
 clear h9
 have hsl := HSL.out
 go_wp2_with (at_builtin; refine wpList_append_row rfl (.tmp 92) (.tmp 96) 28 rfl w9.heap.size 5 i0 (.int .u8 0) 1 1 Tryz.underlying28 hi0 hz0 hz1 hz2 rfl (by decide) _ _ _ rfl (World.ownsRow_made w9 #[] 0 (Nat.le_refl _) (Nat.zero_le _) rfl) A2 (en - st) c2 news rfl HNL.out HA2.out ?c1 H1.out ?c3 ?c4 ?c5 ?_)
 case c1 => exact fun ad e => HC9.out _ (below_0 w9 _) ad e
 case c3 => simp only [maxLen]; omega
 case c4 => omega
 case c5 => simp
 intro v' w11 hown1 hgr1
 have hbel : Below w9.heap.size w9 w11 := ((Below.refl _ _).alloc (Nat.le_refl _) _).grown hgr1 (by simp) (fun j hj => by cases hj; exact Nat.le_refl _)
 obtain ⟨A3, c3, rfl⟩ := own_slice hown1
 have HO11 := Lib.hid (HO9.out.below hbel)
 have HT11 := Lib.hid (HT10.out.below hbel)
 have HTu11 := Lib.hid (HTu9.out.trans (S' := F) (Turn.of_below (S := F) hbel) fun _ _ e => e)
 clear hown1 hgr1 hbel
 have vr0 := (HO11.out).b1.cf7
 have vl := (HO11.out).b1.lt
 go_wp2_with fail
 refine bodyPost_ret (v := .agg #[.int .i64 0, .int .i64 0, .slice A3 (0 + (en - st)) c3, .slice none 0 0, .int .i64 0, .int .i64 0, .int .i64 0]) (by simp [results, Tryz.results35, go_sem, vr0, vl]) rfl ?_
 rw [HR.out]
 exact rans_fin (F' := F) (wX := w5.drew) HT.out ⟨_, HT11.out.grown w5.drew HT6.out.w0⟩ (((Turn.of_below (S := F) HBE.out).drew).trans (S' := F) HTu11.out fun _ _ e => e) HBE.out.size (fun j e => .inl e) (by omega) HO6.out.b1.lt (fun e => by have := HFL.out _ e; omega)
end
end Go.Proofs.YtpkhglfhpggceaaGreatDoor
namespace Go.Proofs.YtpkhglfhpggceaaGreatDoor
set_option maxRecDepth 100000
set_option maxHeartbeats 16000000
open Go.RowKit Go.Proofs.YtpkhglfhpggceaaGreatDoorW.PrintLast
set_option linter.unusedVariables false
set_option linter.unusedSimpArgs false
section
variable {F : Nat → Prop} {w w' : World} {y c : Nat} {R : RMem} {a : TS}
def wrK (S : List UInt8) (p : Nat) (d : List UInt8) (m : Nat) : List UInt8 := S.take p ++ d.take m ++ S.drop (p + m)
theorem wrK_start (S : List UInt8) (p : Nat) (d : List UInt8) : wrK S p d 0 = S := by unfold wrK; simp
theorem wrK_end (S : List UInt8) (p : Nat) (d : List UInt8) : wrK S p d d.length = S.take p ++ d ++ S.drop (p + d.length) := by unfold wrK; simp
theorem wrK_len {S : List UInt8} {p : Nat} {d : List UInt8} {m : Nat} (hm : m ≤ d.length) (hp : p + m ≤ S.length) : (wrK S p d m).length = S.length := by
 unfold wrK
 simp
 omega
theorem wrK_step {S : List UInt8} {p : Nat} {d : List UInt8} {m : Nat} {b : UInt8} (hb : d[m]? = some b) (hp : p + m < S.length) : (wrK S p d m).set (p + m) b = wrK S p d (m + 1) := by
 have hm : m < d.length := (List.getElem?_eq_some_iff.1 hb).1
 unfold wrK
 have h1 : (S.take p ++ d.take m).length = p + m := by simp; omega
 rw [List.set_append_right _ _ (by omega), h1, Nat.sub_self, List.drop_eq_getElem_cons (by omega), List.set_cons_zero, List.take_add_one, hb]
 simp
 congr 1
theorem Byt.set_ {g n c' : Nat} {l : List UInt8} (h : Byt w (.slice (some ⟨g, 0, none⟩) n c') l) (hl : l.length = n) {j : Nat} (hj : j < n) (b : UInt8) : Byt (w.setCell ⟨g, j, none⟩ (.int .u8 (b.toNat : Int))) (.slice (some ⟨g, 0, none⟩) n c') (l.set j b) := by
 subst hl
 rcases h.shape with ⟨e, _⟩ | ⟨g', c2, cur, e, h1, h2, h3, h4, h5⟩
 ·cases e
 ·injection e with e1 e2 e3
  injection e1 with e1
  injection e1 with e1
  subst e1 e3
  have := Byt.mk (w := w.setCell ⟨g, j, none⟩ (.int .u8 (b.toNat : Int))) (l := l.set j b) (c := c') (h3.set_ j _) (by simpa using h4) (by simpa using h1) h2 (by
   rw [Array.toList_setIfInBounds, List.length_set, List.take_set, h5]
   unfold byts
   rw [List.map_set])
  rw [List.length_set] at this
  exact this
theorem Byt.at_ {g n c' : Nat} {l : List UInt8} (h : Byt w (.slice (some ⟨g, 0, none⟩) n c') l) (hl : l.length = n) {j : Nat} (hj : j < n) : ∃ v0, w.cell? ⟨g, j, none⟩ = some v0 := by
 subst hl
 exact ⟨_, h.get hj⟩
theorem Byt.free {g n c' : Nat} {l : List UInt8} (h : Byt w (.slice (some ⟨g, 0, none⟩) n c') l) (i : Nat) : w.frozen? ⟨g, i, none⟩ = false := by
 obtain ⟨cs, hb⟩ := h.type g rfl
 exact hb.frozen i
theorem rfd_write_bad (o : OpT) (A : Option Addr) (cap k p : Nat) (mode : Int) (w : World) (h : RIs F w y R a) (hg : Good a c) (hc : c + 20 ≤ 100000) (hk : (a.nd k).kind = 1) (hm : 1 ≤ mode ∧ mode ≤ 3) (hp : p ≤ 48640) (hf : lookO a.op o.fd = some ((k : Int), (p : Int), mode)) (hkd : o.kind = 4) (hb : mode < 2 ∨ (2 ≤ mode ∧ 4096 < o.data.length) ∨ (2 ≤ mode ∧ o.data.length ≤ 4096 ∧ 48640 < p + o.data.length)) :
  Calls Tryz.prog 35 #[.pointer (some ⟨y, 0, none⟩), o.val A o.data.length cap] w (RAnsPost F y (a.heldT o) w) := by
 unfold OpT.val
 have HT := Lib.hid h
 have HH := Lib.hid (fun W (hb : Below w.heap.size w W) => h.below hb)
 have HGT := Lib.hid (fun W (h : RIs F W y R a) => show Calls Tryz.prog 78 #[.pointer (some ⟨R.fb, 0, none⟩), .int .i64 o.fd] W (fun e w' => e = .returned (.tuple #[.agg #[.int .i64 (k : Nat), .int .i64 (p : Nat), .int .i64 mode], .int .i64 0]) ∧ Below W.heap.size W w') from by have := rtget_any o.fd W h; rw [hf] at this; exact this)
 have HF := Lib.hid hf
 have HFL : Hid (∀ j, F j → j < w.heap.size) := Lib.hid fun j e => h.lt j e
 have HSV := Lib.hid (And.intro h (And.intro hg (And.intro hk (And.intro hm (And.intro hf (And.intro hkd hb))))))
 clear h hg hk hm hf hkd hb
 generalize hdl0 : o.data.length = dl at *
 have HDL := Lib.hid hdl0
 clear hdl0
 go_enter Tryz.func35, Tryz.ntmps35
 go_upto_region 1 with (fail)
 have HO := Lib.hid (OO.start w #[.int .i64 o.kind, .string o.path, .string o.to, .int .i64 o.fd, .int .i64 o.n, .int .i64 o.off, .int .i64 o.flags, .slice A dl cap])
 have HB := Lib.hid (below_00 w (.cells #[.int .i64 o.kind, .string o.path, .string o.to, .int .i64 o.fd, .int .i64 o.n, .int .i64 o.off, .int .i64 o.flags, .slice A dl cap] 36) (.cells zero7 33))
 have HFL0 : Hid (∀ j, F j → j < w.heap.size) := Lib.hid fun j e => HT.out.lt j e
 generalize (w.alloc (.cells #[.int .i64 o.kind, .string o.path, .string o.to, .int .i64 o.fd, .int .i64 o.n, .int .i64 o.off, .int .i64 o.flags, .slice A dl cap] 36)).alloc (.cells zero7 33) = w1 at *
 have HT1 := Lib.hid (HH.out _ HB.out)
 have HC3 : Hid (∀ W, OO W w.heap.size #[.int .i64 o.kind, .string o.path, .string o.to, .int .i64 o.fd, .int .i64 o.n, .int .i64 o.off, .int .i64 o.flags, .slice A dl cap] → W.cell? ⟨w.heap.size, 3, none⟩ = some (.int .i64 o.fd)) := Lib.hid fun W hO => by have := hO.b0.cell 3; simpa using this
 have hO := HO.out.drew
 have hT := HT1.out.drew
 have hB : Below w.heap.size w w1.drew := HB.out.trans drew_below'
 refine start_ (n := 13) (S := fun w' => w'.cell? ⟨y, 1, none⟩ = some (.pointer (some ⟨R.fb, 0, none⟩)) ∧ w'.cell? ⟨w.heap.size, 3, none⟩ = some (.int .i64 o.fd)) (ds := []) (bs 13 0) (by kernel_rfl) rfl rfl ⟨hT.cells.2, (HC3.out _ hO)⟩ (fun hHeld => ?_)
 refine py_ 0 14 (bs 13 1) rfl rfl (by kernel_rfl) (fun _ _ _ h => h) (by rfl) (fun w' => by go_simp; with_reducible rfl) (by simp only [Act.put, sA, sZ, sS, i64_w, i32_w]; rfl) ?_
 refine py_ 1 15 (bs 13 3) rfl rfl (by kernel_rfl) (fun _ _ _ h => h) (by rfl) (fun w' => by go_simp; with_reducible rfl) (by simp only [Act.put, sA, sZ, sS, i64_w, i32_w]; rfl) ?_
 refine py_ 2 16 (bs 13 7) rfl rfl (by kernel_rfl) (fun _ _ _ h => h) (by rfl) (fun w' => by go_simp; with_reducible rfl) (by simp only [Act.put, sA, sZ, sS, i64_w, i32_w]; rfl) ?_
 refine py_ 4 18 (bs 13 23) rfl rfl (by kernel_rfl) (fun _ _ _ h => h) (by rfl) (fun w' => by go_simp; with_reducible rfl) (by simp only [Act.put, sA, sZ, sS, i64_w, i32_w]; rfl) ?_
 refine ty_ 3 17 (bs 13 31) rfl rfl (by kernel_rfl) (fun _ _ _ h => h) (by rfl) (by rintro w' ⟨s0, s1⟩; go_simp; with_reducible rfl) hHeld (by simp only [Act.put, sA, sZ, sS, i64_w, i32_w]; rfl) ?_
 refine ty_ 5 19 (bs 13 63) rfl rfl (by kernel_rfl) (fun _ _ _ h => h) (by rfl) (by rintro w' ⟨s0, s1⟩; go_simp; with_reducible rfl) hHeld (by simp only [Act.put, sA, sZ, sS, i64_w, i32_w]; rfl) ?_
 refine join_ (σ := Nat) 2 (bs 13 2047) (fun s => [(20, Value.tuple #[.agg #[.int .i64 (k : Nat), .int .i64 (p : Nat), .int .i64 mode], .int .i64 0]), (13, Value.tuple #[.agg #[.int .i64 (k : Nat), .int .i64 (p : Nat), .int .i64 mode], .int .i64 0]), (21, Value.agg #[.int .i64 (k : Nat), .int .i64 (p : Nat), .int .i64 mode]), (22, Value.int .i64 0), (5, Value.pointer (some ⟨s, 0, none⟩))]) (fun s w' => RIs F w' y R a ∧ OO w' w.heap.size #[.int .i64 o.kind, .string o.path, .string o.to, .int .i64 o.fd, .int .i64 o.n, .int .i64 o.off, .int .i64 o.flags, .slice A dl cap] ∧ Below w.heap.size w w' ∧ Blk w' s 99 #[.int .i64 0, .int .i64 0, .int .i64 0] ∧ w.heap.size + 1 < s) ?_ ?_
 rotate_left
 ·intro hCont
  refine two_ (i := 6) (j := 10) (Ni := some 20) (Nj := some 5) (bs 13 127) (bs 13 1087) rfl rfl rfl rfl (by kernel_rfl) (by decide) (by decide) (fun K hK => ?_) (fun K hK => ?_)
  ·skip
   refine goes_ Tryz.func78 (by kernel_rfl) rfl #[.pointer (some ⟨R.fb, 0, none⟩), .int .i64 o.fd] (by rfl) rfl rfl (by simp only [List.map_toArray, List.map_cons, List.map_nil]; rfl) ?_
   with_reducible refine ((HGT.out _ hT)).mono ?_
   rintro e w3 ⟨rfl, hb3⟩
   refine ⟨_, rfl, ?_⟩
   have hT := hT.below hb3
   have hO := hO.below hb3
   have hB := hB.trans (hb3.mono hB.size)
   clear hb3
   refine hK.out _ _ ⟨hT.cells.2, (HC3.out _ hO)⟩ (fun hHeld => ?_)
   clear hK K
   refine norm_ (a' := ?_) ?_ ?_
   rotate_left
   ·show Act.put _ (some 20) _ = _
    simp only [Act.put, sA, sZ, sS, i64_w, i32_w]
    rfl
   refine py_ 7 13 (bs 13 255) rfl rfl (by kernel_rfl) (fun _ _ _ h => h) (by rfl) (fun w' => by go_simp; with_reducible rfl) (by simp only [Act.put, sA, sZ, sS, i64_w, i32_w]; rfl) ?_
   refine py_ 8 21 (bs 13 511) rfl rfl (by kernel_rfl) (fun _ _ _ h => h) (by rfl) (fun w' => by go_simp; with_reducible rfl) (by simp only [Act.put, sA, sZ, sS, i64_w, i32_w]; rfl) ?_
   refine py_ 9 22 (bs 13 1023) rfl rfl (by kernel_rfl) (fun _ _ _ h => h) (by rfl) (fun w' => by go_simp; with_reducible rfl) (by simp only [Act.put, sA, sZ, sS, i64_w, i32_w]; rfl) ?_
   refine one_ (i := 10) (N := some 5) (bs 13 2047) rfl rfl (by kernel_rfl) (by decide) (fun K hK => ?_)
   refine value_ (w1 := ?_) (v := ?_) (by rfl) rfl ?_ ?_
   rotate_left 2
   ·go_simp
    constructor
    ·rfl
    ·rfl
   have hX := Blk.new w3 99 #[.int .i64 0, .int .i64 0, .int .i64 0]
   have hs : w.heap.size + 1 < w3.heap.size := hO.b1.lt
   have hT := hT.below ((Below.refl _ _).alloc (Nat.le_refl _) (.cells #[.int .i64 0, .int .i64 0, .int .i64 0] 99))
   have hO := hO.alloc (.cells #[.int .i64 0, .int .i64 0, .int .i64 0] 99)
   have hB := hB.alloc hB.size (.cells #[.int .i64 0, .int .i64 0, .int .i64 0] 99)
   refine hK.out _ _ ⟨hT.cells.2, (HC3.out _ hO)⟩ (fun hHeld => ?_)
   clear hK K
   refine norm_ (a' := ?_) ?_ ?_
   rotate_left
   ·show Act.put _ (some 5) _ = _
    simp only [Act.put, sA, sZ, sS, i64_w, i32_w]
    rfl
   exact norm_ (by simp only [putAll, Act.put, sA, sZ, sS]) (hCont w3.heap.size _ ⟨hT, hO, hB, hX, hs⟩)
  ·skip
   refine value_ (w1 := ?_) (v := ?_) (by rfl) rfl ?_ ?_
   rotate_left 2
   ·go_simp
    constructor
    ·rfl
    ·rfl
   have hX := (Blk.new w1 99 #[.int .i64 0, .int .i64 0, .int .i64 0]).drew
   have hs : w.heap.size + 1 < w1.heap.size := HO.out.b1.lt
   have hT := (HT1.out.below ((Below.refl _ _).alloc (Nat.le_refl _) (.cells #[.int .i64 0, .int .i64 0, .int .i64 0] 99))).drew
   have hO := (HO.out.alloc (.cells #[.int .i64 0, .int .i64 0, .int .i64 0] 99)).drew
   have hB : Below w.heap.size w (w1.alloc (.cells #[.int .i64 0, .int .i64 0, .int .i64 0] 99)).drew := (HB.out.alloc HB.out.size (.cells #[.int .i64 0, .int .i64 0, .int .i64 0] 99)).trans drew_below'
   refine hK.out _ _ ⟨hT.cells.2, (HC3.out _ hO)⟩ (fun hHeld => ?_)
   clear hK K
   refine norm_ (a' := ?_) ?_ ?_
   rotate_left
   ·show Act.put _ (some 5) _ = _
    simp only [Act.put, sA, sZ, sS, i64_w, i32_w]
    rfl
   refine one_ (i := 6) (N := some 20) (bs 13 1151) rfl rfl (by kernel_rfl) (by decide) (fun K hK => ?_)
   refine goes_ Tryz.func78 (by kernel_rfl) rfl #[.pointer (some ⟨R.fb, 0, none⟩), .int .i64 o.fd] (by rfl) rfl rfl (by simp only [List.map_toArray, List.map_cons, List.map_nil]; rfl) ?_
   with_reducible refine ((HGT.out _ hT)).mono ?_
   rintro e w3 ⟨rfl, hb3⟩
   refine ⟨_, rfl, ?_⟩
   have hT := hT.below hb3
   have hO := hO.below hb3
   have hX := hX.below hb3 hX.lt
   have hB := hB.trans (hb3.mono hB.size)
   clear hb3
   refine hK.out _ _ ⟨hT.cells.2, (HC3.out _ hO)⟩ (fun hHeld => ?_)
   clear hK K
   refine norm_ (a' := ?_) ?_ ?_
   rotate_left
   ·show Act.put _ (some 20) _ = _
    simp only [Act.put, sA, sZ, sS, i64_w, i32_w]
    rfl
   refine py_ 7 13 (bs 13 1279) rfl rfl (by kernel_rfl) (fun _ _ _ h => h) (by rfl) (fun w' => by go_simp; with_reducible rfl) (by simp only [Act.put, sA, sZ, sS, i64_w, i32_w]; rfl) ?_
   refine py_ 8 21 (bs 13 1535) rfl rfl (by kernel_rfl) (fun _ _ _ h => h) (by rfl) (fun w' => by go_simp; with_reducible rfl) (by simp only [Act.put, sA, sZ, sS, i64_w, i32_w]; rfl) ?_
   refine py_ 9 22 (bs 13 2047) rfl rfl (by kernel_rfl) (fun _ _ _ h => h) (by rfl) (fun w' => by go_simp; with_reducible rfl) (by simp only [Act.put, sA, sZ, sS, i64_w, i32_w]; rfl) ?_
   exact norm_ (by simp only [putAll, Act.put, sA, sZ, sS]) (hCont w1.heap.size _ ⟨hT, hO, hB, hX, hs⟩)
 rintro s w3 ⟨hT, hO, hB, hX, hs⟩
 have hHeld := And.intro hT.cells.2 (HC3.out _ hO)
 refine norm_ (a' := ?_) ?_ ?_
 rotate_left
 ·simp only [putAll, Act.put, sA, sZ, sS]
  rfl
 refine one_ (i := 11) (N := none) (bs 13 4095) rfl rfl (by kernel_rfl) (by decide) (fun K hK => ?_)
 have x0 := hX.cell 0
 have x1 := hX.cell 1
 have x2 := hX.cell 2
 have q0 := hX.frozen 0
 have q1 := hX.frozen 1
 have q2 := hX.frozen 2
 simp at x0 x1 x2
 refine skip_ (w1 := ?_) (by rfl) rfl ?_ ?_
 rotate_left
 ·go_simp
  rfl
 have hTs := set99 (cs := (.int .i64 0, .int .i64 0, .int .i64 0)) hX (.int .i64 (k : Nat)) (.int .i64 (p : Nat)) (.int .i64 mode)
 have hX := hTs.1
 have hT := hT.turn hTs.2 (fun j hj e => by have := HFL0.out j hj; have e2 : j = s := e; omega)
 have hO := hO.turn2 hTs.2 (fun e => by have e2 : w.heap.size = s := e; omega) (fun e => by have e2 : w.heap.size + 1 = s := e; omega)
 have hB := set116b hB (b := s) (by omega) (.int .i64 (k : Nat)) (.int .i64 (p : Nat)) (.int .i64 mode)
 clear x0 x1 x2 q0 q1 q2 hTs
 refine hK.out _ _ ⟨hT.cells.2, (HC3.out _ hO)⟩ (fun hHeld => ?_)
 clear hK K
 refine py_ 12 6 (bs 13 8191) rfl rfl (by kernel_rfl) (fun _ _ _ h => h) (by rfl) (fun w' => by go_simp; with_reducible rfl) (by simp only [Act.put, sA, sZ, sS, i64_w, i32_w]; rfl) ?_
 refine done_ (by kernel_rfl) ?_
 have HO4 := Lib.hid hO
 have HX4 := Lib.hid hX
 have HB4 := Lib.hid hB
 have HXL := Lib.hid hs
 clear hO hX hB hT hHeld hs
 generalize ((w3.setCell ⟨s, 0, none⟩ (.int .i64 (k : Nat))).setCell ⟨s, 1, none⟩ (.int .i64 (p : Nat))).setCell ⟨s, 2, none⟩ (.int .i64 mode) = w4 at *
 have HT4 := Lib.hid (HH.out _ HB4.out)
 have hq := HDL.out
 clear HDL
 subst hq
 obtain ⟨h, hg, hk, hm, hf, hkd, hb⟩ := HSV.out
 rcases hb with h1 | ⟨h1, h2⟩ | ⟨h1, h2, h3⟩
 ·skip
  have hlive : (a.nd k).kind ≠ 0 := by rw [hk]; decide
  have hlast := (hg.in_last hlive).2
  have hfew := hg.few
  have hdl := hg.data k
  have HR := Lib.hid (show a.heldT o = a by rw [held_write_is hf hkd, writeT_bad (.inl h1)])
  clear h hg hk hm hf hlive hlast hfew hdl
  have e2 := kf 2 hkd rfl
  have e3 := kf 3 hkd rfl
  have e4 := kt 4 hkd rfl
  have e5 := kf 5 hkd rfl
  clear hkd
  generalize o.data.length = dl at *
  have ua0 := (HO4.out).b0.c8
  have ur0 := (HO4.out).b1.cf7
  have ul := (HO4.out).b1.lt
  have ux0 := HX4.out.c3
  go_wp2_with fail
  refine (failed_any _ _).mono ?_
  rintro e w5 ⟨rfl, hb5⟩
  have HOF := Lib.hid (HO4.out.below hb5)
  have HBF := Lib.hid (HB4.out.trans (hb5.mono HB4.out.size))
  clear hb5
  have vr0 := (HOF.out).b1.cf7
  have vl := (HOF.out).b1.lt
  go_wp2_with fail
  refine bodyPost_ret (v := .agg #[.int .i64 50, .int .i64 0, .slice none 0 0, .slice none 0 0, .int .i64 0, .int .i64 0, .int .i64 0]) (by simp [results, Tryz.results35, go_sem, vr0, vl]) rfl ?_
  rw [HR.out]
  exact rans_same HT.out (ans_set HBF.out (by omega) _ _ _ _ _ _ _)
 ·skip
  have hlive : (a.nd k).kind ≠ 0 := by rw [hk]; decide
  have hlast := (hg.in_last hlive).2
  have hfew := hg.few
  have hdl := hg.data k
  have HR := Lib.hid (show a.heldT o = a by rw [held_write_is hf hkd, writeT_bad (.inr (.inl h2))])
  have hm2 : ¬ mode < 2 := by omega
  have hx2 : (4096 : Int) < ((o.data.length : Nat) : Int) := by omega
  clear h2
  clear h hg hk hm hf hlive hlast hfew hdl
  have e2 := kf 2 hkd rfl
  have e3 := kf 3 hkd rfl
  have e4 := kt 4 hkd rfl
  have e5 := kf 5 hkd rfl
  clear hkd
  generalize o.data.length = dl at *
  have ua0 := (HO4.out).b0.c8
  have ur0 := (HO4.out).b1.cf7
  have ul := (HO4.out).b1.lt
  have ux0 := HX4.out.c3
  go_wp2_with fail
  refine (failed_any _ _).mono ?_
  rintro e w5 ⟨rfl, hb5⟩
  have HOF := Lib.hid (HO4.out.below hb5)
  have HBF := Lib.hid (HB4.out.trans (hb5.mono HB4.out.size))
  clear hb5
  have vr0 := (HOF.out).b1.cf7
  have vl := (HOF.out).b1.lt
  go_wp2_with fail
  refine bodyPost_ret (v := .agg #[.int .i64 2, .int .i64 0, .slice none 0 0, .slice none 0 0, .int .i64 0, .int .i64 0, .int .i64 0]) (by simp [results, Tryz.results35, go_sem, vr0, vl]) rfl ?_
  rw [HR.out]
  exact rans_same HT.out (ans_set HBF.out (by omega) _ _ _ _ _ _ _)
 ·skip
  have hlive : (a.nd k).kind ≠ 0 := by rw [hk]; decide
  have hlast := (hg.in_last hlive).2
  have hfew := hg.few
  have hdl := hg.data k
  have HR := Lib.hid (show a.heldT o = a by rw [held_write_is hf hkd, writeT_bad (.inr (.inr (.inl (by show (p : Int) > _; omega))))])
  have hm2 : ¬ mode < 2 := by omega
  have hx2 : ¬ (4096 : Int) < ((o.data.length : Nat) : Int) := by omega
  have hx3 : (48640 : Int) - ((o.data.length : Nat) : Int) < ((p : Nat) : Int) := by omega
  clear h2 h3
  clear h hg hk hm hf hlive hlast hfew hdl
  have e2 := kf 2 hkd rfl
  have e3 := kf 3 hkd rfl
  have e4 := kt 4 hkd rfl
  have e5 := kf 5 hkd rfl
  clear hkd
  generalize o.data.length = dl at *
  have ua0 := (HO4.out).b0.c8
  have ur0 := (HO4.out).b1.cf7
  have ul := (HO4.out).b1.lt
  have ux0 := HX4.out.c3
  go_wp2_with fail
  refine (failed_any _ _).mono ?_
  rintro e w5 ⟨rfl, hb5⟩
  have HOF := Lib.hid (HO4.out.below hb5)
  have HBF := Lib.hid (HB4.out.trans (hb5.mono HB4.out.size))
  clear hb5
  have vr0 := (HOF.out).b1.cf7
  have vl := (HOF.out).b1.lt
  go_wp2_with fail
  refine bodyPost_ret (v := .agg #[.int .i64 31, .int .i64 0, .slice none 0 0, .slice none 0 0, .int .i64 0, .int .i64 0, .int .i64 0]) (by simp [results, Tryz.results35, go_sem, vr0, vl]) rfl ?_
  rw [HR.out]
  exact rans_same HT.out (ans_set HBF.out (by omega) _ _ _ _ _ _ _)
theorem rfd_write_none (o : OpT) (A : Option Addr) (cap k p : Nat) (mode : Int) (w : World) (h : RIs F w y R a) (hg : Good a c) (hc : c + 20 ≤ 100000) (hk : (a.nd k).kind = 1) (hm : 1 ≤ mode ∧ mode ≤ 3) (hp : p ≤ 48640) (hf : lookO a.op o.fd = some ((k : Int), (p : Int), mode)) (hkd : o.kind = 4) (h1 : 2 ≤ mode) (h2 : o.data.length = 0) :
  Calls Tryz.prog 35 #[.pointer (some ⟨y, 0, none⟩), o.val A o.data.length cap] w (RAnsPost F y (a.heldT o) w) := by
 unfold OpT.val
 have HT := Lib.hid h
 have HH := Lib.hid (fun W (hb : Below w.heap.size w W) => h.below hb)
 have HGT := Lib.hid (fun W (h : RIs F W y R a) => show Calls Tryz.prog 78 #[.pointer (some ⟨R.fb, 0, none⟩), .int .i64 o.fd] W (fun e w' => e = .returned (.tuple #[.agg #[.int .i64 (k : Nat), .int .i64 (p : Nat), .int .i64 mode], .int .i64 0]) ∧ Below W.heap.size W w') from by have := rtget_any o.fd W h; rw [hf] at this; exact this)
 have HF := Lib.hid hf
 have HFL : Hid (∀ j, F j → j < w.heap.size) := Lib.hid fun j e => h.lt j e
 have hlive : (a.nd k).kind ≠ 0 := by rw [hk]; decide
 have hlast := (hg.in_last hlive).2
 have hfew := hg.few
 have hdl := hg.data k
 have HR := Lib.hid (show a.heldT o = a by rw [held_write_is hf hkd, writeT_bad (.inr (.inr (.inr h2)))])
 have hm2 : ¬ mode < 2 := by omega
 have hx3 : ¬ (48640 : Int) < ((p : Nat) : Int) := by omega
 clear h hg hk hm hf hlive hlast hfew hdl
 have e2 := kf 2 hkd rfl
 have e3 := kf 3 hkd rfl
 have e4 := kt 4 hkd rfl
 have e5 := kf 5 hkd rfl
 clear hkd
 rw [h2]
 clear h2
 go_enter Tryz.func35, Tryz.ntmps35
 go_upto_region 1 with (fail)
 have HO := Lib.hid (OO.start w #[.int .i64 o.kind, .string o.path, .string o.to, .int .i64 o.fd, .int .i64 o.n, .int .i64 o.off, .int .i64 o.flags, .slice A 0 cap])
 have HB := Lib.hid (below_00 w (.cells #[.int .i64 o.kind, .string o.path, .string o.to, .int .i64 o.fd, .int .i64 o.n, .int .i64 o.off, .int .i64 o.flags, .slice A 0 cap] 36) (.cells zero7 33))
 have HFL0 : Hid (∀ j, F j → j < w.heap.size) := Lib.hid fun j e => HT.out.lt j e
 generalize (w.alloc (.cells #[.int .i64 o.kind, .string o.path, .string o.to, .int .i64 o.fd, .int .i64 o.n, .int .i64 o.off, .int .i64 o.flags, .slice A 0 cap] 36)).alloc (.cells zero7 33) = w1 at *
 have HT1 := Lib.hid (HH.out _ HB.out)
 have HC3 : Hid (∀ W, OO W w.heap.size #[.int .i64 o.kind, .string o.path, .string o.to, .int .i64 o.fd, .int .i64 o.n, .int .i64 o.off, .int .i64 o.flags, .slice A 0 cap] → W.cell? ⟨w.heap.size, 3, none⟩ = some (.int .i64 o.fd)) := Lib.hid fun W hO => by have := hO.b0.cell 3; simpa using this
 have hO := HO.out.drew
 have hT := HT1.out.drew
 have hB : Below w.heap.size w w1.drew := HB.out.trans drew_below'
 refine start_ (n := 13) (S := fun w' => w'.cell? ⟨y, 1, none⟩ = some (.pointer (some ⟨R.fb, 0, none⟩)) ∧ w'.cell? ⟨w.heap.size, 3, none⟩ = some (.int .i64 o.fd)) (ds := []) (bs 13 0) (by kernel_rfl) rfl rfl ⟨hT.cells.2, (HC3.out _ hO)⟩ (fun hHeld => ?_)
 refine py_ 0 14 (bs 13 1) rfl rfl (by kernel_rfl) (fun _ _ _ h => h) (by rfl) (fun w' => by go_simp; with_reducible rfl) (by simp only [Act.put, sA, sZ, sS, i64_w, i32_w]; rfl) ?_
 refine py_ 1 15 (bs 13 3) rfl rfl (by kernel_rfl) (fun _ _ _ h => h) (by rfl) (fun w' => by go_simp; with_reducible rfl) (by simp only [Act.put, sA, sZ, sS, i64_w, i32_w]; rfl) ?_
 refine py_ 2 16 (bs 13 7) rfl rfl (by kernel_rfl) (fun _ _ _ h => h) (by rfl) (fun w' => by go_simp; with_reducible rfl) (by simp only [Act.put, sA, sZ, sS, i64_w, i32_w]; rfl) ?_
 refine py_ 4 18 (bs 13 23) rfl rfl (by kernel_rfl) (fun _ _ _ h => h) (by rfl) (fun w' => by go_simp; with_reducible rfl) (by simp only [Act.put, sA, sZ, sS, i64_w, i32_w]; rfl) ?_
 refine ty_ 3 17 (bs 13 31) rfl rfl (by kernel_rfl) (fun _ _ _ h => h) (by rfl) (by rintro w' ⟨s0, s1⟩; go_simp; with_reducible rfl) hHeld (by simp only [Act.put, sA, sZ, sS, i64_w, i32_w]; rfl) ?_
 refine ty_ 5 19 (bs 13 63) rfl rfl (by kernel_rfl) (fun _ _ _ h => h) (by rfl) (by rintro w' ⟨s0, s1⟩; go_simp; with_reducible rfl) hHeld (by simp only [Act.put, sA, sZ, sS, i64_w, i32_w]; rfl) ?_
 refine join_ (σ := Nat) 2 (bs 13 2047) (fun s => [(20, Value.tuple #[.agg #[.int .i64 (k : Nat), .int .i64 (p : Nat), .int .i64 mode], .int .i64 0]), (13, Value.tuple #[.agg #[.int .i64 (k : Nat), .int .i64 (p : Nat), .int .i64 mode], .int .i64 0]), (21, Value.agg #[.int .i64 (k : Nat), .int .i64 (p : Nat), .int .i64 mode]), (22, Value.int .i64 0), (5, Value.pointer (some ⟨s, 0, none⟩))]) (fun s w' => RIs F w' y R a ∧ OO w' w.heap.size #[.int .i64 o.kind, .string o.path, .string o.to, .int .i64 o.fd, .int .i64 o.n, .int .i64 o.off, .int .i64 o.flags, .slice A 0 cap] ∧ Below w.heap.size w w' ∧ Blk w' s 99 #[.int .i64 0, .int .i64 0, .int .i64 0] ∧ w.heap.size + 1 < s) ?_ ?_
 rotate_left
 ·intro hCont
  refine two_ (i := 6) (j := 10) (Ni := some 20) (Nj := some 5) (bs 13 127) (bs 13 1087) rfl rfl rfl rfl (by kernel_rfl) (by decide) (by decide) (fun K hK => ?_) (fun K hK => ?_)
  ·skip
   refine goes_ Tryz.func78 (by kernel_rfl) rfl #[.pointer (some ⟨R.fb, 0, none⟩), .int .i64 o.fd] (by rfl) rfl rfl (by simp only [List.map_toArray, List.map_cons, List.map_nil]; rfl) ?_
   with_reducible refine ((HGT.out _ hT)).mono ?_
   rintro e w3 ⟨rfl, hb3⟩
   refine ⟨_, rfl, ?_⟩
   have hT := hT.below hb3
   have hO := hO.below hb3
   have hB := hB.trans (hb3.mono hB.size)
   clear hb3
   refine hK.out _ _ ⟨hT.cells.2, (HC3.out _ hO)⟩ (fun hHeld => ?_)
   clear hK K
   refine norm_ (a' := ?_) ?_ ?_
   rotate_left
   ·show Act.put _ (some 20) _ = _
    simp only [Act.put, sA, sZ, sS, i64_w, i32_w]
    rfl
   refine py_ 7 13 (bs 13 255) rfl rfl (by kernel_rfl) (fun _ _ _ h => h) (by rfl) (fun w' => by go_simp; with_reducible rfl) (by simp only [Act.put, sA, sZ, sS, i64_w, i32_w]; rfl) ?_
   refine py_ 8 21 (bs 13 511) rfl rfl (by kernel_rfl) (fun _ _ _ h => h) (by rfl) (fun w' => by go_simp; with_reducible rfl) (by simp only [Act.put, sA, sZ, sS, i64_w, i32_w]; rfl) ?_
   refine py_ 9 22 (bs 13 1023) rfl rfl (by kernel_rfl) (fun _ _ _ h => h) (by rfl) (fun w' => by go_simp; with_reducible rfl) (by simp only [Act.put, sA, sZ, sS, i64_w, i32_w]; rfl) ?_
   refine one_ (i := 10) (N := some 5) (bs 13 2047) rfl rfl (by kernel_rfl) (by decide) (fun K hK => ?_)
   refine value_ (w1 := ?_) (v := ?_) (by rfl) rfl ?_ ?_
   rotate_left 2
   ·go_simp
    constructor
    ·rfl
    ·rfl
   have hX := Blk.new w3 99 #[.int .i64 0, .int .i64 0, .int .i64 0]
   have hs : w.heap.size + 1 < w3.heap.size := hO.b1.lt
   have hT := hT.below ((Below.refl _ _).alloc (Nat.le_refl _) (.cells #[.int .i64 0, .int .i64 0, .int .i64 0] 99))
   have hO := hO.alloc (.cells #[.int .i64 0, .int .i64 0, .int .i64 0] 99)
   have hB := hB.alloc hB.size (.cells #[.int .i64 0, .int .i64 0, .int .i64 0] 99)
   refine hK.out _ _ ⟨hT.cells.2, (HC3.out _ hO)⟩ (fun hHeld => ?_)
   clear hK K
   refine norm_ (a' := ?_) ?_ ?_
   rotate_left
   ·show Act.put _ (some 5) _ = _
    simp only [Act.put, sA, sZ, sS, i64_w, i32_w]
    rfl
   exact norm_ (by simp only [putAll, Act.put, sA, sZ, sS]) (hCont w3.heap.size _ ⟨hT, hO, hB, hX, hs⟩)
  ·skip
   refine value_ (w1 := ?_) (v := ?_) (by rfl) rfl ?_ ?_
   rotate_left 2
   ·go_simp
    constructor
    ·rfl
    ·rfl
   have hX := (Blk.new w1 99 #[.int .i64 0, .int .i64 0, .int .i64 0]).drew
   have hs : w.heap.size + 1 < w1.heap.size := HO.out.b1.lt
   have hT := (HT1.out.below ((Below.refl _ _).alloc (Nat.le_refl _) (.cells #[.int .i64 0, .int .i64 0, .int .i64 0] 99))).drew
   have hO := (HO.out.alloc (.cells #[.int .i64 0, .int .i64 0, .int .i64 0] 99)).drew
   have hB : Below w.heap.size w (w1.alloc (.cells #[.int .i64 0, .int .i64 0, .int .i64 0] 99)).drew := (HB.out.alloc HB.out.size (.cells #[.int .i64 0, .int .i64 0, .int .i64 0] 99)).trans drew_below'
   refine hK.out _ _ ⟨hT.cells.2, (HC3.out _ hO)⟩ (fun hHeld => ?_)
   clear hK K
   refine norm_ (a' := ?_) ?_ ?_
   rotate_left
   ·show Act.put _ (some 5) _ = _
    simp only [Act.put, sA, sZ, sS, i64_w, i32_w]
    rfl
   refine one_ (i := 6) (N := some 20) (bs 13 1151) rfl rfl (by kernel_rfl) (by decide) (fun K hK => ?_)
   refine goes_ Tryz.func78 (by kernel_rfl) rfl #[.pointer (some ⟨R.fb, 0, none⟩), .int .i64 o.fd] (by rfl) rfl rfl (by simp only [List.map_toArray, List.map_cons, List.map_nil]; rfl) ?_
   with_reducible refine ((HGT.out _ hT)).mono ?_
   rintro e w3 ⟨rfl, hb3⟩
   refine ⟨_, rfl, ?_⟩
   have hT := hT.below hb3
   have hO := hO.below hb3
   have hX := hX.below hb3 hX.lt
   have hB := hB.trans (hb3.mono hB.size)
   clear hb3
   refine hK.out _ _ ⟨hT.cells.2, (HC3.out _ hO)⟩ (fun hHeld => ?_)
   clear hK K
   refine norm_ (a' := ?_) ?_ ?_
   rotate_left
   ·show Act.put _ (some 20) _ = _
    simp only [Act.put, sA, sZ, sS, i64_w, i32_w]
    rfl
   refine py_ 7 13 (bs 13 1279) rfl rfl (by kernel_rfl) (fun _ _ _ h => h) (by rfl) (fun w' => by go_simp; with_reducible rfl) (by simp only [Act.put, sA, sZ, sS, i64_w, i32_w]; rfl) ?_
   refine py_ 8 21 (bs 13 1535) rfl rfl (by kernel_rfl) (fun _ _ _ h => h) (by rfl) (fun w' => by go_simp; with_reducible rfl) (by simp only [Act.put, sA, sZ, sS, i64_w, i32_w]; rfl) ?_
   refine py_ 9 22 (bs 13 2047) rfl rfl (by kernel_rfl) (fun _ _ _ h => h) (by rfl) (fun w' => by go_simp; with_reducible rfl) (by simp only [Act.put, sA, sZ, sS, i64_w, i32_w]; rfl) ?_
   exact norm_ (by simp only [putAll, Act.put, sA, sZ, sS]) (hCont w1.heap.size _ ⟨hT, hO, hB, hX, hs⟩)
 rintro s w3 ⟨hT, hO, hB, hX, hs⟩
 have hHeld := And.intro hT.cells.2 (HC3.out _ hO)
 refine norm_ (a' := ?_) ?_ ?_
 rotate_left
 ·simp only [putAll, Act.put, sA, sZ, sS]
  rfl
 refine one_ (i := 11) (N := none) (bs 13 4095) rfl rfl (by kernel_rfl) (by decide) (fun K hK => ?_)
 have x0 := hX.cell 0
 have x1 := hX.cell 1
 have x2 := hX.cell 2
 have q0 := hX.frozen 0
 have q1 := hX.frozen 1
 have q2 := hX.frozen 2
 simp at x0 x1 x2
 refine skip_ (w1 := ?_) (by rfl) rfl ?_ ?_
 rotate_left
 ·go_simp
  rfl
 have hTs := set99 (cs := (.int .i64 0, .int .i64 0, .int .i64 0)) hX (.int .i64 (k : Nat)) (.int .i64 (p : Nat)) (.int .i64 mode)
 have hX := hTs.1
 have hT := hT.turn hTs.2 (fun j hj e => by have := HFL0.out j hj; have e2 : j = s := e; omega)
 have hO := hO.turn2 hTs.2 (fun e => by have e2 : w.heap.size = s := e; omega) (fun e => by have e2 : w.heap.size + 1 = s := e; omega)
 have hB := set116b hB (b := s) (by omega) (.int .i64 (k : Nat)) (.int .i64 (p : Nat)) (.int .i64 mode)
 clear x0 x1 x2 q0 q1 q2 hTs
 refine hK.out _ _ ⟨hT.cells.2, (HC3.out _ hO)⟩ (fun hHeld => ?_)
 clear hK K
 refine py_ 12 6 (bs 13 8191) rfl rfl (by kernel_rfl) (fun _ _ _ h => h) (by rfl) (fun w' => by go_simp; with_reducible rfl) (by simp only [Act.put, sA, sZ, sS, i64_w, i32_w]; rfl) ?_
 refine done_ (by kernel_rfl) ?_
 have HO4 := Lib.hid hO
 have HX4 := Lib.hid hX
 have HB4 := Lib.hid hB
 have HXL := Lib.hid hs
 clear hO hX hB hT hHeld hs
 generalize ((w3.setCell ⟨s, 0, none⟩ (.int .i64 (k : Nat))).setCell ⟨s, 1, none⟩ (.int .i64 (p : Nat))).setCell ⟨s, 2, none⟩ (.int .i64 mode) = w4 at *
 have HT4 := Lib.hid (HH.out _ HB4.out)
 have ua0 := (HO4.out).b0.c8
 have ur0 := (HO4.out).b1.cf7
 have ul := (HO4.out).b1.lt
 have ux0 := HX4.out.c3
 go_wp2_with fail
 refine bodyPost_ret (v := .agg #[.int .i64 0, .int .i64 0, .slice none 0 0, .slice none 0 0, .int .i64 0, .int .i64 0, .int .i64 0]) (by simp [results, Tryz.results35, go_sem, ur0, ul]) rfl ?_
 rw [HR.out]
 exact rans_same HT.out (ans_set HB4.out (by omega) _ _ _ _ _ _ _)
theorem rfd_write_ok (o : OpT) (A : Option Addr) (cap k p : Nat) (mode : Int) (w : World) (h : RIs F w y R a) (hg : Good a c) (hc : c + 20 ≤ 100000) (hk : (a.nd k).kind = 1) (hm : 1 ≤ mode ∧ mode ≤ 3) (hp : p ≤ 48640) (hf : lookO a.op o.fd = some ((k : Int), (p : Int), mode)) (hkd : o.kind = 4) (h1 : 2 ≤ mode) (h2 : o.data.length ≤ 4096) (h3 : p + o.data.length ≤ 48640) (h4 : o.data.length ≠ 0)
  (hD : RdB w (.slice A o.data.length cap) o.data) :
  Calls Tryz.prog 35 #[.pointer (some ⟨y, 0, none⟩), o.val A o.data.length cap] w (RAnsPost F y (a.heldT o) w) := by
 unfold OpT.val
 have HT := Lib.hid h
 have HH := Lib.hid (fun W (hb : Below w.heap.size w W) => h.below hb)
 have HGT := Lib.hid (fun W (h : RIs F W y R a) => show Calls Tryz.prog 78 #[.pointer (some ⟨R.fb, 0, none⟩), .int .i64 o.fd] W (fun e w' => e = .returned (.tuple #[.agg #[.int .i64 (k : Nat), .int .i64 (p : Nat), .int .i64 mode], .int .i64 0]) ∧ Below W.heap.size W w') from by have := rtget_any o.fd W h; rw [hf] at this; exact this)
 have HF := Lib.hid hf
 have HFL : Hid (∀ j, F j → j < w.heap.size) := Lib.hid fun j e => h.lt j e
 have hlive : (a.nd k).kind ≠ 0 := by rw [hk]; decide
 have hlast := (hg.in_last hlive).2
 have hfew := hg.few
 have hdl := hg.data k
 have HKL := Lib.hid hlast
 have hgl := h.lt _ (h.fo _ (.inr (.inl rfl)))
 have HR := Lib.hid (show a.heldT o = (a.setData k (writeL (a.nd k).data p o.data)).seekT o.fd ((k : Int), (p : Int), mode) ((p : Int) + (o.data.length : Nat)) by
  rw [held_write_is hf hkd]
  unfold TS.writeT
  rw [if_neg (by
   rintro (e | e | e | e)
   ·have e2 : mode < 2 := e
    omega
   ·omega
   ·have e2 : (p : Int) > 48640 - (o.data.length : Int) := e
    omega
   ·exact h4 e)]
  rfl)
 obtain ⟨A1, c1, hdv⟩ : ∃ A1 c1, R.dv k = .slice A1 (a.nd k).data.length c1 := by
  obtain ⟨A1, c1, e, _⟩ := (h.dat k hlast).1.rd
  exact ⟨A1, c1, e⟩
 have HDV := Lib.hid hdv
 obtain ⟨ga, oa, rfl, HRB⟩ : ∃ ga oa, A = some ⟨ga, oa, none⟩ ∧ Hid (∀ W, Below w.heap.size w W → ∀ j b, o.data[j]? = some b → W.cell? ⟨ga, oa + j, none⟩ = some (.int .u8 (b.toNat : Int))) := by
  obtain ⟨A', c', e, q1, q2, q3⟩ := hD
  injection e with e1 e2 e3
  subst e1
  obtain ⟨b0, hb0⟩ : ∃ b, o.data[0]? = some b := ⟨o.data[0]'(by omega), List.getElem?_eq_getElem (by omega)⟩
  obtain ⟨ga, oa, rfl, hga, _⟩ := q3 0 b0 hb0
  refine ⟨ga, oa, rfl, Lib.hid fun W hW j b hj => ?_⟩
  obtain ⟨g2, o2, e2, hg2, hc2⟩ := q3 j b hj
  injection e2 with e2
  injection e2 with e2 e3
  subst e2 e3
  exact (World.cell?_of_block (a := ⟨ga, oa + j, none⟩) (hW.block ga hg2)).trans hc2
 obtain ⟨z, hz⟩ : ∃ z : Nat, z = max (a.nd k).data.length (p + o.data.length) := ⟨_, rfl⟩
 have hmx : max (((a.nd k).data.length : Nat) : Int) (((p : Nat) : Int) + ((o.data.length : Nat) : Int)) = ((z : Nat) : Int) := by omega
 have HSZ := Lib.hid (fun W (hb : Below w.heap.size w W) => by
  have hbs := ((h.below hb).dat k hlast).1
  rw [hdv] at hbs
  exact rcut_s _ _ z W hbs (by omega) (by omega))
 have HSL := Lib.hid (show (sizeL (a.nd k).data z).length = z from sizeL_len _ _)
 have HWE := Lib.hid (show wrK (sizeL (a.nd k).data z) p o.data o.data.length = writeL (a.nd k).data p o.data by
  rw [wrK_end, hz]
  rfl)
 have hzp : p + o.data.length ≤ z := by omega
 have hz1 : 1 ≤ z := by omega
 have HL : Hid (∀ m, m < o.data.length → ∃ b, o.data[m]? = some b) := Lib.hid fun m hm => ⟨o.data[m], List.getElem?_eq_getElem hm⟩
 have hm2 : ¬ mode < 2 := by omega
 have hx2 : ¬ (4096 : Int) < ((o.data.length : Nat) : Int) := by omega
 have hx3 : ¬ (48640 : Int) - ((o.data.length : Nat) : Int) < ((p : Nat) : Int) := by omega
 have hx4 : ¬ ((o.data.length : Nat) : Int) = 0 := by omega
 have hin : ((k : Nat) : Int) < ((a.last + 1 : Nat) : Int) := by omega
 have hk0 : (0 : Int) ≤ ((k : Nat) : Int) := by omega
 generalize hx1 : a.last + 1 = n1 at *
 have hnb : n1 ≤ 1000001 := by omega
 have HNN := Lib.hid hx1
 generalize hLL : (a.nd k).data.length = L at *
 clear h hg hk hm hf hlive hlast hfew hdl hz hdv hx1 h1 hD
 have e2 := kf 2 hkd rfl
 have e3 := kf 3 hkd rfl
 have e4 := kt 4 hkd rfl
 have e5 := kf 5 hkd rfl
 clear hkd
 generalize hdl0 : o.data.length = dl at *
 have HDN := Lib.hid hdl0
 clear hdl0
 go_enter Tryz.func35, Tryz.ntmps35
 go_upto_region 1 with (fail)
 have HO := Lib.hid (OO.start w #[.int .i64 o.kind, .string o.path, .string o.to, .int .i64 o.fd, .int .i64 o.n, .int .i64 o.off, .int .i64 o.flags, .slice (some ⟨ga, oa, none⟩) dl cap])
 have HB := Lib.hid (below_00 w (.cells #[.int .i64 o.kind, .string o.path, .string o.to, .int .i64 o.fd, .int .i64 o.n, .int .i64 o.off, .int .i64 o.flags, .slice (some ⟨ga, oa, none⟩) dl cap] 36) (.cells zero7 33))
 have HFL0 : Hid (∀ j, F j → j < w.heap.size) := Lib.hid fun j e => HT.out.lt j e
 generalize (w.alloc (.cells #[.int .i64 o.kind, .string o.path, .string o.to, .int .i64 o.fd, .int .i64 o.n, .int .i64 o.off, .int .i64 o.flags, .slice (some ⟨ga, oa, none⟩) dl cap] 36)).alloc (.cells zero7 33) = w1 at *
 have HT1 := Lib.hid (HH.out _ HB.out)
 have HC3 : Hid (∀ W, OO W w.heap.size #[.int .i64 o.kind, .string o.path, .string o.to, .int .i64 o.fd, .int .i64 o.n, .int .i64 o.off, .int .i64 o.flags, .slice (some ⟨ga, oa, none⟩) dl cap] → W.cell? ⟨w.heap.size, 3, none⟩ = some (.int .i64 o.fd)) := Lib.hid fun W hO => by have := hO.b0.cell 3; simpa using this
 have hO := HO.out.drew
 have hT := HT1.out.drew
 have hB : Below w.heap.size w w1.drew := HB.out.trans drew_below'
 refine start_ (n := 13) (S := fun w' => w'.cell? ⟨y, 1, none⟩ = some (.pointer (some ⟨R.fb, 0, none⟩)) ∧ w'.cell? ⟨w.heap.size, 3, none⟩ = some (.int .i64 o.fd)) (ds := []) (bs 13 0) (by kernel_rfl) rfl rfl ⟨hT.cells.2, (HC3.out _ hO)⟩ (fun hHeld => ?_)
 refine py_ 0 14 (bs 13 1) rfl rfl (by kernel_rfl) (fun _ _ _ h => h) (by rfl) (fun w' => by go_simp; with_reducible rfl) (by simp only [Act.put, sA, sZ, sS, i64_w, i32_w]; rfl) ?_
 refine py_ 1 15 (bs 13 3) rfl rfl (by kernel_rfl) (fun _ _ _ h => h) (by rfl) (fun w' => by go_simp; with_reducible rfl) (by simp only [Act.put, sA, sZ, sS, i64_w, i32_w]; rfl) ?_
 refine py_ 2 16 (bs 13 7) rfl rfl (by kernel_rfl) (fun _ _ _ h => h) (by rfl) (fun w' => by go_simp; with_reducible rfl) (by simp only [Act.put, sA, sZ, sS, i64_w, i32_w]; rfl) ?_
 refine py_ 4 18 (bs 13 23) rfl rfl (by kernel_rfl) (fun _ _ _ h => h) (by rfl) (fun w' => by go_simp; with_reducible rfl) (by simp only [Act.put, sA, sZ, sS, i64_w, i32_w]; rfl) ?_
 refine ty_ 3 17 (bs 13 31) rfl rfl (by kernel_rfl) (fun _ _ _ h => h) (by rfl) (by rintro w' ⟨s0, s1⟩; go_simp; with_reducible rfl) hHeld (by simp only [Act.put, sA, sZ, sS, i64_w, i32_w]; rfl) ?_
 refine ty_ 5 19 (bs 13 63) rfl rfl (by kernel_rfl) (fun _ _ _ h => h) (by rfl) (by rintro w' ⟨s0, s1⟩; go_simp; with_reducible rfl) hHeld (by simp only [Act.put, sA, sZ, sS, i64_w, i32_w]; rfl) ?_
 refine join_ (σ := Nat) 2 (bs 13 2047) (fun s => [(20, Value.tuple #[.agg #[.int .i64 (k : Nat), .int .i64 (p : Nat), .int .i64 mode], .int .i64 0]), (13, Value.tuple #[.agg #[.int .i64 (k : Nat), .int .i64 (p : Nat), .int .i64 mode], .int .i64 0]), (21, Value.agg #[.int .i64 (k : Nat), .int .i64 (p : Nat), .int .i64 mode]), (22, Value.int .i64 0), (5, Value.pointer (some ⟨s, 0, none⟩))]) (fun s w' => RIs F w' y R a ∧ OO w' w.heap.size #[.int .i64 o.kind, .string o.path, .string o.to, .int .i64 o.fd, .int .i64 o.n, .int .i64 o.off, .int .i64 o.flags, .slice (some ⟨ga, oa, none⟩) dl cap] ∧ Below w.heap.size w w' ∧ Blk w' s 99 #[.int .i64 0, .int .i64 0, .int .i64 0] ∧ w.heap.size + 1 < s) ?_ ?_
 rotate_left
 ·intro hCont
  refine two_ (i := 6) (j := 10) (Ni := some 20) (Nj := some 5) (bs 13 127) (bs 13 1087) rfl rfl rfl rfl (by kernel_rfl) (by decide) (by decide) (fun K hK => ?_) (fun K hK => ?_)
  ·skip
   refine goes_ Tryz.func78 (by kernel_rfl) rfl #[.pointer (some ⟨R.fb, 0, none⟩), .int .i64 o.fd] (by rfl) rfl rfl (by simp only [List.map_toArray, List.map_cons, List.map_nil]; rfl) ?_
   with_reducible refine ((HGT.out _ hT)).mono ?_
   rintro e w3 ⟨rfl, hb3⟩
   refine ⟨_, rfl, ?_⟩
   have hT := hT.below hb3
   have hO := hO.below hb3
   have hB := hB.trans (hb3.mono hB.size)
   clear hb3
   refine hK.out _ _ ⟨hT.cells.2, (HC3.out _ hO)⟩ (fun hHeld => ?_)
   clear hK K
   refine norm_ (a' := ?_) ?_ ?_
   rotate_left
   ·show Act.put _ (some 20) _ = _
    simp only [Act.put, sA, sZ, sS, i64_w, i32_w]
    rfl
   refine py_ 7 13 (bs 13 255) rfl rfl (by kernel_rfl) (fun _ _ _ h => h) (by rfl) (fun w' => by go_simp; with_reducible rfl) (by simp only [Act.put, sA, sZ, sS, i64_w, i32_w]; rfl) ?_
   refine py_ 8 21 (bs 13 511) rfl rfl (by kernel_rfl) (fun _ _ _ h => h) (by rfl) (fun w' => by go_simp; with_reducible rfl) (by simp only [Act.put, sA, sZ, sS, i64_w, i32_w]; rfl) ?_
   refine py_ 9 22 (bs 13 1023) rfl rfl (by kernel_rfl) (fun _ _ _ h => h) (by rfl) (fun w' => by go_simp; with_reducible rfl) (by simp only [Act.put, sA, sZ, sS, i64_w, i32_w]; rfl) ?_
   refine one_ (i := 10) (N := some 5) (bs 13 2047) rfl rfl (by kernel_rfl) (by decide) (fun K hK => ?_)
   refine value_ (w1 := ?_) (v := ?_) (by rfl) rfl ?_ ?_
   rotate_left 2
   ·go_simp
    constructor
    ·rfl
    ·rfl
   have hX := Blk.new w3 99 #[.int .i64 0, .int .i64 0, .int .i64 0]
   have hs : w.heap.size + 1 < w3.heap.size := hO.b1.lt
   have hT := hT.below ((Below.refl _ _).alloc (Nat.le_refl _) (.cells #[.int .i64 0, .int .i64 0, .int .i64 0] 99))
   have hO := hO.alloc (.cells #[.int .i64 0, .int .i64 0, .int .i64 0] 99)
   have hB := hB.alloc hB.size (.cells #[.int .i64 0, .int .i64 0, .int .i64 0] 99)
   refine hK.out _ _ ⟨hT.cells.2, (HC3.out _ hO)⟩ (fun hHeld => ?_)
   clear hK K
   refine norm_ (a' := ?_) ?_ ?_
   rotate_left
   ·show Act.put _ (some 5) _ = _
    simp only [Act.put, sA, sZ, sS, i64_w, i32_w]
    rfl
   exact norm_ (by simp only [putAll, Act.put, sA, sZ, sS]) (hCont w3.heap.size _ ⟨hT, hO, hB, hX, hs⟩)
  ·skip
   refine value_ (w1 := ?_) (v := ?_) (by rfl) rfl ?_ ?_
   rotate_left 2
   ·go_simp
    constructor
    ·rfl
    ·rfl
   have hX := (Blk.new w1 99 #[.int .i64 0, .int .i64 0, .int .i64 0]).drew
   have hs : w.heap.size + 1 < w1.heap.size := HO.out.b1.lt
   have hT := (HT1.out.below ((Below.refl _ _).alloc (Nat.le_refl _) (.cells #[.int .i64 0, .int .i64 0, .int .i64 0] 99))).drew
   have hO := (HO.out.alloc (.cells #[.int .i64 0, .int .i64 0, .int .i64 0] 99)).drew
   have hB : Below w.heap.size w (w1.alloc (.cells #[.int .i64 0, .int .i64 0, .int .i64 0] 99)).drew := (HB.out.alloc HB.out.size (.cells #[.int .i64 0, .int .i64 0, .int .i64 0] 99)).trans drew_below'
   refine hK.out _ _ ⟨hT.cells.2, (HC3.out _ hO)⟩ (fun hHeld => ?_)
   clear hK K
   refine norm_ (a' := ?_) ?_ ?_
   rotate_left
   ·show Act.put _ (some 5) _ = _
    simp only [Act.put, sA, sZ, sS, i64_w, i32_w]
    rfl
   refine one_ (i := 6) (N := some 20) (bs 13 1151) rfl rfl (by kernel_rfl) (by decide) (fun K hK => ?_)
   refine goes_ Tryz.func78 (by kernel_rfl) rfl #[.pointer (some ⟨R.fb, 0, none⟩), .int .i64 o.fd] (by rfl) rfl rfl (by simp only [List.map_toArray, List.map_cons, List.map_nil]; rfl) ?_
   with_reducible refine ((HGT.out _ hT)).mono ?_
   rintro e w3 ⟨rfl, hb3⟩
   refine ⟨_, rfl, ?_⟩
   have hT := hT.below hb3
   have hO := hO.below hb3
   have hX := hX.below hb3 hX.lt
   have hB := hB.trans (hb3.mono hB.size)
   clear hb3
   refine hK.out _ _ ⟨hT.cells.2, (HC3.out _ hO)⟩ (fun hHeld => ?_)
   clear hK K
   refine norm_ (a' := ?_) ?_ ?_
   rotate_left
   ·show Act.put _ (some 20) _ = _
    simp only [Act.put, sA, sZ, sS, i64_w, i32_w]
    rfl
   refine py_ 7 13 (bs 13 1279) rfl rfl (by kernel_rfl) (fun _ _ _ h => h) (by rfl) (fun w' => by go_simp; with_reducible rfl) (by simp only [Act.put, sA, sZ, sS, i64_w, i32_w]; rfl) ?_
   refine py_ 8 21 (bs 13 1535) rfl rfl (by kernel_rfl) (fun _ _ _ h => h) (by rfl) (fun w' => by go_simp; with_reducible rfl) (by simp only [Act.put, sA, sZ, sS, i64_w, i32_w]; rfl) ?_
   refine py_ 9 22 (bs 13 2047) rfl rfl (by kernel_rfl) (fun _ _ _ h => h) (by rfl) (fun w' => by go_simp; with_reducible rfl) (by simp only [Act.put, sA, sZ, sS, i64_w, i32_w]; rfl) ?_
   exact norm_ (by simp only [putAll, Act.put, sA, sZ, sS]) (hCont w1.heap.size _ ⟨hT, hO, hB, hX, hs⟩)
 rintro s w3 ⟨hT, hO, hB, hX, hs⟩
 have hHeld := And.intro hT.cells.2 (HC3.out _ hO)
 refine norm_ (a' := ?_) ?_ ?_
 rotate_left
 ·simp only [putAll, Act.put, sA, sZ, sS]
  rfl
 refine one_ (i := 11) (N := none) (bs 13 4095) rfl rfl (by kernel_rfl) (by decide) (fun K hK => ?_)
 have x0 := hX.cell 0
 have x1 := hX.cell 1
 have x2 := hX.cell 2
 have q0 := hX.frozen 0
 have q1 := hX.frozen 1
 have q2 := hX.frozen 2
 simp at x0 x1 x2
 refine skip_ (w1 := ?_) (by rfl) rfl ?_ ?_
 rotate_left
 ·go_simp
  rfl
 have hTs := set99 (cs := (.int .i64 0, .int .i64 0, .int .i64 0)) hX (.int .i64 (k : Nat)) (.int .i64 (p : Nat)) (.int .i64 mode)
 have hX := hTs.1
 have hT := hT.turn hTs.2 (fun j hj e => by have := HFL0.out j hj; have e2 : j = s := e; omega)
 have hO := hO.turn2 hTs.2 (fun e => by have e2 : w.heap.size = s := e; omega) (fun e => by have e2 : w.heap.size + 1 = s := e; omega)
 have hB := set116b hB (b := s) (by omega) (.int .i64 (k : Nat)) (.int .i64 (p : Nat)) (.int .i64 mode)
 clear x0 x1 x2 q0 q1 q2 hTs
 refine hK.out _ _ ⟨hT.cells.2, (HC3.out _ hO)⟩ (fun hHeld => ?_)
 clear hK K
 refine py_ 12 6 (bs 13 8191) rfl rfl (by kernel_rfl) (fun _ _ _ h => h) (by rfl) (fun w' => by go_simp; with_reducible rfl) (by simp only [Act.put, sA, sZ, sS, i64_w, i32_w]; rfl) ?_
 refine done_ (by kernel_rfl) ?_
 have HO4 := Lib.hid hO
 have HX4 := Lib.hid hX
 have HB4 := Lib.hid hB
 have HXL := Lib.hid hs
 clear hO hX hB hT hHeld hs
 generalize ((w3.setCell ⟨s, 0, none⟩ (.int .i64 (k : Nat))).setCell ⟨s, 1, none⟩ (.int .i64 (p : Nat))).setCell ⟨s, 2, none⟩ (.int .i64 mode) = w4 at *
 have HT4 := Lib.hid (HH.out _ HB4.out)
 have ua0 := (HO4.out).b0.c8
 have ur0 := (HO4.out).b1.cf7
 have ul := (HO4.out).b1.lt
 have ux0 := HX4.out.c3
 go_upto_region 27 with (fail)
 clear ua0 ur0 ul ux0
 have HOE := Lib.hid HO4.out.drew
 have HTE := Lib.hid HT4.out.drew
 have HXE := Lib.hid HX4.out.drew
 have d0 := HTE.out.cells.1
 rw [HNN.out] at d0
 have cx0 := HXE.out.cell 0
 simp at cx0
 have n2 := (HTE.out.cel k HKL.out).2.2.1
 rw [HDV.out] at n2
 go_region
 clear d0 cx0 n2
 have HBE := Lib.hid (show Below w.heap.size w w4.drew from HB4.out.trans drew_below')
 have HXL5 := Lib.hid (show s < w4.drew.heap.size from HXE.out.lt)
 generalize w4.drew = w5 at *
 have cx1 := HXE.out.cell 1
 have ca7 := HOE.out.b0.cell 7
 simp at cx1 ca7
 go_wp2_with fail
 refine (HSZ.out _ HBE.out).mono ?_
 rintro e w6 ⟨A5, c5, rfl, hby, hown, hb6⟩
 clear cx1 ca7
 obtain ⟨g5, rfl⟩ : ∃ g5, A5 = some ⟨g5, 0, none⟩ := by
  rcases hby.shape with ⟨e, e2⟩ | ⟨g5, _, _, e, _⟩
  ·injection e with e3 e4 e5
   omega
  ·injection e with e3
   exact ⟨g5, e3⟩
 have HOW := Lib.hid (show w5.heap.size ≤ g5 from hown g5 rfl)
 have HBY := Lib.hid hby
 have HB6 := Lib.hid hb6
 clear hby hown hb6
 go_wp2_with fail
 go_loopw [12] (fun i wr => ∃ m : Nat, m ≤ dl ∧ i = .int .i64 (m : Nat) ∧ Byt wr (.slice (some ⟨g5, 0, none⟩) z c5) (wrK (sizeL (a.nd k).data z) p o.data m) ∧ Below w5.heap.size w5 wr) (fun i _ => dl - (intOf i).toNat)
 case atStart => exact ⟨0, Nat.zero_le _, rfl, by rw [wrK_start]; exact HBY.out, HB6.out⟩
 case round =>
  obtain ⟨m, hm, rfl, hby, hbel⟩ := hrel
  have HBY7 := Lib.hid hby
  have HB7 := Lib.hid hbel
  clear hby hbel
  have HO7 := Lib.hid (HOE.out.below HB7.out)
  have HX7 := Lib.hid (HXE.out.turn (S := fun _ => False) (Turn.of_below HB7.out) (fun x => x))
  have ca7 := HO7.out.b0.cell 7
  simp at ca7
  by_cases hlt : m < dl
  ·obtain ⟨b, hb⟩ := HL.out m (by omega)
   have hki : ((m : Nat) : Int) < ((dl : Nat) : Int) := by omega
   go_upto_region 32 with (fail)
   clear ca7
   have HO8 := Lib.hid HO7.out.drew
   have HX8 := Lib.hid HX7.out.drew
   have HBY8 := Lib.hid (HBY7.out.below drew_below)
   have HB8 := Lib.hid (HB7.out.trans (drew_below' (w := wr)))
   have hlen := wrK_len (S := sizeL (a.nd k).data z) (p := p) (d := o.data) (m := m) (by rw [HDN.out]; omega) (by rw [HSL.out]; omega)
   rw [HSL.out] at hlen
   have ca7 := HO8.out.b0.cell 7
   have cx1 := HX8.out.cell 1
   simp at ca7 cx1
   have cd := HRB.out _ (HBE.out.trans (HB8.out.mono HBE.out.size)) m b hb
   obtain ⟨v0, ct⟩ := HBY8.out.at_ (j := p + m) hlen (by omega)
   have cf := HBY8.out.free (p + m)
   have hpm : ((p : Nat) : Int) + ((m : Nat) : Int) < ((z : Nat) : Int) := by omega
   have HN := Lib.hid ((HBY8.out.set_ (j := p + m) hlen (by omega) b))
   rw [wrK_step hb (by rw [HSL.out]; omega)] at HN
   have HBN := Lib.hid (below_set HB8.out (p := ⟨g5, p + m, none⟩) HOW.out (.int .u8 (b.toNat : Int)))
   clear hlen
   go_region
   clear ca7 cx1 cd ct cf
   go_wp2
   go_roundw
   case rel => exact ⟨m + 1, by omega, by go_num, HN.out, HBN.out⟩
   case measure => simp [intOf]; omega
  ·have hmd : dl = m := by omega
   subst hmd
   have hki : ¬ ((dl : Nat) : Int) < ((dl : Nat) : Int) := by omega
   have HW := Lib.hid HBY7.out
   have hwe := HWE.out
   rw [hwe] at HW
   go_upto_region 33 with (fail)
   clear ca7 hwe
   have HO8 := Lib.hid HO7.out.drew
   have HX8 := Lib.hid HX7.out.drew
   have HT8 := Lib.hid (HTE.out.below HB7.out).drew
   have HB8 := Lib.hid (HB7.out.trans (drew_below' (w := wr)))
   have HBY8 := Lib.hid (HW.out.below drew_below)
   have d0 := HT8.out.cells.1
   rw [HNN.out] at d0
   have cx0 := HX8.out.cell 0
   simp at cx0
   have ck := (HT8.out.cel k HKL.out).2.2.1
   rw [HDV.out] at ck
   have cf := HT8.out.frozen (k * 4 + 2)
   have HRD := Lib.hid (HTE.out.redata HB8.out HKL.out HBY8.out (fun j hj => by cases hj; exact HOW.out))
   have HTS := Lib.hid ((Turn.refl (· = R.g) wr.drew).setCell (p := ⟨R.g, k * 4 + 2, none⟩) (fun _ => rfl) (.slice (some ⟨g5, 0, none⟩) z c5))
   go_region
   clear d0 cx0 ck cf
   try rw [show (wr.setCell ⟨R.g, k * 4 + 2, none⟩ (.slice (some ⟨g5, 0, none⟩) z c5)).drew = wr.drew.setCell ⟨R.g, k * 4 + 2, none⟩ (.slice (some ⟨g5, 0, none⟩) z c5) from rfl]
   have HL5 := Lib.hid HOE.out.b1.lt
   have HO9 := Lib.hid (HO8.out.turn2 HTS.out (fun e => by have e2 : w.heap.size = R.g := e; omega) (fun e => by have e2 : w.heap.size + 1 = R.g := e; omega))
   have HX9 := Lib.hid (HX8.out.turn HTS.out (fun e => by have e2 : s = R.g := e; have := HXL.out; omega))
   clear HTS
   generalize wr.drew.setCell ⟨R.g, k * 4 + 2, none⟩ (.slice (some ⟨g5, 0, none⟩) z c5) = w9 at *
   obtain ⟨⟨R9, h9⟩, hT9⟩ := HRD.out
   have HR9 := Lib.hid h9
   have HTW9 := Lib.hid hT9
   have HS9 := Lib.hid hT9.size
   clear h9 hT9 HRD
   have HFN : Hid (∀ j, grow F w5 w9 j → F j ∨ w5.heap.size ≤ j) := Lib.hid fun j hj => hj.elim .inl fun e => .inr e.1
   go_upto_region 34 with (fail)
   have HO10 := Lib.hid HO9.out.drew
   have HT10 := Lib.hid HR9.out.drew
   have HX10 := Lib.hid HX9.out.drew
   have vt2 := HT10.out.cells.2
   have va3 := HO10.out.b0.cell 3
   have va7 := HO10.out.b0.cell 7
   have vx1 := HX10.out.cell 1
   simp at va3 va7 vx1
   have hS0 := And.intro vt2 (And.intro va3 (And.intro va7 vx1))
   have HV := Lib.hid vt2
   clear vt2 va3 va7 vx1
   have hwr1 : IntKind.i64.wrap (((p : Nat) : Int) + ((dl : Nat) : Int)) = ((p : Nat) : Int) + ((dl : Nat) : Int) := IntWalk.i64_in _ (by omega)
   go_region_held3 (fun W => W.cell? ⟨y, 1, none⟩ = some (.pointer (some ⟨R9.fb, 0, none⟩)) ∧ W.cell? ⟨w.heap.size, 3, none⟩ = some (.int .i64 o.fd) ∧ W.cell? ⟨w.heap.size, 7, none⟩ = some (.slice (some ⟨ga, oa, none⟩) dl cap) ∧ W.cell? ⟨s, 1, none⟩ = some (.int .i64 (p : Nat)))
    (first | exact hS0 | exact hS1)
    (first
     | (go_at_call 81
        refine (rtseek_any o.fd ((k : Int), (p : Int), mode) _ _ HT10.out HF.out (by omega)).mono ?_
        rintro e w11 ⟨rfl, R', hT11, hTu11, hbt⟩
        have hno : ∀ j, w.heap.size ≤ j → j < w5.heap.size → ¬ grow F w5 w9 j := fun j h1 h2 e => by
         rcases HFN.out j e with e | e
         ·have := HFL.out _ e
          omega
         ·omega
        have HO11 := Lib.hid (HO10.out.turn2 hTu11 (hno _ (Nat.le_refl _) (by have := HL5.out; omega)) (hno _ (by omega) HL5.out))
        have HX11 := Lib.hid (HX10.out.turn hTu11 (hno _ (by have := HXL.out; omega) HXL5.out))
        have va3 := HO11.out.b0.cell 3
        have va7 := HO11.out.b0.cell 7
        have vx1 := HX11.out.cell 1
        simp at va3 va7 vx1
        have hS1 := And.intro ((World.cell?_of_block (a := ⟨y, 1, none⟩) hbt).trans HV.out) (And.intro va3 (And.intro va7 vx1))
        have HT11 := Lib.hid hT11
        have HTu11 := Lib.hid hTu11
        clear hT11 hTu11 hbt va3 va7 vx1 hno))
   clear hS0 hS1
   obtain ⟨va0, va1, va2, va3, va4, va5, va6, va7⟩ := (HO11.out).b0.c8
   have vr0 := (HO11.out).b1.cf7
   have vl := (HO11.out).b1.lt
   go_wp2_with fail
   refine bodyPost_ret (v := .agg #[.int .i64 0, .int .i64 (dl : Nat), .slice none 0 0, .slice none 0 0, .int .i64 0, .int .i64 0, .int .i64 0]) (by simp [results, Tryz.results35, go_sem, vr0, vl]) rfl ?_
   rw [HR.out]
   have hW5 : Turn F w5 w11 := HTW9.out.grow2' (show Turn (grow F w5 w9) w9 w11 from (Turn.of_below (S := grow F w5 w9) drew_below).trans (S' := grow F w5 w9) HTu11.out fun _ _ e => e)
   have hW : Turn F w w11 := (Turn.of_below (S := F) HBE.out).trans (S' := F) hW5 fun _ _ e => e
   have hs5 := HBE.out.size
   exact rans_fin (F' := grow F w5 w9) (wX := w9.drew) HT.out ⟨_, HT11.out.grown w9.drew HT10.out.w0⟩ hW (Nat.le_trans hs5 HS9.out) (fun j e => by
    rcases HFN.out j e with e | e
    ·exact .inl e
    ·exact .inr (by omega)) (by omega) (by have := HL5.out; have := HS9.out; exact Nat.lt_of_lt_of_le HL5.out HS9.out) (fun e => by
    have := HL5.out
    rcases HFN.out _ e with e | e
    ·have := HFL.out _ e
     omega
    ·omega)
end
end Go.Proofs.YtpkhglfhpggceaaGreatDoor
namespace Go.Proofs.YtpkhglfhpggceaaGreatDoor
set_option maxRecDepth 100000
set_option maxHeartbeats 16000000
open Go.RowKit
set_option linter.unusedVariables false
set_option linter.unusedSimpArgs false
section
variable {F : Nat → Prop} {w w' : World} {y c : Nat} {R : RMem} {a : TS}
theorem rfd_any (o : OpT) (A : Option Addr) (cap : Nat) (w : World) (h : RIs F w y R a) (hg : Good a c) (hc : c + 20 ≤ 100000)
  (hD : RdB w (.slice A o.data.length cap) o.data) :
  Calls Tryz.prog 35 #[.pointer (some ⟨y, 0, none⟩), o.val A o.data.length cap] w (RAnsPost F y (a.heldT o) w) := by
 cases hf : lookO a.op o.fd with
 | none => exact rfd_none o A cap w h hf
 | some f =>
  obtain ⟨i, hfd, hi, hop⟩ := lookO_some hf
  obtain ⟨k, e1, hk, hp0, hp1, hm0, hm1⟩ := hg.ops i hi f hop
  obtain ⟨p, hp⟩ : ∃ p : Nat, f.2.1 = p := ⟨f.2.1.toNat, by omega⟩
  have hf' : f = ((k : Int), (p : Int), f.2.2) := by rw [← e1, ← hp]
  generalize f.2.2 = mode at *
  subst hf'
  have hp48 : p ≤ 48640 := by omega
  have hm : 1 ≤ mode ∧ mode ≤ 3 := ⟨hm0, hm1⟩
  by_cases k3 : o.kind = 3
  ·exact rfd_read o A cap k p mode w h hg hc hk hm hp48 hf k3
  by_cases k4 : o.kind = 4
  ·by_cases h1 : mode < 2
   ·exact rfd_write_bad o A cap k p mode w h hg hc hk hm hp48 hf k4 (.inl h1)
   by_cases h2 : 4096 < o.data.length
   ·exact rfd_write_bad o A cap k p mode w h hg hc hk hm hp48 hf k4 (.inr (.inl ⟨by omega, h2⟩))
   by_cases h3 : 48640 < p + o.data.length
   ·exact rfd_write_bad o A cap k p mode w h hg hc hk hm hp48 hf k4 (.inr (.inr ⟨by omega, by omega, h3⟩))
   by_cases h4 : o.data.length = 0
   ·exact rfd_write_none o A cap k p mode w h hg hc hk hm hp48 hf k4 (by omega) h4
   exact rfd_write_ok o A cap k p mode w h hg hc hk hm hp48 hf k4 (by omega) (by omega) (by omega) h4 hD
  exact rfd_rest o A cap k p mode w h hg hc hk hm hp48 hf k3 k4
theorem rdo1 (o : OpT) (A : Option Addr) (cap : Nat) (w : World) (h : RIs F w y R a) (hg : Good a c) (hc : c + 20 ≤ 100000) (hp : o.path.size ≤ 1000) (hp2 : o.to.size ≤ 1000)
  (hD : RdB w (.slice A o.data.length cap) o.data) (hkd : o.kind = 1) :
  Calls Tryz.prog 9 #[.pointer (some ⟨y, 0, none⟩), o.val A o.data.length cap] w (RAnsPost F y (a.doT o) w) := by
 unfold OpT.val
 have e1 := kt 1 hkd rfl
 have HT := Lib.hid h
 have HH := Lib.hid (fun W (hb : Below w.heap.size w W) => h.below hb)
 have HFL : Hid (∀ j, F j → j < w.heap.size) := Lib.hid fun j e => h.lt j e
 have HDW := Lib.hid (fun W (hb : Below w.heap.size w W) => hD.below hb)
 have HCL := Lib.hid (fun W (h : RIs F W y R a) => show Calls Tryz.prog 34 #[.pointer (some ⟨y, 0, none⟩), .agg (oc o A o.data.length cap)] W (RAnsPost F y (a.openT o) W) from ropenT_any o A o.data.length cap W h hg hc hp)
 have HR := Lib.hid (show a.doT o = a.openT o by unfold TS.doT; simp [hkd])
 clear h hg hD hkd
 go_enter Tryz.func9, Tryz.ntmps9
 go_upto_region 1 with (fail)
 obtain ⟨w1, hwe, HO1, HB1⟩ := asked w (oc o A o.data.length cap)
 rw [← hwe]
 clear hwe
 have ua0 := (HO1.out).b0.c8
 have ur0 := (HO1.out).b1.cf7
 have ul := (HO1.out).b1.lt
 go_wp2_with fail
 refine (HCL.out _ (HH.out _ HB1.out)).mono ?_
 rintro e w9 ⟨er, en, B1, n1, c1, B2, n2, c2, ek, es, el, rfl, hs9, hTu9⟩
 clear ua0 ur0 ul
 have HO9 := Lib.hid (HO1.out.turn2 hTu9 (fun e => by have := HFL.out _ e; omega) (fun e => by have := HFL.out _ e; omega))
 have HS9 := Lib.hid hs9
 have HTu9 := Lib.hid hTu9
 clear hs9 hTu9
 have vr0 := (HO9.out).b1.cf7
 have vl := (HO9.out).b1.lt
 unfold ansV
 go_wp2_with fail
 refine bodyPost_ret (v := .agg #[.int .i64 er, .int .i64 en, .slice B1 n1 c1, .slice B2 n2 c2, .int .i64 ek, .int .i64 es, .int .i64 el]) (by simp [results, Tryz.results9, go_sem, vr0, vl]) rfl ?_
 rw [HR.out]
 exact rans_fin (F' := F) (wX := w1) HT.out HS9.out ((Turn.of_below (S := F) HB1.out).trans (S' := F) HTu9.out fun _ _ e => e) HB1.out.size (fun j e => .inl e) (by omega) HO1.out.b1.lt (fun e => by have := HFL.out _ e; omega)
theorem rdo2 (o : OpT) (A : Option Addr) (cap : Nat) (w : World) (h : RIs F w y R a) (hg : Good a c) (hc : c + 20 ≤ 100000) (hp : o.path.size ≤ 1000) (hp2 : o.to.size ≤ 1000)
  (hD : RdB w (.slice A o.data.length cap) o.data) (hkd : o.kind = 2) :
  Calls Tryz.prog 9 #[.pointer (some ⟨y, 0, none⟩), o.val A o.data.length cap] w (RAnsPost F y (a.doT o) w) := by
 unfold OpT.val
 have e1 := kf 1 hkd rfl
 have e2 := kt 2 hkd rfl
 have HT := Lib.hid h
 have HH := Lib.hid (fun W (hb : Below w.heap.size w W) => h.below hb)
 have HFL : Hid (∀ j, F j → j < w.heap.size) := Lib.hid fun j e => h.lt j e
 have HDW := Lib.hid (fun W (hb : Below w.heap.size w W) => hD.below hb)
 have HCL := Lib.hid (fun W (h : RIs F W y R a) (hD : RdB W (.slice A o.data.length cap) o.data) => show Calls Tryz.prog 35 #[.pointer (some ⟨y, 0, none⟩), .agg (oc o A o.data.length cap)] W (RAnsPost F y (a.heldT o) W) from rfd_any o A cap W h hg hc hD)
 have HR := Lib.hid (show a.doT o = a.heldT o by unfold TS.doT; simp [hkd])
 clear h hg hD hkd
 go_enter Tryz.func9, Tryz.ntmps9
 go_upto_region 1 with (fail)
 obtain ⟨w1, hwe, HO1, HB1⟩ := asked w (oc o A o.data.length cap)
 rw [← hwe]
 clear hwe
 have ua0 := (HO1.out).b0.c8
 have ur0 := (HO1.out).b1.cf7
 have ul := (HO1.out).b1.lt
 go_wp2_with fail
 refine (HCL.out _ (HH.out _ HB1.out) (HDW.out _ HB1.out)).mono ?_
 rintro e w9 ⟨er, en, B1, n1, c1, B2, n2, c2, ek, es, el, rfl, hs9, hTu9⟩
 clear ua0 ur0 ul
 have HO9 := Lib.hid (HO1.out.turn2 hTu9 (fun e => by have := HFL.out _ e; omega) (fun e => by have := HFL.out _ e; omega))
 have HS9 := Lib.hid hs9
 have HTu9 := Lib.hid hTu9
 clear hs9 hTu9
 have vr0 := (HO9.out).b1.cf7
 have vl := (HO9.out).b1.lt
 unfold ansV
 go_wp2_with fail
 refine bodyPost_ret (v := .agg #[.int .i64 er, .int .i64 en, .slice B1 n1 c1, .slice B2 n2 c2, .int .i64 ek, .int .i64 es, .int .i64 el]) (by simp [results, Tryz.results9, go_sem, vr0, vl]) rfl ?_
 rw [HR.out]
 exact rans_fin (F' := F) (wX := w1) HT.out HS9.out ((Turn.of_below (S := F) HB1.out).trans (S' := F) HTu9.out fun _ _ e => e) HB1.out.size (fun j e => .inl e) (by omega) HO1.out.b1.lt (fun e => by have := HFL.out _ e; omega)
theorem rdo3 (o : OpT) (A : Option Addr) (cap : Nat) (w : World) (h : RIs F w y R a) (hg : Good a c) (hc : c + 20 ≤ 100000) (hp : o.path.size ≤ 1000) (hp2 : o.to.size ≤ 1000)
  (hD : RdB w (.slice A o.data.length cap) o.data) (hkd : o.kind = 3) :
  Calls Tryz.prog 9 #[.pointer (some ⟨y, 0, none⟩), o.val A o.data.length cap] w (RAnsPost F y (a.doT o) w) := by
 unfold OpT.val
 have e1 := kf 1 hkd rfl
 have e2 := kf 2 hkd rfl
 have e3 := kt 3 hkd rfl
 have HT := Lib.hid h
 have HH := Lib.hid (fun W (hb : Below w.heap.size w W) => h.below hb)
 have HFL : Hid (∀ j, F j → j < w.heap.size) := Lib.hid fun j e => h.lt j e
 have HDW := Lib.hid (fun W (hb : Below w.heap.size w W) => hD.below hb)
 have HCL := Lib.hid (fun W (h : RIs F W y R a) (hD : RdB W (.slice A o.data.length cap) o.data) => show Calls Tryz.prog 35 #[.pointer (some ⟨y, 0, none⟩), .agg (oc o A o.data.length cap)] W (RAnsPost F y (a.heldT o) W) from rfd_any o A cap W h hg hc hD)
 have HR := Lib.hid (show a.doT o = a.heldT o by unfold TS.doT; simp [hkd])
 clear h hg hD hkd
 go_enter Tryz.func9, Tryz.ntmps9
 go_upto_region 1 with (fail)
 obtain ⟨w1, hwe, HO1, HB1⟩ := asked w (oc o A o.data.length cap)
 rw [← hwe]
 clear hwe
 have ua0 := (HO1.out).b0.c8
 have ur0 := (HO1.out).b1.cf7
 have ul := (HO1.out).b1.lt
 go_wp2_with fail
 refine (HCL.out _ (HH.out _ HB1.out) (HDW.out _ HB1.out)).mono ?_
 rintro e w9 ⟨er, en, B1, n1, c1, B2, n2, c2, ek, es, el, rfl, hs9, hTu9⟩
 clear ua0 ur0 ul
 have HO9 := Lib.hid (HO1.out.turn2 hTu9 (fun e => by have := HFL.out _ e; omega) (fun e => by have := HFL.out _ e; omega))
 have HS9 := Lib.hid hs9
 have HTu9 := Lib.hid hTu9
 clear hs9 hTu9
 have vr0 := (HO9.out).b1.cf7
 have vl := (HO9.out).b1.lt
 unfold ansV
 go_wp2_with fail
 refine bodyPost_ret (v := .agg #[.int .i64 er, .int .i64 en, .slice B1 n1 c1, .slice B2 n2 c2, .int .i64 ek, .int .i64 es, .int .i64 el]) (by simp [results, Tryz.results9, go_sem, vr0, vl]) rfl ?_
 rw [HR.out]
 exact rans_fin (F' := F) (wX := w1) HT.out HS9.out ((Turn.of_below (S := F) HB1.out).trans (S' := F) HTu9.out fun _ _ e => e) HB1.out.size (fun j e => .inl e) (by omega) HO1.out.b1.lt (fun e => by have := HFL.out _ e; omega)
theorem rdo4 (o : OpT) (A : Option Addr) (cap : Nat) (w : World) (h : RIs F w y R a) (hg : Good a c) (hc : c + 20 ≤ 100000) (hp : o.path.size ≤ 1000) (hp2 : o.to.size ≤ 1000)
  (hD : RdB w (.slice A o.data.length cap) o.data) (hkd : o.kind = 4) :
  Calls Tryz.prog 9 #[.pointer (some ⟨y, 0, none⟩), o.val A o.data.length cap] w (RAnsPost F y (a.doT o) w) := by
 unfold OpT.val
 have e1 := kf 1 hkd rfl
 have e2 := kf 2 hkd rfl
 have e3 := kf 3 hkd rfl
 have e4 := kt 4 hkd rfl
 have HT := Lib.hid h
 have HH := Lib.hid (fun W (hb : Below w.heap.size w W) => h.below hb)
 have HFL : Hid (∀ j, F j → j < w.heap.size) := Lib.hid fun j e => h.lt j e
 have HDW := Lib.hid (fun W (hb : Below w.heap.size w W) => hD.below hb)
 have HCL := Lib.hid (fun W (h : RIs F W y R a) (hD : RdB W (.slice A o.data.length cap) o.data) => show Calls Tryz.prog 35 #[.pointer (some ⟨y, 0, none⟩), .agg (oc o A o.data.length cap)] W (RAnsPost F y (a.heldT o) W) from rfd_any o A cap W h hg hc hD)
 have HR := Lib.hid (show a.doT o = a.heldT o by unfold TS.doT; simp [hkd])
 clear h hg hD hkd
 go_enter Tryz.func9, Tryz.ntmps9
 go_upto_region 1 with (fail)
 obtain ⟨w1, hwe, HO1, HB1⟩ := asked w (oc o A o.data.length cap)
 rw [← hwe]
 clear hwe
 have ua0 := (HO1.out).b0.c8
 have ur0 := (HO1.out).b1.cf7
 have ul := (HO1.out).b1.lt
 go_wp2_with fail
 refine (HCL.out _ (HH.out _ HB1.out) (HDW.out _ HB1.out)).mono ?_
 rintro e w9 ⟨er, en, B1, n1, c1, B2, n2, c2, ek, es, el, rfl, hs9, hTu9⟩
 clear ua0 ur0 ul
 have HO9 := Lib.hid (HO1.out.turn2 hTu9 (fun e => by have := HFL.out _ e; omega) (fun e => by have := HFL.out _ e; omega))
 have HS9 := Lib.hid hs9
 have HTu9 := Lib.hid hTu9
 clear hs9 hTu9
 have vr0 := (HO9.out).b1.cf7
 have vl := (HO9.out).b1.lt
 unfold ansV
 go_wp2_with fail
 refine bodyPost_ret (v := .agg #[.int .i64 er, .int .i64 en, .slice B1 n1 c1, .slice B2 n2 c2, .int .i64 ek, .int .i64 es, .int .i64 el]) (by simp [results, Tryz.results9, go_sem, vr0, vl]) rfl ?_
 rw [HR.out]
 exact rans_fin (F' := F) (wX := w1) HT.out HS9.out ((Turn.of_below (S := F) HB1.out).trans (S' := F) HTu9.out fun _ _ e => e) HB1.out.size (fun j e => .inl e) (by omega) HO1.out.b1.lt (fun e => by have := HFL.out _ e; omega)
theorem rdo5 (o : OpT) (A : Option Addr) (cap : Nat) (w : World) (h : RIs F w y R a) (hg : Good a c) (hc : c + 20 ≤ 100000) (hp : o.path.size ≤ 1000) (hp2 : o.to.size ≤ 1000)
  (hD : RdB w (.slice A o.data.length cap) o.data) (hkd : o.kind = 5) :
  Calls Tryz.prog 9 #[.pointer (some ⟨y, 0, none⟩), o.val A o.data.length cap] w (RAnsPost F y (a.doT o) w) := by
 unfold OpT.val
 have e1 := kf 1 hkd rfl
 have e2 := kf 2 hkd rfl
 have e3 := kf 3 hkd rfl
 have e4 := kf 4 hkd rfl
 have e5 := kt 5 hkd rfl
 have HT := Lib.hid h
 have HH := Lib.hid (fun W (hb : Below w.heap.size w W) => h.below hb)
 have HFL : Hid (∀ j, F j → j < w.heap.size) := Lib.hid fun j e => h.lt j e
 have HDW := Lib.hid (fun W (hb : Below w.heap.size w W) => hD.below hb)
 have HCL := Lib.hid (fun W (h : RIs F W y R a) (hD : RdB W (.slice A o.data.length cap) o.data) => show Calls Tryz.prog 35 #[.pointer (some ⟨y, 0, none⟩), .agg (oc o A o.data.length cap)] W (RAnsPost F y (a.heldT o) W) from rfd_any o A cap W h hg hc hD)
 have HR := Lib.hid (show a.doT o = a.heldT o by unfold TS.doT; simp [hkd])
 clear h hg hD hkd
 go_enter Tryz.func9, Tryz.ntmps9
 go_upto_region 1 with (fail)
 obtain ⟨w1, hwe, HO1, HB1⟩ := asked w (oc o A o.data.length cap)
 rw [← hwe]
 clear hwe
 have ua0 := (HO1.out).b0.c8
 have ur0 := (HO1.out).b1.cf7
 have ul := (HO1.out).b1.lt
 go_wp2_with fail
 refine (HCL.out _ (HH.out _ HB1.out) (HDW.out _ HB1.out)).mono ?_
 rintro e w9 ⟨er, en, B1, n1, c1, B2, n2, c2, ek, es, el, rfl, hs9, hTu9⟩
 clear ua0 ur0 ul
 have HO9 := Lib.hid (HO1.out.turn2 hTu9 (fun e => by have := HFL.out _ e; omega) (fun e => by have := HFL.out _ e; omega))
 have HS9 := Lib.hid hs9
 have HTu9 := Lib.hid hTu9
 clear hs9 hTu9
 have vr0 := (HO9.out).b1.cf7
 have vl := (HO9.out).b1.lt
 unfold ansV
 go_wp2_with fail
 refine bodyPost_ret (v := .agg #[.int .i64 er, .int .i64 en, .slice B1 n1 c1, .slice B2 n2 c2, .int .i64 ek, .int .i64 es, .int .i64 el]) (by simp [results, Tryz.results9, go_sem, vr0, vl]) rfl ?_
 rw [HR.out]
 exact rans_fin (F' := F) (wX := w1) HT.out HS9.out ((Turn.of_below (S := F) HB1.out).trans (S' := F) HTu9.out fun _ _ e => e) HB1.out.size (fun j e => .inl e) (by omega) HO1.out.b1.lt (fun e => by have := HFL.out _ e; omega)
theorem rdo14 (o : OpT) (A : Option Addr) (cap : Nat) (w : World) (h : RIs F w y R a) (hg : Good a c) (hc : c + 20 ≤ 100000) (hp : o.path.size ≤ 1000) (hp2 : o.to.size ≤ 1000)
  (hD : RdB w (.slice A o.data.length cap) o.data) (hkd : o.kind = 14) :
  Calls Tryz.prog 9 #[.pointer (some ⟨y, 0, none⟩), o.val A o.data.length cap] w (RAnsPost F y (a.doT o) w) := by
 unfold OpT.val
 have e1 := kf 1 hkd rfl
 have e2 := kf 2 hkd rfl
 have e3 := kf 3 hkd rfl
 have e4 := kf 4 hkd rfl
 have e5 := kf 5 hkd rfl
 have e14 := kt 14 hkd rfl
 have HT := Lib.hid h
 have HH := Lib.hid (fun W (hb : Below w.heap.size w W) => h.below hb)
 have HFL : Hid (∀ j, F j → j < w.heap.size) := Lib.hid fun j e => h.lt j e
 have HDW := Lib.hid (fun W (hb : Below w.heap.size w W) => hD.below hb)
 have HCL := Lib.hid (fun W (h : RIs F W y R a) (hD : RdB W (.slice A o.data.length cap) o.data) => show Calls Tryz.prog 35 #[.pointer (some ⟨y, 0, none⟩), .agg (oc o A o.data.length cap)] W (RAnsPost F y (a.heldT o) W) from rfd_any o A cap W h hg hc hD)
 have HR := Lib.hid (show a.doT o = a.heldT o by unfold TS.doT; simp [hkd])
 clear h hg hD hkd
 go_enter Tryz.func9, Tryz.ntmps9
 go_upto_region 1 with (fail)
 obtain ⟨w1, hwe, HO1, HB1⟩ := asked w (oc o A o.data.length cap)
 rw [← hwe]
 clear hwe
 have ua0 := (HO1.out).b0.c8
 have ur0 := (HO1.out).b1.cf7
 have ul := (HO1.out).b1.lt
 go_wp2_with fail
 refine (HCL.out _ (HH.out _ HB1.out) (HDW.out _ HB1.out)).mono ?_
 rintro e w9 ⟨er, en, B1, n1, c1, B2, n2, c2, ek, es, el, rfl, hs9, hTu9⟩
 clear ua0 ur0 ul
 have HO9 := Lib.hid (HO1.out.turn2 hTu9 (fun e => by have := HFL.out _ e; omega) (fun e => by have := HFL.out _ e; omega))
 have HS9 := Lib.hid hs9
 have HTu9 := Lib.hid hTu9
 clear hs9 hTu9
 have vr0 := (HO9.out).b1.cf7
 have vl := (HO9.out).b1.lt
 unfold ansV
 go_wp2_with fail
 refine bodyPost_ret (v := .agg #[.int .i64 er, .int .i64 en, .slice B1 n1 c1, .slice B2 n2 c2, .int .i64 ek, .int .i64 es, .int .i64 el]) (by simp [results, Tryz.results9, go_sem, vr0, vl]) rfl ?_
 rw [HR.out]
 exact rans_fin (F' := F) (wX := w1) HT.out HS9.out ((Turn.of_below (S := F) HB1.out).trans (S' := F) HTu9.out fun _ _ e => e) HB1.out.size (fun j e => .inl e) (by omega) HO1.out.b1.lt (fun e => by have := HFL.out _ e; omega)
theorem rdo7 (o : OpT) (A : Option Addr) (cap : Nat) (w : World) (h : RIs F w y R a) (hg : Good a c) (hc : c + 20 ≤ 100000) (hp : o.path.size ≤ 1000) (hp2 : o.to.size ≤ 1000)
  (hD : RdB w (.slice A o.data.length cap) o.data) (hkd : o.kind = 7) :
  Calls Tryz.prog 9 #[.pointer (some ⟨y, 0, none⟩), o.val A o.data.length cap] w (RAnsPost F y (a.doT o) w) := by
 unfold OpT.val
 have e1 := kf 1 hkd rfl
 have e2 := kf 2 hkd rfl
 have e3 := kf 3 hkd rfl
 have e4 := kf 4 hkd rfl
 have e5 := kf 5 hkd rfl
 have e14 := kf 14 hkd rfl
 have e7 := kt 7 hkd rfl
 have HT := Lib.hid h
 have HH := Lib.hid (fun W (hb : Below w.heap.size w W) => h.below hb)
 have HFL : Hid (∀ j, F j → j < w.heap.size) := Lib.hid fun j e => h.lt j e
 have HDW := Lib.hid (fun W (hb : Below w.heap.size w W) => hD.below hb)
 have HCL := Lib.hid (fun W (h : RIs F W y R a) => show Calls Tryz.prog 36 #[.pointer (some ⟨y, 0, none⟩), .agg (oc o A o.data.length cap)] W (RAnsPost F y (a.mkdirT o) W) from rnames7_any o A o.data.length cap W h hg hc hp hkd)
 have HR := Lib.hid (show a.doT o = a.mkdirT o by unfold TS.doT; simp [hkd])
 clear h hg hD hkd
 go_enter Tryz.func9, Tryz.ntmps9
 go_upto_region 1 with (fail)
 obtain ⟨w1, hwe, HO1, HB1⟩ := asked w (oc o A o.data.length cap)
 rw [← hwe]
 clear hwe
 have ua0 := (HO1.out).b0.c8
 have ur0 := (HO1.out).b1.cf7
 have ul := (HO1.out).b1.lt
 go_wp2_with fail
 refine (HCL.out _ (HH.out _ HB1.out)).mono ?_
 rintro e w9 ⟨er, en, B1, n1, c1, B2, n2, c2, ek, es, el, rfl, hs9, hTu9⟩
 clear ua0 ur0 ul
 have HO9 := Lib.hid (HO1.out.turn2 hTu9 (fun e => by have := HFL.out _ e; omega) (fun e => by have := HFL.out _ e; omega))
 have HS9 := Lib.hid hs9
 have HTu9 := Lib.hid hTu9
 clear hs9 hTu9
 have vr0 := (HO9.out).b1.cf7
 have vl := (HO9.out).b1.lt
 unfold ansV
 go_wp2_with fail
 refine bodyPost_ret (v := .agg #[.int .i64 er, .int .i64 en, .slice B1 n1 c1, .slice B2 n2 c2, .int .i64 ek, .int .i64 es, .int .i64 el]) (by simp [results, Tryz.results9, go_sem, vr0, vl]) rfl ?_
 rw [HR.out]
 exact rans_fin (F' := F) (wX := w1) HT.out HS9.out ((Turn.of_below (S := F) HB1.out).trans (S' := F) HTu9.out fun _ _ e => e) HB1.out.size (fun j e => .inl e) (by omega) HO1.out.b1.lt (fun e => by have := HFL.out _ e; omega)
theorem rdo8 (o : OpT) (A : Option Addr) (cap : Nat) (w : World) (h : RIs F w y R a) (hg : Good a c) (hc : c + 20 ≤ 100000) (hp : o.path.size ≤ 1000) (hp2 : o.to.size ≤ 1000)
  (hD : RdB w (.slice A o.data.length cap) o.data) (hkd : o.kind = 8) :
  Calls Tryz.prog 9 #[.pointer (some ⟨y, 0, none⟩), o.val A o.data.length cap] w (RAnsPost F y (a.doT o) w) := by
 unfold OpT.val
 have e1 := kf 1 hkd rfl
 have e2 := kf 2 hkd rfl
 have e3 := kf 3 hkd rfl
 have e4 := kf 4 hkd rfl
 have e5 := kf 5 hkd rfl
 have e14 := kf 14 hkd rfl
 have e7 := kf 7 hkd rfl
 have e8 := kt 8 hkd rfl
 have HT := Lib.hid h
 have HH := Lib.hid (fun W (hb : Below w.heap.size w W) => h.below hb)
 have HFL : Hid (∀ j, F j → j < w.heap.size) := Lib.hid fun j e => h.lt j e
 have HDW := Lib.hid (fun W (hb : Below w.heap.size w W) => hD.below hb)
 have HCL := Lib.hid (fun W (h : RIs F W y R a) => show Calls Tryz.prog 36 #[.pointer (some ⟨y, 0, none⟩), .agg (oc o A o.data.length cap)] W (RAnsPost F y (a.removeT o) W) from rnames_any o A o.data.length cap W h hg hc hp (.inl hkd))
 have HR := Lib.hid (show a.doT o = a.removeT o by unfold TS.doT; simp [hkd])
 clear h hg hD hkd
 go_enter Tryz.func9, Tryz.ntmps9
 go_upto_region 1 with (fail)
 obtain ⟨w1, hwe, HO1, HB1⟩ := asked w (oc o A o.data.length cap)
 rw [← hwe]
 clear hwe
 have ua0 := (HO1.out).b0.c8
 have ur0 := (HO1.out).b1.cf7
 have ul := (HO1.out).b1.lt
 go_wp2_with fail
 refine (HCL.out _ (HH.out _ HB1.out)).mono ?_
 rintro e w9 ⟨er, en, B1, n1, c1, B2, n2, c2, ek, es, el, rfl, hs9, hTu9⟩
 clear ua0 ur0 ul
 have HO9 := Lib.hid (HO1.out.turn2 hTu9 (fun e => by have := HFL.out _ e; omega) (fun e => by have := HFL.out _ e; omega))
 have HS9 := Lib.hid hs9
 have HTu9 := Lib.hid hTu9
 clear hs9 hTu9
 have vr0 := (HO9.out).b1.cf7
 have vl := (HO9.out).b1.lt
 unfold ansV
 go_wp2_with fail
 refine bodyPost_ret (v := .agg #[.int .i64 er, .int .i64 en, .slice B1 n1 c1, .slice B2 n2 c2, .int .i64 ek, .int .i64 es, .int .i64 el]) (by simp [results, Tryz.results9, go_sem, vr0, vl]) rfl ?_
 rw [HR.out]
 exact rans_fin (F' := F) (wX := w1) HT.out HS9.out ((Turn.of_below (S := F) HB1.out).trans (S' := F) HTu9.out fun _ _ e => e) HB1.out.size (fun j e => .inl e) (by omega) HO1.out.b1.lt (fun e => by have := HFL.out _ e; omega)
theorem rdo10 (o : OpT) (A : Option Addr) (cap : Nat) (w : World) (h : RIs F w y R a) (hg : Good a c) (hc : c + 20 ≤ 100000) (hp : o.path.size ≤ 1000) (hp2 : o.to.size ≤ 1000)
  (hD : RdB w (.slice A o.data.length cap) o.data) (hkd : o.kind = 10) :
  Calls Tryz.prog 9 #[.pointer (some ⟨y, 0, none⟩), o.val A o.data.length cap] w (RAnsPost F y (a.doT o) w) := by
 unfold OpT.val
 have e1 := kf 1 hkd rfl
 have e2 := kf 2 hkd rfl
 have e3 := kf 3 hkd rfl
 have e4 := kf 4 hkd rfl
 have e5 := kf 5 hkd rfl
 have e14 := kf 14 hkd rfl
 have e7 := kf 7 hkd rfl
 have e8 := kf 8 hkd rfl
 have e10 := kt 10 hkd rfl
 have HT := Lib.hid h
 have HH := Lib.hid (fun W (hb : Below w.heap.size w W) => h.below hb)
 have HFL : Hid (∀ j, F j → j < w.heap.size) := Lib.hid fun j e => h.lt j e
 have HDW := Lib.hid (fun W (hb : Below w.heap.size w W) => hD.below hb)
 have HCL := Lib.hid (fun W (h : RIs F W y R a) => show Calls Tryz.prog 36 #[.pointer (some ⟨y, 0, none⟩), .agg (oc o A o.data.length cap)] W (RAnsPost F y (a.removeT o) W) from rnames_any o A o.data.length cap W h hg hc hp (.inr hkd))
 have HR := Lib.hid (show a.doT o = a.removeT o by unfold TS.doT; simp [hkd])
 clear h hg hD hkd
 go_enter Tryz.func9, Tryz.ntmps9
 go_upto_region 1 with (fail)
 obtain ⟨w1, hwe, HO1, HB1⟩ := asked w (oc o A o.data.length cap)
 rw [← hwe]
 clear hwe
 have ua0 := (HO1.out).b0.c8
 have ur0 := (HO1.out).b1.cf7
 have ul := (HO1.out).b1.lt
 go_wp2_with fail
 refine (HCL.out _ (HH.out _ HB1.out)).mono ?_
 rintro e w9 ⟨er, en, B1, n1, c1, B2, n2, c2, ek, es, el, rfl, hs9, hTu9⟩
 clear ua0 ur0 ul
 have HO9 := Lib.hid (HO1.out.turn2 hTu9 (fun e => by have := HFL.out _ e; omega) (fun e => by have := HFL.out _ e; omega))
 have HS9 := Lib.hid hs9
 have HTu9 := Lib.hid hTu9
 clear hs9 hTu9
 have vr0 := (HO9.out).b1.cf7
 have vl := (HO9.out).b1.lt
 unfold ansV
 go_wp2_with fail
 refine bodyPost_ret (v := .agg #[.int .i64 er, .int .i64 en, .slice B1 n1 c1, .slice B2 n2 c2, .int .i64 ek, .int .i64 es, .int .i64 el]) (by simp [results, Tryz.results9, go_sem, vr0, vl]) rfl ?_
 rw [HR.out]
 exact rans_fin (F' := F) (wX := w1) HT.out HS9.out ((Turn.of_below (S := F) HB1.out).trans (S' := F) HTu9.out fun _ _ e => e) HB1.out.size (fun j e => .inl e) (by omega) HO1.out.b1.lt (fun e => by have := HFL.out _ e; omega)
theorem rdo9 (o : OpT) (A : Option Addr) (cap : Nat) (w : World) (h : RIs F w y R a) (hg : Good a c) (hc : c + 20 ≤ 100000) (hp : o.path.size ≤ 1000) (hp2 : o.to.size ≤ 1000)
  (hD : RdB w (.slice A o.data.length cap) o.data) (hkd : o.kind = 9) :
  Calls Tryz.prog 9 #[.pointer (some ⟨y, 0, none⟩), o.val A o.data.length cap] w (RAnsPost F y (a.doT o) w) := by
 unfold OpT.val
 have e1 := kf 1 hkd rfl
 have e2 := kf 2 hkd rfl
 have e3 := kf 3 hkd rfl
 have e4 := kf 4 hkd rfl
 have e5 := kf 5 hkd rfl
 have e14 := kf 14 hkd rfl
 have e7 := kf 7 hkd rfl
 have e8 := kf 8 hkd rfl
 have e10 := kf 10 hkd rfl
 have e9 := kt 9 hkd rfl
 have HT := Lib.hid h
 have HH := Lib.hid (fun W (hb : Below w.heap.size w W) => h.below hb)
 have HFL : Hid (∀ j, F j → j < w.heap.size) := Lib.hid fun j e => h.lt j e
 have HDW := Lib.hid (fun W (hb : Below w.heap.size w W) => hD.below hb)
 have HCL := Lib.hid (fun W (h : RIs F W y R a) => show Calls Tryz.prog 37 #[.pointer (some ⟨y, 0, none⟩), .agg (oc o A o.data.length cap)] W (RAnsPost F y (a.linkT o) W) from rlink_any o A o.data.length cap W h hg hc hp hp2)
 have HR := Lib.hid (show a.doT o = a.linkT o by unfold TS.doT; simp [hkd])
 clear h hg hD hkd
 go_enter Tryz.func9, Tryz.ntmps9
 go_upto_region 1 with (fail)
 obtain ⟨w1, hwe, HO1, HB1⟩ := asked w (oc o A o.data.length cap)
 rw [← hwe]
 clear hwe
 have ua0 := (HO1.out).b0.c8
 have ur0 := (HO1.out).b1.cf7
 have ul := (HO1.out).b1.lt
 go_wp2_with fail
 refine (HCL.out _ (HH.out _ HB1.out)).mono ?_
 rintro e w9 ⟨er, en, B1, n1, c1, B2, n2, c2, ek, es, el, rfl, hs9, hTu9⟩
 clear ua0 ur0 ul
 have HO9 := Lib.hid (HO1.out.turn2 hTu9 (fun e => by have := HFL.out _ e; omega) (fun e => by have := HFL.out _ e; omega))
 have HS9 := Lib.hid hs9
 have HTu9 := Lib.hid hTu9
 clear hs9 hTu9
 have vr0 := (HO9.out).b1.cf7
 have vl := (HO9.out).b1.lt
 unfold ansV
 go_wp2_with fail
 refine bodyPost_ret (v := .agg #[.int .i64 er, .int .i64 en, .slice B1 n1 c1, .slice B2 n2 c2, .int .i64 ek, .int .i64 es, .int .i64 el]) (by simp [results, Tryz.results9, go_sem, vr0, vl]) rfl ?_
 rw [HR.out]
 exact rans_fin (F' := F) (wX := w1) HT.out HS9.out ((Turn.of_below (S := F) HB1.out).trans (S' := F) HTu9.out fun _ _ e => e) HB1.out.size (fun j e => .inl e) (by omega) HO1.out.b1.lt (fun e => by have := HFL.out _ e; omega)
theorem rdo11 (o : OpT) (A : Option Addr) (cap : Nat) (w : World) (h : RIs F w y R a) (hg : Good a c) (hc : c + 20 ≤ 100000) (hp : o.path.size ≤ 1000) (hp2 : o.to.size ≤ 1000)
  (hD : RdB w (.slice A o.data.length cap) o.data) (hkd : o.kind = 11) :
  Calls Tryz.prog 9 #[.pointer (some ⟨y, 0, none⟩), o.val A o.data.length cap] w (RAnsPost F y (a.doT o) w) := by
 unfold OpT.val
 have e1 := kf 1 hkd rfl
 have e2 := kf 2 hkd rfl
 have e3 := kf 3 hkd rfl
 have e4 := kf 4 hkd rfl
 have e5 := kf 5 hkd rfl
 have e14 := kf 14 hkd rfl
 have e7 := kf 7 hkd rfl
 have e8 := kf 8 hkd rfl
 have e10 := kf 10 hkd rfl
 have e9 := kf 9 hkd rfl
 have e11 := kt 11 hkd rfl
 have HT := Lib.hid h
 have HH := Lib.hid (fun W (hb : Below w.heap.size w W) => h.below hb)
 have HFL : Hid (∀ j, F j → j < w.heap.size) := Lib.hid fun j e => h.lt j e
 have HDW := Lib.hid (fun W (hb : Below w.heap.size w W) => hD.below hb)
 have HCL := Lib.hid (fun W (h : RIs F W y R a) => show Calls Tryz.prog 38 #[.pointer (some ⟨y, 0, none⟩), .agg (oc o A o.data.length cap)] W (RAnsPost F y (a.renameT o) W) from rren_any o A o.data.length cap W h hg hc hp hp2)
 have HR := Lib.hid (show a.doT o = a.renameT o by unfold TS.doT; simp [hkd])
 clear h hg hD hkd
 go_enter Tryz.func9, Tryz.ntmps9
 go_upto_region 1 with (fail)
 obtain ⟨w1, hwe, HO1, HB1⟩ := asked w (oc o A o.data.length cap)
 rw [← hwe]
 clear hwe
 have ua0 := (HO1.out).b0.c8
 have ur0 := (HO1.out).b1.cf7
 have ul := (HO1.out).b1.lt
 go_wp2_with fail
 refine (HCL.out _ (HH.out _ HB1.out)).mono ?_
 rintro e w9 ⟨er, en, B1, n1, c1, B2, n2, c2, ek, es, el, rfl, hs9, hTu9⟩
 clear ua0 ur0 ul
 have HO9 := Lib.hid (HO1.out.turn2 hTu9 (fun e => by have := HFL.out _ e; omega) (fun e => by have := HFL.out _ e; omega))
 have HS9 := Lib.hid hs9
 have HTu9 := Lib.hid hTu9
 clear hs9 hTu9
 have vr0 := (HO9.out).b1.cf7
 have vl := (HO9.out).b1.lt
 unfold ansV
 go_wp2_with fail
 refine bodyPost_ret (v := .agg #[.int .i64 er, .int .i64 en, .slice B1 n1 c1, .slice B2 n2 c2, .int .i64 ek, .int .i64 es, .int .i64 el]) (by simp [results, Tryz.results9, go_sem, vr0, vl]) rfl ?_
 rw [HR.out]
 exact rans_fin (F' := F) (wX := w1) HT.out HS9.out ((Turn.of_below (S := F) HB1.out).trans (S' := F) HTu9.out fun _ _ e => e) HB1.out.size (fun j e => .inl e) (by omega) HO1.out.b1.lt (fun e => by have := HFL.out _ e; omega)
theorem rdo6 (o : OpT) (A : Option Addr) (cap : Nat) (w : World) (h : RIs F w y R a) (hg : Good a c) (hc : c + 20 ≤ 100000) (hp : o.path.size ≤ 1000) (hp2 : o.to.size ≤ 1000)
  (hD : RdB w (.slice A o.data.length cap) o.data) (hkd : o.kind = 6) :
  Calls Tryz.prog 9 #[.pointer (some ⟨y, 0, none⟩), o.val A o.data.length cap] w (RAnsPost F y (a.doT o) w) := by
 unfold OpT.val
 have e1 := kf 1 hkd rfl
 have e2 := kf 2 hkd rfl
 have e3 := kf 3 hkd rfl
 have e4 := kf 4 hkd rfl
 have e5 := kf 5 hkd rfl
 have e14 := kf 14 hkd rfl
 have e7 := kf 7 hkd rfl
 have e8 := kf 8 hkd rfl
 have e10 := kf 10 hkd rfl
 have e9 := kf 9 hkd rfl
 have e11 := kf 11 hkd rfl
 have e6 := kt 6 hkd rfl
 have HT := Lib.hid h
 have HH := Lib.hid (fun W (hb : Below w.heap.size w W) => h.below hb)
 have HFL : Hid (∀ j, F j → j < w.heap.size) := Lib.hid fun j e => h.lt j e
 have HDW := Lib.hid (fun W (hb : Below w.heap.size w W) => hD.below hb)
 have HCL := Lib.hid (fun W (h : RIs F W y R a) => show Calls Tryz.prog 39 #[.pointer (some ⟨y, 0, none⟩), .agg (oc o A o.data.length cap)] W (RAnsPost F y (a.oneT o) W) from rone_any o A o.data.length cap W h hg hc hp)
 have HR := Lib.hid (show a.doT o = a.oneT o by unfold TS.doT; simp [hkd])
 clear h hg hD hkd
 go_enter Tryz.func9, Tryz.ntmps9
 go_upto_region 1 with (fail)
 obtain ⟨w1, hwe, HO1, HB1⟩ := asked w (oc o A o.data.length cap)
 rw [← hwe]
 clear hwe
 have ua0 := (HO1.out).b0.c8
 have ur0 := (HO1.out).b1.cf7
 have ul := (HO1.out).b1.lt
 go_wp2_with fail
 refine (HCL.out _ (HH.out _ HB1.out)).mono ?_
 rintro e w9 ⟨er, en, B1, n1, c1, B2, n2, c2, ek, es, el, rfl, hs9, hTu9⟩
 clear ua0 ur0 ul
 have HO9 := Lib.hid (HO1.out.turn2 hTu9 (fun e => by have := HFL.out _ e; omega) (fun e => by have := HFL.out _ e; omega))
 have HS9 := Lib.hid hs9
 have HTu9 := Lib.hid hTu9
 clear hs9 hTu9
 have vr0 := (HO9.out).b1.cf7
 have vl := (HO9.out).b1.lt
 unfold ansV
 go_wp2_with fail
 refine bodyPost_ret (v := .agg #[.int .i64 er, .int .i64 en, .slice B1 n1 c1, .slice B2 n2 c2, .int .i64 ek, .int .i64 es, .int .i64 el]) (by simp [results, Tryz.results9, go_sem, vr0, vl]) rfl ?_
 rw [HR.out]
 exact rans_fin (F' := F) (wX := w1) HT.out HS9.out ((Turn.of_below (S := F) HB1.out).trans (S' := F) HTu9.out fun _ _ e => e) HB1.out.size (fun j e => .inl e) (by omega) HO1.out.b1.lt (fun e => by have := HFL.out _ e; omega)
theorem rdo12 (o : OpT) (A : Option Addr) (cap : Nat) (w : World) (h : RIs F w y R a) (hg : Good a c) (hc : c + 20 ≤ 100000) (hp : o.path.size ≤ 1000) (hp2 : o.to.size ≤ 1000)
  (hD : RdB w (.slice A o.data.length cap) o.data) (hkd : o.kind = 12) :
  Calls Tryz.prog 9 #[.pointer (some ⟨y, 0, none⟩), o.val A o.data.length cap] w (RAnsPost F y (a.doT o) w) := by
 unfold OpT.val
 have e1 := kf 1 hkd rfl
 have e2 := kf 2 hkd rfl
 have e3 := kf 3 hkd rfl
 have e4 := kf 4 hkd rfl
 have e5 := kf 5 hkd rfl
 have e14 := kf 14 hkd rfl
 have e7 := kf 7 hkd rfl
 have e8 := kf 8 hkd rfl
 have e10 := kf 10 hkd rfl
 have e9 := kf 9 hkd rfl
 have e11 := kf 11 hkd rfl
 have e6 := kf 6 hkd rfl
 have e12 := kt 12 hkd rfl
 have HT := Lib.hid h
 have HH := Lib.hid (fun W (hb : Below w.heap.size w W) => h.below hb)
 have HFL : Hid (∀ j, F j → j < w.heap.size) := Lib.hid fun j e => h.lt j e
 have HDW := Lib.hid (fun W (hb : Below w.heap.size w W) => hD.below hb)
 have HCL := Lib.hid (fun W (h : RIs F W y R a) => show Calls Tryz.prog 39 #[.pointer (some ⟨y, 0, none⟩), .agg (oc o A o.data.length cap)] W (RAnsPost F y (a.oneT o) W) from rone_any o A o.data.length cap W h hg hc hp)
 have HR := Lib.hid (show a.doT o = a.oneT o by unfold TS.doT; simp [hkd])
 clear h hg hD hkd
 go_enter Tryz.func9, Tryz.ntmps9
 go_upto_region 1 with (fail)
 obtain ⟨w1, hwe, HO1, HB1⟩ := asked w (oc o A o.data.length cap)
 rw [← hwe]
 clear hwe
 have ua0 := (HO1.out).b0.c8
 have ur0 := (HO1.out).b1.cf7
 have ul := (HO1.out).b1.lt
 go_wp2_with fail
 refine (HCL.out _ (HH.out _ HB1.out)).mono ?_
 rintro e w9 ⟨er, en, B1, n1, c1, B2, n2, c2, ek, es, el, rfl, hs9, hTu9⟩
 clear ua0 ur0 ul
 have HO9 := Lib.hid (HO1.out.turn2 hTu9 (fun e => by have := HFL.out _ e; omega) (fun e => by have := HFL.out _ e; omega))
 have HS9 := Lib.hid hs9
 have HTu9 := Lib.hid hTu9
 clear hs9 hTu9
 have vr0 := (HO9.out).b1.cf7
 have vl := (HO9.out).b1.lt
 unfold ansV
 go_wp2_with fail
 refine bodyPost_ret (v := .agg #[.int .i64 er, .int .i64 en, .slice B1 n1 c1, .slice B2 n2 c2, .int .i64 ek, .int .i64 es, .int .i64 el]) (by simp [results, Tryz.results9, go_sem, vr0, vl]) rfl ?_
 rw [HR.out]
 exact rans_fin (F' := F) (wX := w1) HT.out HS9.out ((Turn.of_below (S := F) HB1.out).trans (S' := F) HTu9.out fun _ _ e => e) HB1.out.size (fun j e => .inl e) (by omega) HO1.out.b1.lt (fun e => by have := HFL.out _ e; omega)
theorem rdo13 (o : OpT) (A : Option Addr) (cap : Nat) (w : World) (h : RIs F w y R a) (hg : Good a c) (hc : c + 20 ≤ 100000) (hp : o.path.size ≤ 1000) (hp2 : o.to.size ≤ 1000)
  (hD : RdB w (.slice A o.data.length cap) o.data) (hkd : o.kind = 13) :
  Calls Tryz.prog 9 #[.pointer (some ⟨y, 0, none⟩), o.val A o.data.length cap] w (RAnsPost F y (a.doT o) w) := by
 unfold OpT.val
 have e1 := kf 1 hkd rfl
 have e2 := kf 2 hkd rfl
 have e3 := kf 3 hkd rfl
 have e4 := kf 4 hkd rfl
 have e5 := kf 5 hkd rfl
 have e14 := kf 14 hkd rfl
 have e7 := kf 7 hkd rfl
 have e8 := kf 8 hkd rfl
 have e10 := kf 10 hkd rfl
 have e9 := kf 9 hkd rfl
 have e11 := kf 11 hkd rfl
 have e6 := kf 6 hkd rfl
 have e12 := kf 12 hkd rfl
 have e13 := kt 13 hkd rfl
 have HT := Lib.hid h
 have HH := Lib.hid (fun W (hb : Below w.heap.size w W) => h.below hb)
 have HFL : Hid (∀ j, F j → j < w.heap.size) := Lib.hid fun j e => h.lt j e
 have HDW := Lib.hid (fun W (hb : Below w.heap.size w W) => hD.below hb)
 have HCL := Lib.hid (fun W (h : RIs F W y R a) => show Calls Tryz.prog 39 #[.pointer (some ⟨y, 0, none⟩), .agg (oc o A o.data.length cap)] W (RAnsPost F y (a.oneT o) W) from rone_any o A o.data.length cap W h hg hc hp)
 have HR := Lib.hid (show a.doT o = a.oneT o by unfold TS.doT; simp [hkd])
 clear h hg hD hkd
 go_enter Tryz.func9, Tryz.ntmps9
 go_upto_region 1 with (fail)
 obtain ⟨w1, hwe, HO1, HB1⟩ := asked w (oc o A o.data.length cap)
 rw [← hwe]
 clear hwe
 have ua0 := (HO1.out).b0.c8
 have ur0 := (HO1.out).b1.cf7
 have ul := (HO1.out).b1.lt
 go_wp2_with fail
 refine (HCL.out _ (HH.out _ HB1.out)).mono ?_
 rintro e w9 ⟨er, en, B1, n1, c1, B2, n2, c2, ek, es, el, rfl, hs9, hTu9⟩
 clear ua0 ur0 ul
 have HO9 := Lib.hid (HO1.out.turn2 hTu9 (fun e => by have := HFL.out _ e; omega) (fun e => by have := HFL.out _ e; omega))
 have HS9 := Lib.hid hs9
 have HTu9 := Lib.hid hTu9
 clear hs9 hTu9
 have vr0 := (HO9.out).b1.cf7
 have vl := (HO9.out).b1.lt
 unfold ansV
 go_wp2_with fail
 refine bodyPost_ret (v := .agg #[.int .i64 er, .int .i64 en, .slice B1 n1 c1, .slice B2 n2 c2, .int .i64 ek, .int .i64 es, .int .i64 el]) (by simp [results, Tryz.results9, go_sem, vr0, vl]) rfl ?_
 rw [HR.out]
 exact rans_fin (F' := F) (wX := w1) HT.out HS9.out ((Turn.of_below (S := F) HB1.out).trans (S' := F) HTu9.out fun _ _ e => e) HB1.out.size (fun j e => .inl e) (by omega) HO1.out.b1.lt (fun e => by have := HFL.out _ e; omega)
theorem rdo15 (o : OpT) (A : Option Addr) (cap : Nat) (w : World) (h : RIs F w y R a) (hg : Good a c) (hc : c + 20 ≤ 100000) (hp : o.path.size ≤ 1000) (hp2 : o.to.size ≤ 1000)
  (hD : RdB w (.slice A o.data.length cap) o.data) (hkd : o.kind = 15) :
  Calls Tryz.prog 9 #[.pointer (some ⟨y, 0, none⟩), o.val A o.data.length cap] w (RAnsPost F y (a.doT o) w) := by
 unfold OpT.val
 have e1 := kf 1 hkd rfl
 have e2 := kf 2 hkd rfl
 have e3 := kf 3 hkd rfl
 have e4 := kf 4 hkd rfl
 have e5 := kf 5 hkd rfl
 have e14 := kf 14 hkd rfl
 have e7 := kf 7 hkd rfl
 have e8 := kf 8 hkd rfl
 have e10 := kf 10 hkd rfl
 have e9 := kf 9 hkd rfl
 have e11 := kf 11 hkd rfl
 have e6 := kf 6 hkd rfl
 have e12 := kf 12 hkd rfl
 have e13 := kf 13 hkd rfl
 have e15 := kt 15 hkd rfl
 have HT := Lib.hid h
 have HR := Lib.hid (show a.doT o = a by unfold TS.doT; simp [hkd])
 clear h hg hD hkd
 go_enter Tryz.func9, Tryz.ntmps9
 go_upto_region 1 with (fail)
 obtain ⟨w1, hwe, HO1, HB1⟩ := asked w (oc o A o.data.length cap)
 rw [← hwe]
 clear hwe
 have ua0 := (HO1.out).b0.c8
 have ur0 := (HO1.out).b1.cf7
 have ul := (HO1.out).b1.lt
 go_wp2_with fail
 refine bodyPost_ret (v := .agg #[.int .i64 0, .int .i64 0, .slice none 0 0, .slice none 0 0, .int .i64 0, .int .i64 0, .int .i64 0]) (by simp [results, Tryz.results9, go_sem, ur0, ul]) rfl ?_
 rw [HR.out]
 exact rans_same HT.out (ans_set HB1.out (by omega) _ _ _ _ _ _ _)
theorem rdo0 (o : OpT) (A : Option Addr) (cap : Nat) (w : World) (h : RIs F w y R a) (hg : Good a c) (hc : c + 20 ≤ 100000) (hp : o.path.size ≤ 1000) (hp2 : o.to.size ≤ 1000)
  (hD : RdB w (.slice A o.data.length cap) o.data) (k1 : o.kind ≠ 1) (k2 : o.kind ≠ 2) (k3 : o.kind ≠ 3) (k4 : o.kind ≠ 4) (k5 : o.kind ≠ 5) (k14 : o.kind ≠ 14) (k7 : o.kind ≠ 7) (k8 : o.kind ≠ 8) (k10 : o.kind ≠ 10) (k9 : o.kind ≠ 9) (k11 : o.kind ≠ 11) (k6 : o.kind ≠ 6) (k12 : o.kind ≠ 12) (k13 : o.kind ≠ 13) (k15 : o.kind ≠ 15) :
  Calls Tryz.prog 9 #[.pointer (some ⟨y, 0, none⟩), o.val A o.data.length cap] w (RAnsPost F y (a.doT o) w) := by
 unfold OpT.val
 have e1 : (o.kind == 1) = false := beq_eq_false_iff_ne.2 k1
 have e2 : (o.kind == 2) = false := beq_eq_false_iff_ne.2 k2
 have e3 : (o.kind == 3) = false := beq_eq_false_iff_ne.2 k3
 have e4 : (o.kind == 4) = false := beq_eq_false_iff_ne.2 k4
 have e5 : (o.kind == 5) = false := beq_eq_false_iff_ne.2 k5
 have e14 : (o.kind == 14) = false := beq_eq_false_iff_ne.2 k14
 have e7 : (o.kind == 7) = false := beq_eq_false_iff_ne.2 k7
 have e8 : (o.kind == 8) = false := beq_eq_false_iff_ne.2 k8
 have e10 : (o.kind == 10) = false := beq_eq_false_iff_ne.2 k10
 have e9 : (o.kind == 9) = false := beq_eq_false_iff_ne.2 k9
 have e11 : (o.kind == 11) = false := beq_eq_false_iff_ne.2 k11
 have e6 : (o.kind == 6) = false := beq_eq_false_iff_ne.2 k6
 have e12 : (o.kind == 12) = false := beq_eq_false_iff_ne.2 k12
 have e13 : (o.kind == 13) = false := beq_eq_false_iff_ne.2 k13
 have e15 : (o.kind == 15) = false := beq_eq_false_iff_ne.2 k15
 have HT := Lib.hid h
 have HR := Lib.hid (show a.doT o = a by unfold TS.doT; simp [k1, k2, k3, k4, k5, k14, k7, k8, k10, k9, k11, k6, k12, k13, k15])
 clear h hg hD k1 k2 k3 k4 k5 k14 k7 k8 k10 k9 k11 k6 k12 k13 k15
 go_enter Tryz.func9, Tryz.ntmps9
 go_upto_region 1 with (fail)
 obtain ⟨w1, hwe, HO1, HB1⟩ := asked w (oc o A o.data.length cap)
 rw [← hwe]
 clear hwe
 have ua0 := (HO1.out).b0.c8
 have ur0 := (HO1.out).b1.cf7
 have ul := (HO1.out).b1.lt
 go_wp2_with fail
 refine (failed_any _ _).mono ?_
 rintro e w5 ⟨rfl, hb5⟩
 have HOF := Lib.hid (HO1.out.below hb5)
 have HBF := Lib.hid (HB1.out.trans (hb5.mono HB1.out.size))
 clear hb5
 have vr0 := (HOF.out).b1.cf7
 have vl := (HOF.out).b1.lt
 go_wp2_with fail
 refine bodyPost_ret (v := .agg #[.int .i64 2, .int .i64 0, .slice none 0 0, .slice none 0 0, .int .i64 0, .int .i64 0, .int .i64 0]) (by simp [results, Tryz.results9, go_sem, vr0, vl]) rfl ?_
 rw [HR.out]
 exact rans_same HT.out (ans_set HBF.out (by omega) _ _ _ _ _ _ _)
theorem rdo_any (o : OpT) (A : Option Addr) (cap : Nat) (w : World) (h : RIs F w y R a) (hg : Good a c) (hc : c + 20 ≤ 100000) (hp : o.path.size ≤ 1000) (hp2 : o.to.size ≤ 1000)
  (hD : RdB w (.slice A o.data.length cap) o.data) :
  Calls Tryz.prog 9 #[.pointer (some ⟨y, 0, none⟩), o.val A o.data.length cap] w (RAnsPost F y (a.doT o) w) := by
 by_cases k1 : o.kind = 1
 ·exact rdo1 o A cap w h hg hc hp hp2 hD k1
 by_cases k2 : o.kind = 2
 ·exact rdo2 o A cap w h hg hc hp hp2 hD k2
 by_cases k3 : o.kind = 3
 ·exact rdo3 o A cap w h hg hc hp hp2 hD k3
 by_cases k4 : o.kind = 4
 ·exact rdo4 o A cap w h hg hc hp hp2 hD k4
 by_cases k5 : o.kind = 5
 ·exact rdo5 o A cap w h hg hc hp hp2 hD k5
 by_cases k14 : o.kind = 14
 ·exact rdo14 o A cap w h hg hc hp hp2 hD k14
 by_cases k7 : o.kind = 7
 ·exact rdo7 o A cap w h hg hc hp hp2 hD k7
 by_cases k8 : o.kind = 8
 ·exact rdo8 o A cap w h hg hc hp hp2 hD k8
 by_cases k10 : o.kind = 10
 ·exact rdo10 o A cap w h hg hc hp hp2 hD k10
 by_cases k9 : o.kind = 9
 ·exact rdo9 o A cap w h hg hc hp hp2 hD k9
 by_cases k11 : o.kind = 11
 ·exact rdo11 o A cap w h hg hc hp hp2 hD k11
 by_cases k6 : o.kind = 6
 ·exact rdo6 o A cap w h hg hc hp hp2 hD k6
 by_cases k12 : o.kind = 12
 ·exact rdo12 o A cap w h hg hc hp hp2 hD k12
 by_cases k13 : o.kind = 13
 ·exact rdo13 o A cap w h hg hc hp hp2 hD k13
 by_cases k15 : o.kind = 15
 ·exact rdo15 o A cap w h hg hc hp hp2 hD k15
 exact rdo0 o A cap w h hg hc hp hp2 hD k1 k2 k3 k4 k5 k14 k7 k8 k10 k9 k11 k6 k12 k13 k15
end
end Go.Proofs.YtpkhglfhpggceaaGreatDoor
namespace Go.Proofs.YtpkhglfhpggceaaGreatDoor
set_option maxRecDepth 100000
set_option maxHeartbeats 16000000
open Go.RowKit Go.Maps
set_option linter.unusedVariables false
set_option linter.unusedSimpArgs false
theorem ts0_nd (k : Nat) : ts0.nd k = if k = 1 then ⟨2, 1, [], []⟩ else nd0 := rfl
theorem ts0_names (k : Nat) : (ts0.nd k).names = [] := by rw [ts0_nd]; split <;> rfl
theorem ts0_inv : Inv ts0 1 := by
 refine ⟨⟨rfl, Nat.le_refl _, by decide, fun k hk => ?_, rfl, fun k => ?_, fun k => ?_, fun k p hp => ?_, fun k p hp => ?_, fun k => ?_, fun k => ?_, fun k => ?_, fun i hi f hf => by cases hf⟩, fun k => ?_⟩
 ·have hk : 1 < k := hk
  rw [ts0_nd, if_neg (by omega)]
 ·rw [ts0_nd]
  by_cases e : k = 1
  ·rw [if_pos e]; exact .inr (.inr rfl)
  ·rw [if_neg e]; exact .inl ⟨rfl, rfl⟩
 ·rw [ts0_names]; exact List.Pairwise.nil
 ·rw [ts0_names] at hp; cases hp
 ·rw [ts0_names] at hp; cases hp
 ·rw [ts0_names]; exact Nat.zero_le _
 ·rw [ts0_nd]; split <;> (constructor <;> decide)
 ·rw [ts0_nd]; split <;> exact Nat.zero_le _
 ·rw [refsTo_zero (fun d p hp => by rw [ts0_names] at hp; cases hp), ts0_nd]
  split <;> rfl
def tsE : TS := ⟨1, fun _ => nd0, fun _ => none⟩
theorem tsE_one : tsE.setNd 1 ⟨2, 1, [], []⟩ = ts0 := rfl
theorem tnew_any (w : World) (hx : ∃ m, w.cell? ⟨0, 0, none⟩ = some (.int .i64 m)) :
  Calls Tryz.prog 5 #[] w fun e w' => ∃ t, e = .returned (.pointer (some ⟨t, 0, none⟩)) ∧ St (grow (fun _ => False) w w') w' t 1 ts0 ∧ Below w.heap.size w w' := by
 have hmm := @run_makeMap Tryz.prog
 have hw0 := mx_lt (w := w) (m := hx.choose) hx.choose_spec
 go_enter Tryz.func5, Tryz.ntmps5
 go_wp2_with fail
 refine (new_any _).mono ?_
 rintro e w1 ⟨rfl, htab, hb1⟩
 have hs0 : (w.alloc (.map #[] 0)).heap.size = w.heap.size + 1 := by simp
 rw [hs0] at htab hb1 ⊢
 have hB1 : Below w.heap.size w w1 := (below_0 w (.map #[] 0)).trans (hb1.mono (by omega))
 have hm1 : MapIs w1 w.heap.size 0 (fun _ => none) := (MapIs.new w).keep (hb1.block _ (by omega))
 go_upto_region 2 with (fail)
 have HTAB := Lib.hid htab
 have HB1 := Lib.hid hB1
 have hs1 := hm1.lt
 have hs2 : w.heap.size + 1 < w1.heap.size := htab.lt (.inl rfl)
 have HM1 := Lib.hid hm1
 have hblk := Blk.new w1 70 #[.int .i64 1, .map (some w.heap.size), .pointer (some ⟨w.heap.size + 1, 0, none⟩)]
 clear htab hb1 hB1 hm1
 have HM2 := Lib.hid (HM1.out.alloc (.cells #[.int .i64 1, .map (some w.heap.size), .pointer (some ⟨w.heap.size + 1, 0, none⟩)] 70))
 have HTAB2 := Lib.hid (HTAB.out.alloc (.cells #[.int .i64 1, .map (some w.heap.size), .pointer (some ⟨w.heap.size + 1, 0, none⟩)] 70))
 have HB2 := Lib.hid (HB1.out.alloc HB1.out.size (.cells #[.int .i64 1, .map (some w.heap.size), .pointer (some ⟨w.heap.size + 1, 0, none⟩)] 70))
 have HBLK := Lib.hid hblk
 have hsz : (w1.alloc (.cells #[.int .i64 1, .map (some w.heap.size), .pointer (some ⟨w.heap.size + 1, 0, none⟩)] 70)).heap.size = w1.heap.size + 1 := by simp
 clear hblk
 generalize w1.alloc (.cells #[.int .i64 1, .map (some w.heap.size), .pointer (some ⟨w.heap.size + 1, 0, none⟩)] 70) = w2 at *
 generalize hT : w1.heap.size = t at *
 have ht2 : w2.heap.size = t + 1 := hsz
 have HSZ := Lib.hid hsz
 clear hT hsz
 have c1 := HBLK.out.cell 1
 simp at c1
 have hm3 : MapIs ((w2.alloc (.map #[] 0)).alloc (.cells #[.int .i64 2, .int .i64 1, .slice none 0 0, .map (some w2.heap.size)] 74)) w.heap.size 0 (fun _ => none) := (HM2.out.alloc _).alloc _
 obtain ⟨w3, hup, hm3, hg3⟩ := hm3.store Tryz.underlying68 (by unfold maxLen; omega) (wfNat (k := 1) (by omega)) (.pointer (some ⟨w2.heap.size + 1, 0, none⟩))
 have HM3 := Lib.hid hm3
 have HG3 := Lib.hid hg3
 have hup' : (Instr.mapUpdate 68 (.map (some w.heap.size)) (.int .i64 1) (.pointer (some ⟨w2.heap.size + 1, 0, none⟩))).run Tryz.prog ((w2.alloc (.map #[] 0)).alloc (.cells #[.int .i64 2, .int .i64 1, .slice none 0 0, .map (some w2.heap.size)] 74)) = .ok () w3 := hup
 have htl : t < w2.heap.size := by omega
 clear hup hm3 hg3 ht2
 go_wp2_with fail
 go_ret
 have ht2 := HSZ.out
 have HTM0 : Turn (· = w.heap.size) w2 w3 := (((Turn.refl (· = w.heap.size) w2).alloc (.map #[] 0)).alloc (.cells #[.int .i64 2, .int .i64 1, .slice none 0 0, .map (some w2.heap.size)] 74)).trans (turn_of_grown HG3.out) fun _ _ e => e
 have hg0 := Blk.new (w2.alloc (.map #[] 0)) 74 #[.int .i64 2, .int .i64 1, .slice none 0 0, .map (some w2.heap.size)]
 have hsA : (w2.alloc (.map #[] 0)).heap.size = w2.heap.size + 1 := by simp
 rw [hsA] at hg0
 have hgg := hg0.turn (turn_of_grown HG3.out) (by omega)
 have hb0 := (((MapS.new w2).mono (Nat.zero_le 1)).keep (w' := (w2.alloc (.map #[] 0)).alloc (.cells #[.int .i64 2, .int .i64 1, .slice none 0 0, .map (some w2.heap.size)] 74)) (Below.heap_alloc _ _ _ (by simp))).turn (turn_of_grown HG3.out) (by omega)
 have hs3 := HG3.out.size
 have hs3' : w2.heap.size + 2 ≤ w3.heap.size := by simpa using hs3
 have hbw := HB2.out.size
 have hnF : nodeF ⟨w.heap.size, w.heap.size + 1, fun _ => 0, fun _ => 0, fun _ => .slice none 0 0, fun _ => none⟩ tsE = fun _ => none := by
  funext i
  unfold nodeF
  rw [if_neg fun x => x.2 rfl]
 have hE : TreeIs (grow (fun _ => False) w w2) w2 t ⟨w.heap.size, w.heap.size + 1, fun _ => 0, fun _ => 0, fun _ => .slice none 0 0, fun _ => none⟩ 0 tsE := by
  have hn : ∀ k, (tsE.nd k).kind = 0 := fun k => rfl
  refine ⟨HBLK.out, ?_, fun k hk => absurd (hn k) hk, HTAB2.out, fun i hi => rfl, fun k k' hk => absurd (hn k) hk, fun k hk => absurd (hn k) hk, .inr ⟨by omega, htl⟩, .inr ⟨Nat.le_refl _, by show w.heap.size < _; omega⟩, fun j hj => ?_, fun j hj => ?_, fun hj => ?_, ?_⟩
  ·rw [hnF]
   exact HM2.out
  ·rcases hj with e | ⟨i, x, hi, hx, e⟩
   ·have e : j = w.heap.size + 1 := e
    exact .inr ⟨by omega, by omega⟩
   ·cases hx
  ·rcases hj with hj | hj
   ·exact hj.elim
   ·exact hj.2
  ·rcases hj with hj | hj
   ·exact hj
   ·omega
  ·obtain ⟨m, hm⟩ := hx
   exact ⟨m, (World.cell?_of_block (a := ⟨0, 0, none⟩) (HB2.out.block 0 hw0)).trans hm⟩
 have hTN := hE.addNode (F' := grow (fun _ => False) w w3) (k := 1) (kind := 2) rfl HTM0 (by rw [hnF]; exact HM3.out) hgg hb0 (fun j hj => by
  rcases hj with hj | hj
  ·exact .inl hj
  ·exact .inr ⟨hj.1, Nat.lt_of_lt_of_le hj.2 HTM0.size⟩) (.inr ⟨by omega, by omega⟩) (.inr ⟨by omega, by omega⟩) (fun j hj => by
  rcases hj with hj | hj
  ·exact hj.elim
  ·exact hj.2) (fun hj => by
  rcases hj with hj | hj
  ·exact hj
  ·omega) (fun hj => by
  rcases hj with hj | hj
  ·exact hj
  ·omega) (fun hj => by
  rcases hj with hj | hj
  ·exact hj
  ·omega) (by decide)
 refine ⟨t, rfl, ⟨_, hTN⟩, ?_⟩
 exact (HB2.out.alloc hbw _).alloc (by simp; omega) _ |>.grown HG3.out (by simp; omega) (fun j hj => by cases hj; exact Nat.le_refl _)
theorem rtnew_any (w : World) (hw : 0 < w.heap.size) :
  Calls Tryz.prog 6 #[] w fun e w' => ∃ y, e = .returned (.pointer (some ⟨y, 0, none⟩)) ∧ RSt (grow (fun _ => False) w w') w' y ts0 ∧ Below w.heap.size w w' := by
 go_enter Tryz.func6, Tryz.ntmps6
 go_wp2_with fail
 refine (rnew_any _).mono ?_
 rintro e w1 ⟨rfl, htab, hb1⟩
 have hs0 : (w.alloc (.cells #[.int .i64 0, .int .i64 0, .slice none 0 0, .slice none 0 0, .int .i64 2, .int .i64 1, .slice none 0 0, .slice none 0 0] 75)).heap.size = w.heap.size + 1 := by simp
 have hrow := (Blk.new w 75 #[.int .i64 0, .int .i64 0, .slice none 0 0, .slice none 0 0, .int .i64 2, .int .i64 1, .slice none 0 0, .slice none 0 0]).below hb1 (Blk.new _ _ _).lt
 rw [hs0] at htab hb1 ⊢
 have hB1 : Below w.heap.size w w1 := (below_0 w (.cells #[.int .i64 0, .int .i64 0, .slice none 0 0, .slice none 0 0, .int .i64 2, .int .i64 1, .slice none 0 0, .slice none 0 0] 75)).trans (hb1.mono (by omega))
 have HTAB := Lib.hid htab
 have HB1 := Lib.hid hB1
 have HROW := Lib.hid hrow
 clear htab hb1 hB1 hrow hs0
 go_wp2_with fail
 go_ret
 have hs1 := HTAB.out.lt
 have hB2 := HB1.out.alloc HB1.out.size (.cells #[.slice (some ⟨w.heap.size, 0, none⟩) 2 2, .pointer (some ⟨w.heap.size + 1, 0, none⟩)] 57)
 have hsz : (w1.alloc (.cells #[.slice (some ⟨w.heap.size, 0, none⟩) 2 2, .pointer (some ⟨w.heap.size + 1, 0, none⟩)] 57)).heap.size = w1.heap.size + 1 := by simp
 have hr2 := HROW.out.alloc (.cells #[.slice (some ⟨w.heap.size, 0, none⟩) 2 2, .pointer (some ⟨w.heap.size + 1, 0, none⟩)] 57)
 have hc : ∀ k, k ≤ 1 → (w1.alloc (.cells #[.slice (some ⟨w.heap.size, 0, none⟩) 2 2, .pointer (some ⟨w.heap.size + 1, 0, none⟩)] 57)).cell? ⟨w.heap.size, k * 4, none⟩ = some (.int .i64 (ts0.nd k).kind) ∧
   (w1.alloc (.cells #[.slice (some ⟨w.heap.size, 0, none⟩) 2 2, .pointer (some ⟨w.heap.size + 1, 0, none⟩)] 57)).cell? ⟨w.heap.size, k * 4 + 1, none⟩ = some (.int .i64 (ts0.nd k).links) ∧
   (w1.alloc (.cells #[.slice (some ⟨w.heap.size, 0, none⟩) 2 2, .pointer (some ⟨w.heap.size + 1, 0, none⟩)] 57)).cell? ⟨w.heap.size, k * 4 + 2, none⟩ = some (.slice none 0 0) ∧
   (w1.alloc (.cells #[.slice (some ⟨w.heap.size, 0, none⟩) 2 2, .pointer (some ⟨w.heap.size + 1, 0, none⟩)] 57)).cell? ⟨w.heap.size, k * 4 + 3, none⟩ = some (.slice none 0 0) := fun k hk => by
  rw [hr2.cell, hr2.cell, hr2.cell, hr2.cell]
  rcases k with _ | _ | k
  ·exact ⟨rfl, rfl, rfl, rfl⟩
  ·exact ⟨rfl, rfl, rfl, rfl⟩
  ·omega
 have hdat : ∀ k, (ts0.nd k).data = [] := fun k => by rw [ts0_nd]; split <;> rfl
 refine ⟨w1.heap.size, rfl, ⟨⟨w.heap.size, 2, w.heap.size + 1, fun _ => .slice none 0 0, fun _ => .slice none 0 0, fun _ => false, fun _ => (0, 0, 0)⟩, Blk.new w1 57 _, ⟨_, hr2, rfl⟩, Nat.le_refl _, (by show 2 ≤ maxLen; decide), hc, fun k hk => ⟨by rw [hdat]; exact .inl ⟨rfl, rfl⟩, At.nil _⟩, fun k hk => ⟨by rw [ts0_names]; exact .inl ⟨rfl, rfl⟩, At.nil _⟩, HTAB.out.alloc _, fun i hi => rfl, fun j hj => ?_, fun j hj => ?_, fun hj => ?_⟩, hB2⟩
 ·rcases hj with e | e | e
  ·have e : j = w1.heap.size := e
   exact .inr ⟨by omega, by omega⟩
  ·have e : j = w.heap.size := e
   exact .inr ⟨by omega, by omega⟩
  ·have e : j = w.heap.size + 1 := e
   exact .inr ⟨by omega, by omega⟩
 ·rcases hj with hj | hj
  ·exact hj.elim
  ·exact hj.2
 ·rcases hj with hj | hj
  ·exact hj
  ·omega
end Go.Proofs.YtpkhglfhpggceaaGreatDoor
namespace Go.Proofs.YtpkhglfhpggceaaGreatDoor
set_option maxRecDepth 100000
set_option maxHeartbeats 16000000
open Go.RowKit
set_option linter.unusedVariables false
set_option linter.unusedSimpArgs false
def Rq (w : World) (v : Value) (l : List UInt8) : Prop :=
 ∃ A c, v = .slice A l.length c ∧ (A = none → c = 0) ∧ l.length ≤ c ∧ c ≤ maxLen ∧ ∀ j b, l[j]? = some b → ∃ g o, A = some ⟨g, o, none⟩ ∧ g < w.heap.size ∧ w.cell? ⟨g, o + j, none⟩ = some (.int .u8 (b.toNat : Int))
theorem Rq.below {w w' : World} {v : Value} {l : List UInt8} (h : Rq w v l) (hb : Below w.heap.size w w') : Rq w' v l := by
 obtain ⟨A, c, e, h0, h1, h2, h3⟩ := h
 refine ⟨A, c, e, h0, h1, h2, fun j b hj => ?_⟩
 obtain ⟨g, o, eA, hg, hc⟩ := h3 j b hj
 exact ⟨g, o, eA, Nat.lt_of_lt_of_le hg hb.size, (World.cell?_of_block (a := ⟨g, o + j, none⟩) (hb.block g hg)).trans hc⟩
theorem Rq.fits {w : World} {A : Option Addr} {cap : Nat} {l : List UInt8} (h : Rq w (.slice A l.length cap) l) : l.length ≤ cap ∧ cap ≤ maxLen := by
 obtain ⟨B, c, e, h0, h1, h2, h3⟩ := h
 injection e with e1 e2 e3
 rw [e3]
 exact ⟨h1, h2⟩
theorem Rq.len {w : World} {v : Value} {l : List UInt8} (h : Rq w v l) : l.length ≤ maxLen := by
 obtain ⟨B, c, e, h0, h1, h2, h3⟩ := h
 exact Nat.le_trans h1 h2
theorem Rq.to {w : World} {v : Value} {l : List UInt8} (h : Rq w v l) {q : Nat} (hq : q ≤ l.length) : ∃ v', (∀ W, (Instr.slice 28 v none (some (.int .i64 (q : Nat))) none).run Tryz.prog W = .ok v' W) ∧ Rq w v' (l.take q) := by
 obtain ⟨A, c, rfl, h0, h1, h2, h3⟩ := h
 refine ⟨_, fun W => slice_to W A _ c q (by omega), A, c, by rw [List.length_take, Nat.min_eq_left hq], h0, by rw [List.length_take]; omega, h2, fun j b hj => ?_⟩
 rw [List.getElem?_take] at hj
 split at hj
 ·exact h3 _ b hj
 ·cases hj
theorem bytes33_any (v : Value) (l : List UInt8) (w : World) (h : Rq w v l) (hl : l.length ≤ 140737488355328) :
  Calls Tryz.prog 33 #[v] w fun e w' => ∃ A c, e = .returned (.slice A l.length c) ∧ Byt w' (.slice A l.length c) l ∧ (∀ j, (Value.slice A l.length c).ownBlock = some j → w.heap.size ≤ j) ∧ Below w.heap.size w w' := by
 obtain ⟨i0, hi0, hz0, hz1, hz2⟩ := info_parts info5
 have hlm : l.length ≤ maxLen := h.len
 obtain ⟨A2, c2, rfl, hA2, hr2⟩ : ∃ A2 c2, v = .slice A2 l.length c2 ∧ (A2 = none → c2 = 0 ∧ l.length = 0) ∧ ∀ W, Below w.heap.size w W → ∀ ad, A2 = some ad → ∀ j u, (byts l)[j]? = some u → W.cell? (ad.add j) = some u := by
  obtain ⟨A, c, rfl, h0, h1, h2, h3⟩ := h
  refine ⟨A, c, rfl, fun e => ⟨h0 e, by have := h0 e; omega⟩, fun W hW ad e j u hu => ?_⟩
  unfold byts at hu
  rw [List.getElem?_map, Option.map_eq_some_iff] at hu
  obtain ⟨b, hb, rfl⟩ := hu
  obtain ⟨g, o, eA, hg, hc⟩ := h3 j b hb
  rw [e] at eA
  obtain rfl := Option.some.inj eA
  rw [addr_add]
  exact (World.cell?_of_block (a := ⟨g, o + j, none⟩) (hW.block g hg)).trans hc
 have HR2 := Lib.hid hr2
 have HA2 := Lib.hid hA2
 have HLN := Lib.hid (show (byts l).length = l.length * 1 by rw [byts_len, Nat.mul_one])
 have H1 : Hid (∀ u ∈ byts l, u.oneCell' = true) := Lib.hid (byts_one _)
 have HLM := Lib.hid hlm
 clear h hlm hA2 hr2
 go_enter Tryz.func33, Tryz.ntmps33
 go_wp2_with (at_builtin; refine wpList_append_row rfl (.tmp 3) (.tmp 4) 28 rfl w.heap.size 5 i0 (.int .u8 0) 1 1 Tryz.underlying28 hi0 hz0 hz1 hz2 rfl (by decide) _ _ _ rfl (World.ownsRow_made w #[] 0 (Nat.le_refl _) (Nat.zero_le _) rfl) A2 l.length c2 (byts l) rfl HLN.out HA2.out ?c1 H1.out ?c3 ?c4 ?c5 ?_)
 case c1 => exact fun ad e => HR2.out _ (below_0 w _) ad e
 case c3 => have := HLM.out; omega
 case c4 => omega
 case c5 => simp
 intro v' w1 hown1 hgr1
 have hbel : Below w.heap.size w w1 := ((Below.refl _ _).alloc (Nat.le_refl _) _).grown hgr1 (by simp) (fun j hj => by cases hj; exact Nat.le_refl _)
 have hown2 : w1.ownsRow w.heap.size 5 1 v' l.length (byts l) := by simpa using hown1
 obtain ⟨A3, c3, rfl⟩ := own_slice hown2
 clear hown1 hgr1
 go_wp2
 go_ret
 exact ⟨A3, c3, rfl, (own_byt hown2).1, (own_byt hown2).2, hbel⟩
def briefT (s : ByteArray) : ByteArray := s.extract 0 (min s.size 200)
def fewT (o : OpT) : OpT := ⟨o.kind, briefT o.path, briefT o.to, if o.data.length ≤ 4096 then o.data.take 500 else o.data, o.n, o.off, o.fd, o.flags⟩
theorem briefT_size (s : ByteArray) : (briefT s).size ≤ 200 := by unfold briefT; rw [ByteArray.size_extract]; omega
theorem brief_run (w : World) (s : ByteArray) (m : Nat) (hm : m = min s.size 200) : (Instr.slice 9 (.string s) none (some (.int .i64 (m : Nat))) none).run Tryz.prog w = .ok (.string (briefT s)) w := by
 have h3 : (m : Int) ≤ (s.size : Int) := by omega
 have h4 : (0 : Int) ≤ (m : Int) := by omega
 unfold briefT
 rw [← hm]
 simp [Tryz.underlying9, go_sem, h3, h4]
theorem few_any (o : OpT) (A : Option Addr) (cap : Nat) (w : World) (h : Rq w (.slice A o.data.length cap) o.data) (hp : o.path.size ≤ maxLen) (hp2 : o.to.size ≤ maxLen) (hdl : o.data.length ≤ 140737488355328) :
  Calls Tryz.prog 8 #[o.val A o.data.length cap] w fun e w' => ∃ A2 c2, e = .returned ((fewT o).val A2 (fewT o).data.length c2) ∧ Byt w' (.slice A2 (fewT o).data.length c2) (fewT o).data ∧
   (∀ j, (Value.slice A2 (fewT o).data.length c2).ownBlock = some j → w.heap.size ≤ j) ∧ Below w.heap.size w w' := by
 unfold OpT.val
 have HH := Lib.hid (fun W (hb : Below w.heap.size w W) => h.below hb)
 have hlm : o.data.length ≤ maxLen := h.len
 unfold maxLen at hp hp2 hlm
 obtain ⟨m1, hm1⟩ : ∃ m : Nat, m = min o.path.size 200 := ⟨_, rfl⟩
 obtain ⟨m2, hm2⟩ : ∃ m : Nat, m = min o.to.size 200 := ⟨_, rfl⟩
 have hs1 := fun W => brief_run W o.path m1 hm1
 have hs2 := fun W => brief_run W o.to m2 hm2
 have hn1 : min ((o.path.size : Nat) : Int) 200 = (m1 : Int) := by omega
 have hn2 : min ((o.to.size : Nat) : Int) 200 = (m2 : Int) := by omega
 clear h hm1 hm2
 have hcap : o.data.length ≤ cap := (HH.out w (Below.refl _ _)).fits.1
 by_cases hbig : o.data.length ≤ 4096
 ·have hb : ((o.data.length : Nat) : Int) ≤ 4096 := by omega
  obtain ⟨m3, hm3⟩ : ∃ m : Nat, min o.data.length 500 = m := ⟨_, rfl⟩
  have hn3 : min ((o.data.length : Nat) : Int) 500 = (m3 : Int) := by omega
  have hsl : ∀ W, (Instr.slice 28 (.slice A o.data.length cap) none (some (.int .i64 (m3 : Nat))) none).run Tryz.prog W = .ok (.slice A m3 cap) W := fun W => slice_to W A _ cap m3 (by omega)
  have HB2 := Lib.hid (fun W (hb : Below w.heap.size w W) => show Rq W (.slice A m3 cap) (o.data.take m3) from by
   obtain ⟨v2, hv2, hb2⟩ := (HH.out W hb).to (q := m3) (by omega)
   have e := (hv2 W).symm.trans (hsl W)
   injection e with e
   rw [e] at hb2
   exact hb2)
  have HFD := Lib.hid (show (fewT o).data = o.data.take 500 from if_pos hbig)
  have HM3 := Lib.hid (show o.data.take 500 = o.data.take m3 ∧ (o.data.take m3).length = m3 from ⟨by
   subst hm3
   by_cases h5 : o.data.length ≤ 500
   ·rw [Nat.min_eq_left h5, List.take_length, List.take_of_length_le h5]
   ·rw [Nat.min_eq_right (by omega)], by rw [List.length_take]; omega⟩)
  have HCL := Lib.hid (fun W (hb : Below w.heap.size w W) => bytes33_any (.slice A m3 cap) (o.data.take m3) W (HB2.out W hb) (by rw [HM3.out.2]; omega))
  rw [HM3.out.2] at HCL
  have hm5 : m3 ≤ 500 := by omega
  clear hbig hcap
  go_enter Tryz.func8, Tryz.ntmps8
  go_upto_region 1 with (fail)
  go_region
  go_upto_region 4 with (fail)
  have h0 := ((Blk.new w 36 #[.int .i64 o.kind, .string (briefT o.path), .string (briefT o.to), .int .i64 o.fd, .int .i64 o.n, .int .i64 o.off, .int .i64 o.flags, .slice A m3 cap]).alloc (.cells #[.int .i64 0, .string { data := #[] }, .string { data := #[] }, .int .i64 0, .int .i64 0, .int .i64 0, .int .i64 0, .slice none 0 0] 36)).drew
  have h1 := (Blk.new (w.alloc (.cells #[.int .i64 o.kind, .string (briefT o.path), .string (briefT o.to), .int .i64 o.fd, .int .i64 o.n, .int .i64 o.off, .int .i64 o.flags, .slice A m3 cap] 36)) 36 #[.int .i64 0, .string { data := #[] }, .string { data := #[] }, .int .i64 0, .int .i64 0, .int .i64 0, .int .i64 0, .slice none 0 0]).drew
  rw [alloc_sz] at h1
  have hB1 : Below w.heap.size w ((w.alloc (.cells #[.int .i64 o.kind, .string (briefT o.path), .string (briefT o.to), .int .i64 o.fd, .int .i64 o.n, .int .i64 o.off, .int .i64 o.flags, .slice A m3 cap] 36)).alloc (.cells #[.int .i64 0, .string { data := #[] }, .string { data := #[] }, .int .i64 0, .int .i64 0, .int .i64 0, .int .i64 0, .slice none 0 0] 36)).drew := (below_00 w _ _).trans drew_below'
  have H0 := Lib.hid h0
  have H1 := Lib.hid h1
  have HB1 := Lib.hid hB1
  clear h0 h1 hB1
  generalize ((w.alloc (.cells #[.int .i64 o.kind, .string (briefT o.path), .string (briefT o.to), .int .i64 o.fd, .int .i64 o.n, .int .i64 o.off, .int .i64 o.flags, .slice A m3 cap] 36)).alloc (.cells #[.int .i64 0, .string { data := #[] }, .string { data := #[] }, .int .i64 0, .int .i64 0, .int .i64 0, .int .i64 0, .slice none 0 0] 36)).drew = w1 at *
  have x7 := H0.out.cell 7
  simp at x7
  have q7 := H0.out.frozen 7
  go_wp2_with fail
  refine (HCL.out _ HB1.out).mono ?_
  rintro e w2 ⟨A5, c5, rfl, hby, hown, hb2⟩
  clear x7 q7
  have HBY := Lib.hid hby
  have HOW := Lib.hid hown
  have HB2' := Lib.hid (HB1.out.trans (hb2.mono HB1.out.size))
  have H02 := Lib.hid (H0.out.below hb2 H0.out.lt)
  have H12 := Lib.hid (H1.out.below hb2 H1.out.lt)
  have HL1 := Lib.hid H1.out.lt
  clear hby hown hb2
  have y0 := H02.out.cell 0
  have z0 := H12.out.cell 0
  have p0 := H02.out.frozen 0
  have r0 := H12.out.frozen 0
  have y1 := H02.out.cell 1
  have z1 := H12.out.cell 1
  have p1 := H02.out.frozen 1
  have r1 := H12.out.frozen 1
  have y2 := H02.out.cell 2
  have z2 := H12.out.cell 2
  have p2 := H02.out.frozen 2
  have r2 := H12.out.frozen 2
  have y3 := H02.out.cell 3
  have z3 := H12.out.cell 3
  have p3 := H02.out.frozen 3
  have r3 := H12.out.frozen 3
  have y4 := H02.out.cell 4
  have z4 := H12.out.cell 4
  have p4 := H02.out.frozen 4
  have r4 := H12.out.frozen 4
  have y5 := H02.out.cell 5
  have z5 := H12.out.cell 5
  have p5 := H02.out.frozen 5
  have r5 := H12.out.frozen 5
  have y6 := H02.out.cell 6
  have z6 := H12.out.cell 6
  have p6 := H02.out.frozen 6
  have r6 := H12.out.frozen 6
  have y7 := H02.out.cell 7
  have z7 := H12.out.cell 7
  have p7 := H02.out.frozen 7
  have r7 := H12.out.frozen 7
  simp at y0 z0 y1 z1 y2 z2 y3 z3 y4 z4 y5 z5 y6 z6 y7 z7
  have hl2 := H02.out.lt
  have hl3 := H12.out.lt
  go_wp2_with fail
  refine bodyPost_ret (v := .agg #[.int .i64 o.kind, .string (briefT o.path), .string (briefT o.to), .int .i64 o.fd, .int .i64 o.n, .int .i64 o.off, .int .i64 o.flags, .slice A5 m3 c5]) (by simp [results, Tryz.results8, go_sem, z0, z1, z2, z3, z4, z5, z6, z7, hl2, hl3]) rfl ?_
  have hfd : (fewT o).data = o.data.take m3 := HFD.out.trans HM3.out.1
  have hfl : (fewT o).data.length = m3 := by rw [hfd, HM3.out.2]
  refine ⟨A5, c5, by rw [hfl]; rfl, ?_, ?_, (below_set (below_set (below_set (below_set (below_set (below_set (below_set (below_set (below_set HB2'.out (p := ⟨w.heap.size, 7, none⟩) (Nat.le_refl _) _) (p := ⟨w.heap.size + 1, 0, none⟩) (Nat.le_succ _) _) (p := ⟨w.heap.size + 1, 1, none⟩) (Nat.le_succ _) _) (p := ⟨w.heap.size + 1, 2, none⟩) (Nat.le_succ _) _) (p := ⟨w.heap.size + 1, 3, none⟩) (Nat.le_succ _) _) (p := ⟨w.heap.size + 1, 4, none⟩) (Nat.le_succ _) _) (p := ⟨w.heap.size + 1, 5, none⟩) (Nat.le_succ _) _) (p := ⟨w.heap.size + 1, 6, none⟩) (Nat.le_succ _) _) (p := ⟨w.heap.size + 1, 7, none⟩) (Nat.le_succ _) _)⟩
  ·rw [hfl, hfd]
   exact HBY.out.turn ((((((((((Turn.refl (fun j => j = w.heap.size ∨ j = w.heap.size + 1) w2).setCell (p := ⟨w.heap.size, 7, none⟩) (fun _ => .inl rfl) _).setCell (p := ⟨w.heap.size + 1, 0, none⟩) (fun _ => .inr rfl) _).setCell (p := ⟨w.heap.size + 1, 1, none⟩) (fun _ => .inr rfl) _).setCell (p := ⟨w.heap.size + 1, 2, none⟩) (fun _ => .inr rfl) _).setCell (p := ⟨w.heap.size + 1, 3, none⟩) (fun _ => .inr rfl) _).setCell (p := ⟨w.heap.size + 1, 4, none⟩) (fun _ => .inr rfl) _).setCell (p := ⟨w.heap.size + 1, 5, none⟩) (fun _ => .inr rfl) _).setCell (p := ⟨w.heap.size + 1, 6, none⟩) (fun _ => .inr rfl) _).setCell (p := ⟨w.heap.size + 1, 7, none⟩) (fun _ => .inr rfl) _) (fun j hj e => by
    have := HOW.out j hj
    have := HL1.out
    rcases e with e | e <;> omega)
  ·rw [hfl]
   exact fun j hj => by
    have := HOW.out j hj
    have := HL1.out
    omega
 ·have hb : ¬ ((o.data.length : Nat) : Int) ≤ 4096 := by omega
  have HFD := Lib.hid (show (fewT o).data = o.data from if_neg hbig)
  have HCL := Lib.hid (fun W (hb : Below w.heap.size w W) => bytes33_any (.slice A o.data.length cap) o.data W (HH.out W hb) hdl)
  clear hbig hcap
  go_enter Tryz.func8, Tryz.ntmps8
  go_upto_region 1 with (fail)
  go_region
  go_upto_region 4 with (fail)
  have h0 := ((Blk.new w 36 #[.int .i64 o.kind, .string (briefT o.path), .string (briefT o.to), .int .i64 o.fd, .int .i64 o.n, .int .i64 o.off, .int .i64 o.flags, .slice A o.data.length cap]).alloc (.cells #[.int .i64 0, .string { data := #[] }, .string { data := #[] }, .int .i64 0, .int .i64 0, .int .i64 0, .int .i64 0, .slice none 0 0] 36)).drew
  have h1 := (Blk.new (w.alloc (.cells #[.int .i64 o.kind, .string (briefT o.path), .string (briefT o.to), .int .i64 o.fd, .int .i64 o.n, .int .i64 o.off, .int .i64 o.flags, .slice A o.data.length cap] 36)) 36 #[.int .i64 0, .string { data := #[] }, .string { data := #[] }, .int .i64 0, .int .i64 0, .int .i64 0, .int .i64 0, .slice none 0 0]).drew
  rw [alloc_sz] at h1
  have hB1 : Below w.heap.size w ((w.alloc (.cells #[.int .i64 o.kind, .string (briefT o.path), .string (briefT o.to), .int .i64 o.fd, .int .i64 o.n, .int .i64 o.off, .int .i64 o.flags, .slice A o.data.length cap] 36)).alloc (.cells #[.int .i64 0, .string { data := #[] }, .string { data := #[] }, .int .i64 0, .int .i64 0, .int .i64 0, .int .i64 0, .slice none 0 0] 36)).drew := (below_00 w _ _).trans drew_below'
  have H0 := Lib.hid h0
  have H1 := Lib.hid h1
  have HB1 := Lib.hid hB1
  clear h0 h1 hB1
  generalize ((w.alloc (.cells #[.int .i64 o.kind, .string (briefT o.path), .string (briefT o.to), .int .i64 o.fd, .int .i64 o.n, .int .i64 o.off, .int .i64 o.flags, .slice A o.data.length cap] 36)).alloc (.cells #[.int .i64 0, .string { data := #[] }, .string { data := #[] }, .int .i64 0, .int .i64 0, .int .i64 0, .int .i64 0, .slice none 0 0] 36)).drew = w1 at *
  have x7 := H0.out.cell 7
  simp at x7
  have q7 := H0.out.frozen 7
  go_wp2_with fail
  refine (HCL.out _ HB1.out).mono ?_
  rintro e w2 ⟨A5, c5, rfl, hby, hown, hb2⟩
  clear x7 q7
  have HBY := Lib.hid hby
  have HOW := Lib.hid hown
  have HB2' := Lib.hid (HB1.out.trans (hb2.mono HB1.out.size))
  have H02 := Lib.hid (H0.out.below hb2 H0.out.lt)
  have H12 := Lib.hid (H1.out.below hb2 H1.out.lt)
  have HL1 := Lib.hid H1.out.lt
  clear hby hown hb2
  have y0 := H02.out.cell 0
  have z0 := H12.out.cell 0
  have p0 := H02.out.frozen 0
  have r0 := H12.out.frozen 0
  have y1 := H02.out.cell 1
  have z1 := H12.out.cell 1
  have p1 := H02.out.frozen 1
  have r1 := H12.out.frozen 1
  have y2 := H02.out.cell 2
  have z2 := H12.out.cell 2
  have p2 := H02.out.frozen 2
  have r2 := H12.out.frozen 2
  have y3 := H02.out.cell 3
  have z3 := H12.out.cell 3
  have p3 := H02.out.frozen 3
  have r3 := H12.out.frozen 3
  have y4 := H02.out.cell 4
  have z4 := H12.out.cell 4
  have p4 := H02.out.frozen 4
  have r4 := H12.out.frozen 4
  have y5 := H02.out.cell 5
  have z5 := H12.out.cell 5
  have p5 := H02.out.frozen 5
  have r5 := H12.out.frozen 5
  have y6 := H02.out.cell 6
  have z6 := H12.out.cell 6
  have p6 := H02.out.frozen 6
  have r6 := H12.out.frozen 6
  have y7 := H02.out.cell 7
  have z7 := H12.out.cell 7
  have p7 := H02.out.frozen 7
  have r7 := H12.out.frozen 7
  simp at y0 z0 y1 z1 y2 z2 y3 z3 y4 z4 y5 z5 y6 z6 y7 z7
  have hl2 := H02.out.lt
  have hl3 := H12.out.lt
  go_wp2_with fail
  refine bodyPost_ret (v := .agg #[.int .i64 o.kind, .string (briefT o.path), .string (briefT o.to), .int .i64 o.fd, .int .i64 o.n, .int .i64 o.off, .int .i64 o.flags, .slice A5 o.data.length c5]) (by simp [results, Tryz.results8, go_sem, z0, z1, z2, z3, z4, z5, z6, z7, hl2, hl3]) rfl ?_
  have hfd : (fewT o).data = o.data := HFD.out
  have hfl : (fewT o).data.length = o.data.length := by rw [hfd]
  refine ⟨A5, c5, by rw [hfl]; rfl, ?_, ?_, (below_set (below_set (below_set (below_set (below_set (below_set (below_set (below_set (below_set HB2'.out (p := ⟨w.heap.size, 7, none⟩) (Nat.le_refl _) _) (p := ⟨w.heap.size + 1, 0, none⟩) (Nat.le_succ _) _) (p := ⟨w.heap.size + 1, 1, none⟩) (Nat.le_succ _) _) (p := ⟨w.heap.size + 1, 2, none⟩) (Nat.le_succ _) _) (p := ⟨w.heap.size + 1, 3, none⟩) (Nat.le_succ _) _) (p := ⟨w.heap.size + 1, 4, none⟩) (Nat.le_succ _) _) (p := ⟨w.heap.size + 1, 5, none⟩) (Nat.le_succ _) _) (p := ⟨w.heap.size + 1, 6, none⟩) (Nat.le_succ _) _) (p := ⟨w.heap.size + 1, 7, none⟩) (Nat.le_succ _) _)⟩
  ·rw [hfl, hfd]
   exact HBY.out.turn ((((((((((Turn.refl (fun j => j = w.heap.size ∨ j = w.heap.size + 1) w2).setCell (p := ⟨w.heap.size, 7, none⟩) (fun _ => .inl rfl) _).setCell (p := ⟨w.heap.size + 1, 0, none⟩) (fun _ => .inr rfl) _).setCell (p := ⟨w.heap.size + 1, 1, none⟩) (fun _ => .inr rfl) _).setCell (p := ⟨w.heap.size + 1, 2, none⟩) (fun _ => .inr rfl) _).setCell (p := ⟨w.heap.size + 1, 3, none⟩) (fun _ => .inr rfl) _).setCell (p := ⟨w.heap.size + 1, 4, none⟩) (fun _ => .inr rfl) _).setCell (p := ⟨w.heap.size + 1, 5, none⟩) (fun _ => .inr rfl) _).setCell (p := ⟨w.heap.size + 1, 6, none⟩) (fun _ => .inr rfl) _).setCell (p := ⟨w.heap.size + 1, 7, none⟩) (fun _ => .inr rfl) _) (fun j hj e => by
    have := HOW.out j hj
    have := HL1.out
    rcases e with e | e <;> omega)
  ·rw [hfl]
   exact fun j hj => by
    have := HOW.out j hj
    have := HL1.out
    omega
end Go.Proofs.YtpkhglfhpggceaaGreatDoor
namespace Go.Proofs.YtpkhglfhpggceaaGreatDoor
set_option maxRecDepth 100000
set_option maxHeartbeats 16000000
open Go.RowKit Go.Proofs.YtpkhglfhpggceaaGreatDoorW.PrintLast
set_option linter.unusedVariables false
set_option linter.unusedSimpArgs false
section
variable {F : Nat → Prop} {w w' : World} {t c : Nat} {M : TMem} {a : TS}
theorem TreeIs.look_ok (h : TreeIs F w t M c a) {k : Nat} (hb : k ≤ 1000000) :
  (Instr.lookup 68 (.map (some M.mb)) (.int .i64 (k : Int)) true).run Tryz.prog w = .ok (.tuple #[if (a.nd k).kind ≠ 0 then .pointer (some ⟨M.hp k, 0, none⟩) else .pointer none, .bool (decide ((a.nd k).kind ≠ 0))]) w := by
 have := h.map.look_ok Tryz.underlying68 (z := .pointer none) (Tryz.zeroValue71 w) (wfNat hb)
 rw [this]
 unfold nodeF
 by_cases e : (a.nd k).kind = 0
 ·simp [e]
 ·simp [e]
theorem clone_s (v : Value) (l : List UInt8) (w : World) (h : Bs w v l) (hl : l.length ≤ 100000) :
  Calls Tryz.prog 47 #[v] w fun e w' => ∃ A c, e = .returned (.slice A l.length c) ∧ Byt w' (.slice A l.length c) l ∧ (∀ j, (Value.slice A l.length c).ownBlock = some j → w.heap.size ≤ j) ∧ Below w.heap.size w w' :=
 (clone_any v l w h hl).mono fun e w' hx => by
  obtain ⟨r, rfl, h1, h2, h3⟩ := hx
  obtain ⟨A, c, rfl, -⟩ := h1.rd
  exact ⟨A, c, rfl, h1, h2, h3⟩
theorem step_append_ent {P : Program} {w : World} {ops : Array Oper} {o : Oper} {a : Act} {K : Act → World → Prop} {Q : Exit → Act → World → Prop} {E : Prop} (hgd : o.guard = none) (s x : Operand) (t : TypeId)
  (ho : o.op = .call { callee := .builtin .append, args := #[s, x], argTypes := #[t, t] })
  (base : Nat) (e : TypeId) (i : TypeInfo) (z : Value) (size bytes : Nat) (ht : P.underlying t = some (.slice e)) (hi : P.info? e = some i) (hz : i.zero = some z)
  (hsize : i.size = size) (hby : i.bytes = bytes) (hzs : z.cells.size = size) (hsz : 0 < size)
  (v : Value) (n : Nat) (xs : List Value) (hs : a.eval s = v) (hown : w.ownsRow base e size v n xs)
  (ad : Addr) (c : Nat) (news : List Value) (hx : a.eval x = .slice (some ad) 1 c) (hl : news.length = 1 * size) (hnews : ∀ j u, news[j]? = some u → w.cell? (ad.add j) = some u) (h1 : ∀ u ∈ news, u.oneCell' = true)
  (h63 : n + 1 ≤ maxLen) (hbytes : (n + 1) * bytes ≤ 140737488355328) (hbase : base ≤ w.heap.size)
  (h : ∀ g cap w', w'.ownsRow base e size (.slice (some ⟨g, 0, none⟩) (n + 1) cap) (n + 1) (xs ++ news) → w.grownBy w' v.ownBlock → K (a.put o.dst (.slice (some ⟨g, 0, none⟩) (n + 1) cap)) w') :
  if Region.wanted o (yielded ops a.tmps) = true then Oper.wp P o a w K Q else E := by
 have hw : Region.wanted o (yielded ops a.tmps) = true := by simp [Region.wanted, hgd]
 rw [if_pos hw]
 obtain ⟨v', w', hr, h2, h3, h4, h5⟩ := run_append_own_at (P := P) w base t o.type e i z size bytes ht hi hz hsize hby hzs hsz v n xs hown ad 1 c news hl hnews h1 h63 hbytes hbase
 rcases h2.2 with ⟨hv, h0⟩ | ⟨g, cap, cur, hv, hrest⟩
 ·omega
 ·subst hv
  unfold Oper.wp execOp
  simp only [ho, resolve, invoke, builtin, Sem.run_bind, Sem.run_pure, Result.andThen_ok, List.map_toArray, List.map_cons, List.map_nil, hs, hx, hr]
  exact h g cap w' h2 h3
theorem node_none (k : Nat) (w : World) (h : TreeIs F w t M c a) (hb : k ≤ 1000000) (hk : (a.nd k).kind = 0) :
  Calls Tryz.prog 16 #[.pointer (some ⟨t, 0, none⟩), .int .i64 (k : Nat)] w fun e w' => e = .returned (.tuple #[.agg #[.int .i64 0, .int .i64 0, .slice none 0 0, .slice none 0 0], .int .i64 5]) ∧ Below w.heap.size w w' := by
 have HT := Lib.hid h
 have hl0 := fun W (h : TreeIs F W t M c a) => h.look_ok hb
 have e1 : decide ((a.nd k).kind ≠ 0) = false := by simp [hk]
 simp only [e1] at hl0
 have hl1 := hl0 _ (h.below (below_0 w (.cells #[.int .i64 0, .int .i64 0, .slice none 0 0, .slice none 0 0] 48)))
 obtain ⟨t0, t1, t2⟩ := (h.below (below_0 w (.cells #[.int .i64 0, .int .i64 0, .slice none 0 0, .slice none 0 0] 48))).cells
 have hB := below_0 w (.cells #[.int .i64 0, .int .i64 0, .slice none 0 0, .slice none 0 0] 48)
 have hX := Blk.new w 48 #[.int .i64 0, .int .i64 0, .slice none 0 0, .slice none 0 0]
 have hXF := hX
 have hwl : w.heap.size < (w.alloc (.cells #[.int .i64 0, .int .i64 0, .slice none 0 0, .slice none 0 0] 48)).heap.size := hX.lt
 have HB := Lib.hid hB
 have HX := Lib.hid hX
 clear h hl0 hB hX hXF
 go_enter Tryz.func16, Tryz.ntmps16
 go_upto_region 1 with (fail)
 generalize w.alloc (.cells #[.int .i64 0, .int .i64 0, .slice none 0 0, .slice none 0 0] 48) = w1 at *
 have x0 := HX.out.cell 0
 have x1 := HX.out.cell 1
 have x2 := HX.out.cell 2
 have x3 := HX.out.cell 3
 have q0 := HX.out.frozen 0
 have q1 := HX.out.frozen 1
 have q2 := HX.out.frozen 2
 have q3 := HX.out.frozen 3
 simp at x0 x1 x2 x3
 go_wp2_with fail
 refine bodyPost_ret (v := .tuple #[.agg #[.int .i64 0, .int .i64 0, .slice none 0 0, .slice none 0 0], .int .i64 5]) (by simp [results, Tryz.results16, go_sem, x0, x1, x2, x3, hwl]) rfl ⟨rfl, ?_⟩
 exact below_set (below_set (below_set (below_set HB.out (p := ⟨w.heap.size, 0, none⟩) (Nat.le_refl _) _) (p := ⟨w.heap.size, 1, none⟩) (Nat.le_refl _) _) (p := ⟨w.heap.size, 2, none⟩) (Nat.le_refl _) _) (p := ⟨w.heap.size, 3, none⟩) (Nat.le_refl _) _
theorem node_live (k : Nat) (w : World) (h : TreeIs F w t M c a) (hg : Good a c) (hc : c ≤ 100000) (hk : (a.nd k).kind ≠ 0) :
  Calls Tryz.prog 16 #[.pointer (some ⟨t, 0, none⟩), .int .i64 (k : Nat)] w fun e w' => ∃ A1 c1 v, e = .returned (.tuple #[.agg #[.int .i64 (a.nd k).kind, .int .i64 (a.nd k).links, .slice A1 (a.nd k).data.length c1, v], .int .i64 0]) ∧
   Byt w' (.slice A1 (a.nd k).data.length c1) (a.nd k).data ∧ Ent w' v (a.nd k).names ∧ Below w.heap.size w w' := by
 have HT := Lib.hid h
 have HH := Lib.hid (fun W (hb : Below w.heap.size w W) => h.below hb)
 obtain ⟨i0, hi0, hz0, hz1, hz2⟩ := info_parts info52
 have HLV := Lib.hid hk
 have hlast := (hg.in_last hk).2
 have hfew := hg.few
 have hdl := hg.data k
 have hlen := hg.len k
 have hidb : k ≤ 1000000 := by omega
 obtain ⟨A1, c1, hdv⟩ : ∃ A1 c1, M.dv k = .slice A1 (a.nd k).data.length c1 := by
  obtain ⟨A1, c1, e, _⟩ := (h.node k hk).2.1.rd
  exact ⟨A1, c1, e⟩
 have HDV := Lib.hid hdv
 have HK : Hid (∀ W, TreeIs F W t M c a → W.cell? ⟨M.hp k, 0, none⟩ = some (.int .i64 (a.nd k).kind) ∧ W.cell? ⟨M.hp k, 1, none⟩ = some (.int .i64 (a.nd k).links) ∧ W.cell? ⟨M.hp k, 2, none⟩ = some (.slice A1 (a.nd k).data.length c1)) := Lib.hid fun W h => by
  obtain ⟨n0, n1, n2, n3⟩ := h.ncells HLV.out
  rw [HDV.out] at n2
  exact ⟨n0, n1, n2⟩
 have HC := Lib.hid (fun W (h : TreeIs F W t M c a) => clone_s (.slice A1 (a.nd k).data.length c1) (a.nd k).data W (by have := (h.node k HLV.out).2.1.bs; rw [HDV.out] at this; exact this) (by omega))
 have HLN : Hid ((a.nd k).names.length ≤ 1000000) := Lib.hid (by omega)
 have hl0 := fun W (h : TreeIs F W t M c a) => h.look_ok hidb
 have e1 : decide ((a.nd k).kind ≠ 0) = true := by simp [hk]
 have hl1 := hl0 _ (h.below (below_0 w (.cells #[.int .i64 0, .int .i64 0, .slice none 0 0, .slice none 0 0] 48)))
 rw [e1, if_pos hk] at hl1
 obtain ⟨t0, t1, t2⟩ := (h.below (below_0 w (.cells #[.int .i64 0, .int .i64 0, .slice none 0 0, .slice none 0 0] 48))).cells
 have HB1 := Lib.hid (below_0 w (.cells #[.int .i64 0, .int .i64 0, .slice none 0 0, .slice none 0 0] 48))
 have HZ1 := Lib.hid (Blk.new w 48 #[.int .i64 0, .int .i64 0, .slice none 0 0, .slice none 0 0])
 have HT1 := Lib.hid (HH.out _ HB1.out)
 clear h hg hk hl0 hdv e1
 go_enter Tryz.func16, Tryz.ntmps16
 go_upto_region 1 with (fail)
 generalize w.alloc (.cells #[.int .i64 0, .int .i64 0, .slice none 0 0, .slice none 0 0] 48) = w1 at *
 go_upto_region 6 with (fail)
 clear t0 t1 t2 hl1
 have hT := HT1.out.drew
 have hB : Below w.heap.size w w1.drew := HB1.out.trans drew_below'
 have hZ := HZ1.out.drew
 have hZ0 := hZ
 refine start_ (n := 16) (S := fun w' => w'.cell? ⟨M.hp k, 0, none⟩ = some (.int .i64 (a.nd k).kind) ∧ w'.cell? ⟨M.hp k, 1, none⟩ = some (.int .i64 (a.nd k).links) ∧ w'.cell? ⟨M.hp k, 2, none⟩ = some (.slice A1 (a.nd k).data.length c1)) (ds := [15]) (bs 16 0) (by kernel_rfl) rfl rfl ⟨(HK.out _ hT).1, (HK.out _ hT).2.1, (HK.out _ hT).2.2⟩ (fun hHeld => ?_)
 refine py_ 0 26 (bs 16 1) rfl rfl (by kernel_rfl) (fun _ _ _ h => h) (by rfl) (fun w' => by go_simp; with_reducible rfl) (by simp only [Act.put, sA, sZ, sS, i64_w, i32_w]; rfl) ?_
 refine py_ 1 27 (bs 16 3) rfl rfl (by kernel_rfl) (fun _ _ _ h => h) (by rfl) (fun w' => by go_simp; with_reducible rfl) (by simp only [Act.put, sA, sZ, sS, i64_w, i32_w]; rfl) ?_
 refine py_ 2 28 (bs 16 7) rfl rfl (by kernel_rfl) (fun _ _ _ h => h) (by rfl) (fun w' => by go_simp; with_reducible rfl) (by simp only [Act.put, sA, sZ, sS, i64_w, i32_w]; rfl) ?_
 refine py_ 4 30 (bs 16 23) rfl rfl (by kernel_rfl) (fun _ _ _ h => h) (by rfl) (fun w' => by go_simp; with_reducible rfl) (by simp only [Act.put, sA, sZ, sS, i64_w, i32_w]; rfl) ?_
 refine py_ 5 31 (bs 16 55) rfl rfl (by kernel_rfl) (fun _ _ _ h => h) (by rfl) (fun w' => by go_simp; with_reducible rfl) (by simp only [Act.put, sA, sZ, sS, i64_w, i32_w]; rfl) ?_
 refine py_ 6 32 (bs 16 119) rfl rfl (by kernel_rfl) (fun _ _ _ h => h) (by rfl) (fun w' => by go_simp; with_reducible rfl) (by simp only [Act.put, sA, sZ, sS, i64_w, i32_w]; rfl) ?_
 refine py_ 8 34 (bs 16 375) rfl rfl (by kernel_rfl) (fun _ _ _ h => h) (by rfl) (fun w' => by go_simp; with_reducible rfl) (by simp only [Act.put, sA, sZ, sS, i64_w, i32_w]; rfl) ?_
 refine py_ 9 35 (bs 16 887) rfl rfl (by kernel_rfl) (fun _ _ _ h => h) (by rfl) (fun w' => by go_simp; with_reducible rfl) (by simp only [Act.put, sA, sZ, sS, i64_w, i32_w]; rfl) ?_
 refine py_ 10 36 (bs 16 1911) rfl rfl (by kernel_rfl) (fun _ _ _ h => h) (by rfl) (fun w' => by go_simp; with_reducible rfl) (by simp only [Act.put, sA, sZ, sS, i64_w, i32_w]; rfl) ?_
 refine ty_ 3 29 (bs 16 1919) rfl rfl (by kernel_rfl) (fun _ _ _ h => h) (by rfl) (by rintro w' ⟨s0, s1, s2⟩; go_simp; with_reducible rfl) hHeld (by simp only [Act.put, sA, sZ, sS, i64_w, i32_w]; rfl) ?_
 refine ty_ 7 33 (bs 16 2047) rfl rfl (by kernel_rfl) (fun _ _ _ h => h) (by rfl) (by rintro w' ⟨s0, s1, s2⟩; go_simp; with_reducible rfl) hHeld (by simp only [Act.put, sA, sZ, sS, i64_w, i32_w]; rfl) ?_
 refine ty_ 11 37 (bs 16 4095) rfl rfl (by kernel_rfl) (fun _ _ _ h => h) (by rfl) (by rintro w' ⟨s0, s1, s2⟩; go_simp; with_reducible rfl) hHeld (by simp only [Act.put, sA, sZ, sS, i64_w, i32_w]; rfl) ?_
 refine join_ (σ := Option Addr × Nat × Nat) 1 (bs 16 32767) (fun s => [(38, Value.slice s.1 (a.nd k).data.length s.2.1), (39, Value.agg #[.int .i64 (a.nd k).kind, .int .i64 (a.nd k).links, .slice s.1 (a.nd k).data.length s.2.1, .slice none 0 0]), (8, Value.pointer (some ⟨s.2.2, 0, none⟩))]) (fun s w' => TreeIs F w' t M c a ∧ Below w.heap.size w w' ∧ Blk w' s.2.2 48 #[.int .i64 0, .int .i64 0, .slice none 0 0, .slice none 0 0] ∧ Blk w' w.heap.size 48 #[.int .i64 0, .int .i64 0, .slice none 0 0, .slice none 0 0] ∧ Byt w' (.slice s.1 (a.nd k).data.length s.2.1) (a.nd k).data ∧ (∀ j, (Value.slice s.1 (a.nd k).data.length s.2.1).ownBlock = some j → w.heap.size < j) ∧ w.heap.size < s.2.2) ?_ ?_
 rotate_left
 ·intro hCont
  refine two_ (i := 12) (j := 14) (Ni := some 38) (Nj := some 8) (bs 16 8191) (bs 16 20479) rfl rfl rfl rfl (by kernel_rfl) (by decide) (by decide) (fun K hK => ?_) (fun K hK => ?_)
  ·skip
   refine goes_ Tryz.func47 (by kernel_rfl) rfl #[.slice A1 (a.nd k).data.length c1] (by rfl) rfl rfl (by simp only [List.map_toArray, List.map_cons, List.map_nil]; rfl) ?_
   with_reducible refine ((HC.out _ hT)).mono ?_
   rintro e w3 ⟨A5, c5, rfl, hby, hown, hb3⟩
   refine ⟨_, rfl, ?_⟩
   have hT := hT.below hb3
   have hZ := hZ.below hb3 hZ.lt
   have hso := fun j hj => Nat.le_trans hB.size (hown j hj)
   have hsz3 := fun j hj => Nat.lt_of_lt_of_le hZ0.lt (hown j hj)
   have hB := hB.trans (hb3.mono hB.size)
   clear hb3
   refine hK.out _ _ ⟨(HK.out _ hT).1, (HK.out _ hT).2.1, (HK.out _ hT).2.2⟩ (fun hHeld => ?_)
   clear hK K
   refine norm_ (a' := ?_) ?_ ?_
   rotate_left
   ·show Act.put _ (some 38) _ = _
    simp only [Act.put, sA, sZ, sS, i64_w, i32_w]
    rfl
   refine py_ 13 39 (bs 16 16383) rfl rfl (by kernel_rfl) (fun _ _ _ h => h) (by rfl) (fun w' => by go_simp; with_reducible rfl) (by simp only [Act.put, sA, sZ, sS, i64_w, i32_w]; rfl) ?_
   refine one_ (i := 14) (N := some 8) (bs 16 32767) rfl rfl (by kernel_rfl) (by decide) (fun K hK => ?_)
   refine value_ (w1 := ?_) (v := ?_) (by rfl) rfl ?_ ?_
   rotate_left 2
   ·go_simp
    constructor
    ·rfl
    ·rfl
   have hX := Blk.new w3 48 #[.int .i64 0, .int .i64 0, .slice none 0 0, .slice none 0 0]
   have hs : w.heap.size < w3.heap.size := hZ.lt
   have hT := hT.below ((Below.refl _ _).alloc (Nat.le_refl _) (.cells #[.int .i64 0, .int .i64 0, .slice none 0 0, .slice none 0 0] 48))
   have hZ := hZ.alloc (.cells #[.int .i64 0, .int .i64 0, .slice none 0 0, .slice none 0 0] 48)
   have hB := hB.alloc hB.size (.cells #[.int .i64 0, .int .i64 0, .slice none 0 0, .slice none 0 0] 48)
   have hby := hby.below ((Below.refl _ _).alloc (Nat.le_refl _) (.cells #[.int .i64 0, .int .i64 0, .slice none 0 0, .slice none 0 0] 48))
   refine hK.out _ _ ⟨(HK.out _ hT).1, (HK.out _ hT).2.1, (HK.out _ hT).2.2⟩ (fun hHeld => ?_)
   clear hK K
   refine norm_ (a' := ?_) ?_ ?_
   rotate_left
   ·show Act.put _ (some 8) _ = _
    simp only [Act.put, sA, sZ, sS, i64_w, i32_w]
    rfl
   exact norm_ (by simp only [putAll, Act.put, sA, sZ, sS]) (hCont (A5, c5, w3.heap.size) _ ⟨hT, hB, hX, hZ, hby, hsz3, hs⟩)
  ·skip
   refine value_ (w1 := ?_) (v := ?_) (by rfl) rfl ?_ ?_
   rotate_left 2
   ·go_simp
    constructor
    ·rfl
    ·rfl
   have hX := (Blk.new w1 48 #[.int .i64 0, .int .i64 0, .slice none 0 0, .slice none 0 0]).drew
   have hs : w.heap.size < w1.heap.size := HZ1.out.lt
   have hT := (HT1.out.below ((Below.refl _ _).alloc (Nat.le_refl _) (.cells #[.int .i64 0, .int .i64 0, .slice none 0 0, .slice none 0 0] 48))).drew
   have hZ := (HZ1.out.alloc (.cells #[.int .i64 0, .int .i64 0, .slice none 0 0, .slice none 0 0] 48)).drew
   have hB : Below w.heap.size w (w1.alloc (.cells #[.int .i64 0, .int .i64 0, .slice none 0 0, .slice none 0 0] 48)).drew := (HB1.out.alloc HB1.out.size (.cells #[.int .i64 0, .int .i64 0, .slice none 0 0, .slice none 0 0] 48)).trans drew_below'
   have hZ0 := hZ
   refine hK.out _ _ ⟨(HK.out _ hT).1, (HK.out _ hT).2.1, (HK.out _ hT).2.2⟩ (fun hHeld => ?_)
   clear hK K
   refine norm_ (a' := ?_) ?_ ?_
   rotate_left
   ·show Act.put _ (some 8) _ = _
    simp only [Act.put, sA, sZ, sS, i64_w, i32_w]
    rfl
   refine one_ (i := 12) (N := some 38) (bs 16 24575) rfl rfl (by kernel_rfl) (by decide) (fun K hK => ?_)
   refine goes_ Tryz.func47 (by kernel_rfl) rfl #[.slice A1 (a.nd k).data.length c1] (by rfl) rfl rfl (by simp only [List.map_toArray, List.map_cons, List.map_nil]; rfl) ?_
   with_reducible refine ((HC.out _ hT)).mono ?_
   rintro e w3 ⟨A5, c5, rfl, hby, hown, hb3⟩
   refine ⟨_, rfl, ?_⟩
   have hT := hT.below hb3
   have hZ := hZ.below hb3 hZ.lt
   have hso := fun j hj => Nat.le_trans hB.size (hown j hj)
   have hsz3 := fun j hj => Nat.lt_of_lt_of_le hZ0.lt (hown j hj)
   have hX := hX.below hb3 hX.lt
   have hB := hB.trans (hb3.mono hB.size)
   clear hb3
   refine hK.out _ _ ⟨(HK.out _ hT).1, (HK.out _ hT).2.1, (HK.out _ hT).2.2⟩ (fun hHeld => ?_)
   clear hK K
   refine norm_ (a' := ?_) ?_ ?_
   rotate_left
   ·show Act.put _ (some 38) _ = _
    simp only [Act.put, sA, sZ, sS, i64_w, i32_w]
    rfl
   refine py_ 13 39 (bs 16 32767) rfl rfl (by kernel_rfl) (fun _ _ _ h => h) (by rfl) (fun w' => by go_simp; with_reducible rfl) (by simp only [Act.put, sA, sZ, sS, i64_w, i32_w]; rfl) ?_
   exact norm_ (by simp only [putAll, Act.put, sA, sZ, sS]) (hCont (A5, c5, w1.heap.size) _ ⟨hT, hB, hX, hZ, hby, hsz3, hs⟩)
 rintro ⟨A5, c5, s⟩ w3 ⟨hT, hB, hX, hZ, hby, hso, hs⟩
 have hHeld := HK.out _ hT
 refine norm_ (a' := ?_) ?_ ?_
 rotate_left
 ·simp only [putAll, Act.put, sA, sZ, sS]
  rfl
 refine last_ (i := 15) (N := none) (bs 16 65535) rfl rfl (by kernel_rfl) (by decide) (fun K hK => ?_)
 have x0 := hX.cell 0
 have x1 := hX.cell 1
 have x2 := hX.cell 2
 have x3 := hX.cell 3
 have q0 := hX.frozen 0
 have q1 := hX.frozen 1
 have q2 := hX.frozen 2
 have q3 := hX.frozen 3
 simp at x0 x1 x2 x3
 refine skip_ (w1 := ?_) (by rfl) rfl ?_ ?_
 rotate_left
 ·go_simp
  rfl
 refine hK.out _ _ ?_
 clear hK K
 refine done_ (by kernel_rfl) ?_
 have hX4 : Blk ((((w3.setCell ⟨s, 0, none⟩ (.int .i64 (a.nd k).kind)).setCell ⟨s, 1, none⟩ (.int .i64 (a.nd k).links)).setCell ⟨s, 2, none⟩ (.slice A5 (a.nd k).data.length c5)).setCell ⟨s, 3, none⟩ (.slice none 0 0)) s 48 #[.int .i64 (a.nd k).kind, .int .i64 (a.nd k).links, .slice A5 (a.nd k).data.length c5, .slice none 0 0] := (((hX.set_ 0 _).set_ 1 _).set_ 2 _).set_ 3 _
 have hTs : Turn (· = s) w3 ((((w3.setCell ⟨s, 0, none⟩ (.int .i64 (a.nd k).kind)).setCell ⟨s, 1, none⟩ (.int .i64 (a.nd k).links)).setCell ⟨s, 2, none⟩ (.slice A5 (a.nd k).data.length c5)).setCell ⟨s, 3, none⟩ (.slice none 0 0)) :=
  ((((Turn.refl (· = s) w3).setCell (p := ⟨s, 0, none⟩) (fun _ => rfl) _).setCell (p := ⟨s, 1, none⟩) (fun _ => rfl) _).setCell (p := ⟨s, 2, none⟩) (fun _ => rfl) _).setCell (p := ⟨s, 3, none⟩) (fun _ => rfl) _
 have hB4 := below_set (below_set (below_set (below_set hB (p := ⟨s, 0, none⟩) (Nat.le_of_lt hs) (.int .i64 (a.nd k).kind)) (p := ⟨s, 1, none⟩) (Nat.le_of_lt hs) (.int .i64 (a.nd k).links)) (p := ⟨s, 2, none⟩) (Nat.le_of_lt hs) (.slice A5 (a.nd k).data.length c5)) (p := ⟨s, 3, none⟩) (Nat.le_of_lt hs) (.slice none 0 0)
 have hby4 := hby.turn hTs (fun j hj e => by
  obtain ⟨cs, hc5⟩ := hby.type j hj
  exact hc5.ne_ hX (by decide) e)
 have hZ4 := hZ.turn hTs (Nat.ne_of_lt hs)
 have HX4 := Lib.hid hX4
 have HB4 := Lib.hid hB4
 have HBY4 := Lib.hid hby4
 have HZ4 := Lib.hid hZ4
 have HS := Lib.hid hs
 have HSO := Lib.hid hso
 clear hX4 hTs hB4 hby4 hZ4 hX hB hZ hby hT hs hso hHeld hZ0 x0 x1 x2 x3 q0 q1 q2 q3
 generalize (((w3.setCell ⟨s, 0, none⟩ (.int .i64 (a.nd k).kind)).setCell ⟨s, 1, none⟩ (.int .i64 (a.nd k).links)).setCell ⟨s, 2, none⟩ (.slice A5 (a.nd k).data.length c5)).setCell ⟨s, 3, none⟩ (.slice none 0 0) = w4 at *
 have HT4 := Lib.hid (HH.out _ HB4.out)
 obtain ⟨n0, n1, n2, n3⟩ := HT4.out.ncells HLV.out
 go_wp2_with fail
 refine (keys_any _ _).mono ?_
 rintro e w5 ⟨rfl, rfl⟩
 go_wp2_with fail
 refine (sorted_any (M.nb k) c (a.nd k).names _ (HT4.out.node k HLV.out).2.2.1 HLN.out).mono ?_
 rintro e w7 ⟨v, rfl, hv, hb7⟩
 clear n0 n1 n2 n3
 obtain ⟨A6, c6, rfl, hv2⟩ := hv
 have HV := Lib.hid (show Texts w4.heap.size w7 (.slice A6 ((a.nd k).names.map (·.1)).length c6) ((a.nd k).names.map (·.1)) from ⟨A6, c6, rfl, hv2⟩)
 have HB7 := Lib.hid (HB4.out.trans (hb7.mono HB4.out.size))
 have HX7 := Lib.hid (HX4.out.below hb7 HX4.out.lt)
 have HZ7 := Lib.hid (HZ4.out.below hb7 HZ4.out.lt)
 have HBY7 := Lib.hid (HBY4.out.below hb7)
 have HSL := Lib.hid HX4.out.lt
 have HML := Lib.hid (show ((a.nd k).names.map (·.1)).length = (a.nd k).names.length from List.length_map _)
 rw [HML.out] at HV ⊢
 clear hv2 hb7
 have HNM := Lib.hid (show ∀ W, Below w.heap.size w W → ∀ (j : Nat) (p : ByteArray × Nat), (a.nd k).names[j]? = some p → (Instr.lookup 72 (.map (some (M.nb k))) (.string p.1) false).run Tryz.prog W = .ok (.int .i64 (p.2 : Nat)) W from fun W hW j p hp => by
  have hm := ((HH.out _ hW).node k HLV.out).2.2.1
  have hpm := List.mem_of_getElem? hp
  have := hm.look Tryz.underlying72 (s := p.1) (hm.2.2.1 p hpm)
  rw [findL_mem hm.1 hpm] at this
  exact this)
 have HN3 := Lib.hid (show ∀ W, Below w.heap.size w W → W.cell? ⟨M.hp k, 3, none⟩ = some (.map (some (M.nb k))) from fun W hW => ((HH.out _ hW).ncells HLV.out).2.2.2)
 have hll := HLN.out
 have HEQ := Lib.hid (show (a.nd k).names = (a.nd k).names from rfl)
 generalize hnl : (a.nd k).names = l at *
 go_wp2_with fail
 go_loopw [47] (fun i wr => ∃ (j : Nat) (ev : Value), j ≤ l.length ∧ i = .int .i64 (j : Nat) ∧ Turn (· = s) w7 wr ∧ Below w.heap.size w wr ∧ Blk wr s 48 #[.int .i64 (a.nd k).kind, .int .i64 (a.nd k).links, .slice A5 (a.nd k).data.length c5, ev] ∧ wr.ownsRow w7.heap.size 52 2 ev j (entsC (l.take j))) (fun i _ => l.length - (intOf i).toNat)
 case atStart => exact ⟨0, _, Nat.zero_le _, rfl, Turn.refl _ _, HB7.out, HX7.out, World.ownsRow_nil _ _ _ _⟩
 case round =>
  obtain ⟨j, ev, hj, rfl, hT, hB, hX, hO⟩ := hrel
  have HT8 := Lib.hid hT
  have HB8 := Lib.hid hB
  have HX8 := Lib.hid hX
  have HO8 := Lib.hid hO
  clear hT hB hX hO
  by_cases hlt : j < l.length
  ·obtain ⟨p, hp⟩ : ∃ p, l[j]? = some p := ⟨l[j], List.getElem?_eq_getElem hlt⟩
   have HP := Lib.hid hp
   obtain ⟨A', c', e, _, _, hget⟩ := HV.out.turn HT8.out (fun i hi e => by have := HSL.out; have e : i = s := e; omega)
   injection e with e1 e2 e3
   subst e1
   obtain ⟨g, og, rfl, _, _, hcell⟩ := hget j p.1 (by rw [List.getElem?_map, hp]; rfl)
   have hji : ((j : Nat) : Int) < ((l.length : Nat) : Int) := by omega
   clear hget e2 e3 hp
   go_upto_region 10 with (fail)
   clear hcell
   have x3 := HX8.out.drew.cell 3
   simp at x3
   have q3 := HX8.out.drew.frozen 3
   have hBd : Below w.heap.size w wr.drew := HB8.out.trans drew_below'
   have n3 := HN3.out _ hBd
   have hlk := HNM.out _ hBd j p HP.out
   have HOd := Lib.hid (show wr.drew.ownsRow w7.heap.size 52 2 ev j (entsC (l.take j)) from HO8.out)
   have HTd := Lib.hid (HT8.out.drew)
   have HBd := Lib.hid hBd
   have HXd := Lib.hid HX8.out.drew
   clear hBd
   have hs7 : s < w7.heap.size := HX7.out.lt
   have HKK : Hid (∀ W, Below w7.heap.size wr.drew W → W.cell? ⟨s, 3, none⟩ = some ev ∧ W.cell? ⟨M.hp k, 3, none⟩ = some (.map (some (M.nb k))) ∧ (Instr.lookup 72 (.map (some (M.nb k))) (.string p.1) false).run Tryz.prog W = .ok (.int .i64 (p.2 : Nat)) W ∧ W.frozen? ⟨s, 3, none⟩ = false ∧ Blk W s 48 #[.int .i64 (a.nd k).kind, .int .i64 (a.nd k).links, .slice A5 (a.nd k).data.length c5, ev]) := Lib.hid fun W hb => by
    have hX := HXd.out.keep (w' := W) (hb.block s hs7)
    have hW : Below w.heap.size w W := HBd.out.trans (hb.mono HB7.out.size)
    have h3 := hX.cell 3
    exact ⟨by simpa using h3, HN3.out _ hW, HNM.out _ hW j p HP.out, hX.frozen 3, hX⟩
   clear x3 q3 n3 hlk
   have hB : Below w7.heap.size wr.drew wr.drew := Below.refl _ _
   refine start_ (n := 14) (S := fun w' => w'.cell? ⟨s, 3, none⟩ = some ev ∧ w'.cell? ⟨M.hp k, 3, none⟩ = some (.map (some (M.nb k))) ∧ (Instr.lookup 72 (.map (some (M.nb k))) (.string p.1) false).run Tryz.prog w' = .ok (.int .i64 (p.2 : Nat)) w') (ds := [13]) (bs 14 0) (by kernel_rfl) rfl rfl ⟨(HKK.out _ hB).1, (HKK.out _ hB).2.1, (HKK.out _ hB).2.2.1⟩ (fun hHeld => ?_)
   refine py_ 0 51 (bs 14 1) rfl rfl (by kernel_rfl) (fun _ _ _ h => h) (by rfl) (fun w' => by go_simp; with_reducible rfl) (by simp only [Act.put, sA, sZ, sS, i64_w, i32_w]; rfl) ?_
   refine py_ 2 53 (bs 14 5) rfl rfl (by kernel_rfl) (fun _ _ _ h => h) (by rfl) (fun w' => by go_simp; with_reducible rfl) (by simp only [Act.put, sA, sZ, sS, i64_w, i32_w]; rfl) ?_
   refine py_ 3 54 (bs 14 13) rfl rfl (by kernel_rfl) (fun _ _ _ h => h) (by rfl) (fun w' => by go_simp; with_reducible rfl) (by simp only [Act.put, sA, sZ, sS, i64_w, i32_w]; rfl) ?_
   refine py_ 4 55 (bs 14 29) rfl rfl (by kernel_rfl) (fun _ _ _ h => h) (by rfl) (fun w' => by go_simp; with_reducible rfl) (by simp only [Act.put, sA, sZ, sS, i64_w, i32_w]; rfl) ?_
   refine py_ 6 57 (bs 14 93) rfl rfl (by kernel_rfl) (fun _ _ _ h => h) (by rfl) (fun w' => by go_simp; with_reducible rfl) (by simp only [Act.put, sA, sZ, sS, i64_w, i32_w]; rfl) ?_
   refine py_ 8 59 (bs 14 349) rfl rfl (by kernel_rfl) (fun _ _ _ h => h) (by rfl) (fun w' => by go_simp; with_reducible rfl) (by simp only [Act.put, sA, sZ, sS, i64_w, i32_w]; rfl) ?_
   refine ty_ 1 52 (bs 14 351) rfl rfl (by kernel_rfl) (fun _ _ _ h => h) (by rfl) (by rintro w' ⟨s0, s1, s2⟩; go_simp; with_reducible rfl) hHeld (by simp only [Act.put, sA, sZ, sS, i64_w, i32_w]; rfl) ?_
   refine ty_ 5 56 (bs 14 383) rfl rfl (by kernel_rfl) (fun _ _ _ h => h) (by rfl) (by rintro w' ⟨s0, s1, s2⟩; go_simp; with_reducible rfl) hHeld (by simp only [Act.put, sA, sZ, sS, i64_w, i32_w]; rfl) ?_
   refine ty_ 7 58 (bs 14 511) rfl rfl (by kernel_rfl) (fun _ _ _ h => h) (by rfl) (by rintro w' ⟨s0, s1, s2⟩; go_simp; with_reducible rfl) hHeld (by simp only [Act.put, sA, sZ, sS, i64_w, i32_w]; rfl) ?_
   refine py_ 9 60 (bs 14 1023) rfl rfl (by kernel_rfl) (fun _ _ _ h => h) (by rfl) (fun w' => by go_simp; with_reducible rfl) (by simp only [Act.put, sA, sZ, sS, i64_w, i32_w]; rfl) ?_
   refine one_ (i := 10) (N := some 61) (bs 14 2047) rfl rfl (by kernel_rfl) (by decide) (fun K hK => ?_)
   refine value_ (w1 := ?_) (v := ?_) (by rfl) rfl ?_ ?_
   rotate_left 2
   ·go_simp
    constructor
    ·rfl
    ·rfl
   have hne := two_new wr.drew 52 (.int .i64 (p.2 : Nat)) (.string p.1)
   have hO := HOd.out.alloc (.cells #[.int .i64 (p.2 : Nat), .string p.1] 52)
   have hB : Below w7.heap.size wr.drew (wr.drew.alloc (.cells #[.int .i64 (p.2 : Nat), .string p.1] 52)) := (Below.refl _ _).alloc HTd.out.size _
   refine hK.out _ _ ⟨(HKK.out _ hB).1, (HKK.out _ hB).2.1, (HKK.out _ hB).2.2.1⟩ (fun hHeld => ?_)
   clear hK K
   refine norm_ (a' := ?_) ?_ ?_
   rotate_left
   ·show Act.put _ (some 61) _ = _
    simp only [Act.put, sA, sZ, sS, i64_w, i32_w]
    rfl
   refine one_ (i := 11) (N := some 62) (bs 14 4095) rfl rfl (by kernel_rfl) (by decide) (fun K hK => ?_)
   refine step_append_ent rfl (.tmp 52) (.tmp 61) 46 rfl w7.heap.size 52 i0 (.agg #[.int .i64 0, .string ByteArray.empty]) 2 24 Tryz.underlying46 hi0 hz0 hz1 hz2 rfl (by decide) ev j (entsC (l.take j)) rfl hO ⟨wr.drew.heap.size, 0, none⟩ 1 [.int .i64 (p.2 : Nat), .string p.1] rfl rfl hne (by simp [Value.oneCell']) (by simp only [maxLen]; omega) (by omega) (Nat.le_trans HTd.out.size hB.size) ?_
   intro g9 cap9 w9 hO9 hg9
   have hB := hB.grown hg9 (Nat.le_trans HTd.out.size hB.size) (fun i hi => (hO.lt i hi).1)
   clear hO hg9 hne
   refine hK.out _ _ ⟨(HKK.out _ hB).1, (HKK.out _ hB).2.1, (HKK.out _ hB).2.2.1⟩ (fun hHeld => ?_)
   clear hK K
   refine norm_ (a' := ?_) ?_ ?_
   rotate_left
   ·show Act.put _ (some 62) _ = _
    simp only [Act.put, sA, sZ, sS, i64_w, i32_w]
    rfl
   refine py_ 12 63 (bs 14 8191) rfl rfl (by kernel_rfl) (fun _ _ _ h => h) (by rfl) (fun w' => by go_simp; with_reducible rfl) (by simp only [Act.put, sA, sZ, sS, i64_w, i32_w]; rfl) ?_
   refine last_ (i := 13) (N := none) (bs 14 16383) rfl rfl (by kernel_rfl) (by decide) (fun K hK => ?_)
   have hcw := (HKK.out _ hB).1
   have hfz := (HKK.out _ hB).2.2.2.1
   refine skip_ (w1 := ?_) (by rfl) rfl ?_ ?_
   rotate_left
   ·go_simp
    rfl
   refine hK.out _ _ ?_
   clear hK K
   refine done_ (by kernel_rfl) ?_
   have hX9 := ((HKK.out _ hB).2.2.2.2).set_ 3 (.slice (some ⟨g9, 0, none⟩) (j + 1) cap9)
   have hO10 := ownsRow_setCell_below hO9 (a := ⟨s, 3, none⟩) hs7 (.slice (some ⟨g9, 0, none⟩) (j + 1) cap9)
   have hT9 : Turn (· = s) w7 w9 := ⟨hB.os.trans HTd.out.os, hB.tape.trans HTd.out.tape, hB.output.trans HTd.out.output, Nat.le_trans HTd.out.size hB.size, fun i hi hne => (hB.block i hi).trans (HTd.out.block i hi hne)⟩
   have hT10 := hT9.setCell (p := ⟨s, 3, none⟩) (fun _ => rfl) (.slice (some ⟨g9, 0, none⟩) (j + 1) cap9)
   have hB10 := below_set (HBd.out.trans (hB.mono HB7.out.size)) (p := ⟨s, 3, none⟩) (Nat.le_of_lt HS.out) (.slice (some ⟨g9, 0, none⟩) (j + 1) cap9)
   have HR := Lib.hid (And.intro hT10 (And.intro hB10 (And.intro hX9 hO10)))
   have HTK := Lib.hid (show entsC (l.take (j + 1)) = entsC (l.take j) ++ [.int .i64 (p.2 : Nat), .string p.1] by rw [take_one HP.out, entsC_app, entsC_one])
   clear hX9 hO10 hT9 hT10 hB10 hO9 hB hHeld
   generalize w9.setCell ⟨s, 3, none⟩ (.slice (some ⟨g9, 0, none⟩) (j + 1) cap9) = w10 at *
   go_wp2
   go_roundw
   case rel => exact ⟨j + 1, _, by omega, by go_num, HR.out.1, HR.out.2.1, HR.out.2.2.1, by rw [HTK.out]; exact HR.out.2.2.2⟩
   case measure => simp [intOf]; omega
  ·have hje : l.length = j := by omega
   have hlt2 : ¬ ((j : Nat) : Int) < ((l.length : Nat) : Int) := by omega
   have HO9 := Lib.hid (show wr.ownsRow w7.heap.size 52 2 ev j (entsC l) from by have := HO8.out; rwa [List.take_of_length_le (by omega)] at this)
   obtain ⟨A9, c9, rfl⟩ := own_slice HO9.out
   have HZ8 := Lib.hid (HZ7.out.turn HT8.out (Nat.ne_of_lt HS.out))
   have HBY8 := Lib.hid (HBY7.out.turn HT8.out (fun i hi e => by
    obtain ⟨cs, hc5⟩ := HBY7.out.type i hi
    exact hc5.ne_ HX7.out (by decide) e))
   have x0 := HX8.out.cell 0
   have z0 := HZ8.out.cell 0
   have q0 := HZ8.out.frozen 0
   have x1 := HX8.out.cell 1
   have z1 := HZ8.out.cell 1
   have q1 := HZ8.out.frozen 1
   have x2 := HX8.out.cell 2
   have z2 := HZ8.out.cell 2
   have q2 := HZ8.out.frozen 2
   have x3 := HX8.out.cell 3
   have z3 := HZ8.out.cell 3
   have q3 := HZ8.out.frozen 3
   simp at x0 x1 x2 x3 z0 z1 z2 z3
   have hzl := HZ8.out.lt
   go_wp2_with fail
   refine bodyPost_ret (v := .tuple #[.agg #[.int .i64 (a.nd k).kind, .int .i64 (a.nd k).links, .slice A5 (a.nd k).data.length c5, .slice A9 j c9], .int .i64 0]) (by simp [results, Tryz.results16, go_sem, z0, z1, z2, z3, hzl]) rfl ⟨A5, c5, .slice A9 j c9, rfl, ?_, ?_, ?_⟩
   ·exact HBY8.out.turn ((((Turn.refl (· = w.heap.size) wr).setCell (p := ⟨w.heap.size, 0, none⟩) (fun _ => rfl) _).setCell (p := ⟨w.heap.size, 1, none⟩) (fun _ => rfl) _).setCell (p := ⟨w.heap.size, 2, none⟩) (fun _ => rfl) _ |>.setCell (p := ⟨w.heap.size, 3, none⟩) (fun _ => rfl) _) (fun i hi e => by
     have := HSO.out i hi
     have e : i = w.heap.size := e
     omega)
   ·exact (ent_own HO9.out).1.turn ((((Turn.refl (· = w.heap.size) wr).setCell (p := ⟨w.heap.size, 0, none⟩) (fun _ => rfl) _).setCell (p := ⟨w.heap.size, 1, none⟩) (fun _ => rfl) _).setCell (p := ⟨w.heap.size, 2, none⟩) (fun _ => rfl) _ |>.setCell (p := ⟨w.heap.size, 3, none⟩) (fun _ => rfl) _) ((ent_own HO9.out).2.mono fun i hi e => by
     have e : i = w.heap.size := e
     have := HZ7.out.lt
     omega)
   ·exact below_set (below_set (below_set (below_set HB8.out (p := ⟨w.heap.size, 0, none⟩) (Nat.le_refl _) _) (p := ⟨w.heap.size, 1, none⟩) (Nat.le_refl _) _) (p := ⟨w.heap.size, 2, none⟩) (Nat.le_refl _) _) (p := ⟨w.heap.size, 3, none⟩) (Nat.le_refl _) _
end
end Go.Proofs.YtpkhglfhpggceaaGreatDoor
namespace Go.Proofs.YtpkhglfhpggceaaGreatDoor
set_option maxRecDepth 100000
set_option maxHeartbeats 16000000
open Go.RowKit
set_option linter.unusedVariables false
set_option linter.unusedSimpArgs false
theorem bytes_str {w : World} {v : Value} {l : List UInt8} (h : Bs w v l) : (convert 28 9 v).run Tryz.prog w = .ok (.string (strOfNums (l.map fun b => (b.toNat : Int)))) w := by
 rcases h with ⟨rfl, rfl⟩ | ⟨g, o, c, rfl, h1, h2, h3, h4⟩
 ·exact run_convert_bytes_nil w 28 5 Tryz.underlying28 Tryz.underlying5 0 0 9 Tryz.underlying9
 ·refine run_convert_bytes_arg w 28 5 Tryz.underlying28 Tryz.underlying5 g o _ c (l.map fun b => (b.toNat : Int)) (List.length_map _) (fun i hi => ?_) 9 Tryz.underlying9
  have hi2 : i < l.length := by simpa using hi
  have := h4 i l[i] (List.getElem?_eq_getElem hi2)
  rw [this]
  simp [List.getD_eq_getElem?_getD, hi2]
theorem samebytes_any (v u : Value) (l : List UInt8) (w : World) (h : Bs w v l) (k : Bs w u l) : Calls Tryz.prog 44 #[v, u] w fun e w' => e = .returned (.bool true) ∧ w' = w := by
 have h1 := bytes_str h
 have h2 := bytes_str k
 obtain ⟨A, c, rfl, -⟩ := h.rd
 obtain ⟨B, d, rfl, -⟩ := k.rd
 clear h k
 go_enter Tryz.func44, Tryz.ntmps44
 go_wp2
 go_ret
 exact ⟨by simp, rfl⟩
theorem Ent.at_ {w : World} {A : Option Addr} {n c j : Nat} {l : Names} {p : ByteArray × Nat} (h : Ent w (.slice A n c) l) (hp : l[j]? = some p) :
  ∃ g, A = some ⟨g, 0, none⟩ ∧ w.cell? ⟨g, j * 2, none⟩ = some (.int .i64 (p.2 : Nat)) ∧ w.cell? ⟨g, j * 2 + 1, none⟩ = some (.string p.1) := by
 rcases h with ⟨_, e2⟩ | ⟨g, c', e, _, _, _, h4⟩
 ·rw [e2] at hp; simp at hp
 ·injection e with e1 e2 e3
  exact ⟨g, e1, h4 j p hp⟩
section
variable {F F2 : Nat → Prop} {w w' : World} {t y c : Nat} {M : TMem} {R : RMem} {a : TS}
theorem lnode_none (k : Nat) (w : World) (h : TreeIs F w t M c a) (r : RIs F2 w y R a) (hg : Good a c) (hc : c ≤ 100000) (hb : k ≤ 1000000) (hk : (a.nd k).kind = 0) :
  Calls Tryz.prog 12 #[.pointer (some ⟨t, 0, none⟩), .pointer (some ⟨y, 0, none⟩), .int .i64 (k : Nat)] w fun e w' => e = .returned (.bool true) ∧ Below w.heap.size w w' := by
 have HN := Lib.hid (node_none k w h hb hk)
 have hfew := hg.few
 have HR := Lib.hid (fun W (hb : Below w.heap.size w W) => r.below hb)
 have HCC : Hid (∀ W, Below w.heap.size w W → k ≤ a.last → W.cell? ⟨R.g, k * 4, none⟩ = some (.int .i64 0)) := Lib.hid fun W hW hle => by
  have := ((HR.out W hW).cel k hle).1
  rw [hk] at this
  exact this
 clear h r hg hk
 by_cases hl : k ≤ a.last
 ·have hin : ((k : Nat) : Int) < ((a.last + 1 : Nat) : Int) := by omega
  by_cases h0 : (k : Int) < 1
  all_goals
   generalize hx : a.last + 1 = n1 at *
   have HX := Lib.hid hx
   have hin2 : ¬ ((n1 : Nat) : Int) ≤ ((k : Nat) : Int) := by omega
   have HL := Lib.hid hl
   clear hx hl
   go_enter Tryz.func12, Tryz.ntmps12
   go_wp2_with fail
   refine HN.out.mono ?_
   rintro e w1 ⟨rfl, hb1⟩
   have HB1 := Lib.hid hb1
   obtain ⟨y0, y1⟩ := (HR.out _ HB1.out).cells
   rw [HX.out] at y0
   have k0 := HCC.out _ HB1.out HL.out
   have hyl := (HR.out _ HB1.out).blk.lt
   have hgl := (HR.out _ HB1.out).lt _ ((HR.out _ HB1.out).fo _ (.inr (.inl rfl)))
   clear hb1
   go_wp2
   go_ret
   exact ⟨by simp, HB1.out.alloc HB1.out.size _⟩
 ·have h0 : ¬ (k : Int) < 1 := by omega
  have hin2 : ((a.last + 1 : Nat) : Int) ≤ ((k : Nat) : Int) := by omega
  generalize hx : a.last + 1 = n1 at *
  have HX := Lib.hid hx
  clear hx hl
  go_enter Tryz.func12, Tryz.ntmps12
  go_wp2_with fail
  refine HN.out.mono ?_
  rintro e w1 ⟨rfl, hb1⟩
  have HB1 := Lib.hid hb1
  obtain ⟨y0, y1⟩ := (HR.out _ HB1.out).cells
  rw [HX.out] at y0
  have hyl := (HR.out _ HB1.out).blk.lt
  clear hb1
  go_wp2
  go_ret
  exact ⟨by simp, HB1.out.alloc HB1.out.size _⟩
theorem lnode_live (k : Nat) (w : World) (h : TreeIs F w t M c a) (r : RIs F2 w y R a) (hg : Good a c) (hc : c ≤ 100000) (hk : (a.nd k).kind ≠ 0) :
  Calls Tryz.prog 12 #[.pointer (some ⟨t, 0, none⟩), .pointer (some ⟨y, 0, none⟩), .int .i64 (k : Nat)] w fun e w' => e = .returned (.bool true) ∧ Below w.heap.size w w' := by
 have HN := Lib.hid (node_live k w h hg hc hk)
 have hfew := hg.few
 have hlast := (hg.in_last hk).2
 have hone := (hg.in_last hk).1
 have HLN := Lib.hid (show (a.nd k).names.length ≤ 100000 from Nat.le_trans (hg.len k) hc)
 have HKL := Lib.hid hlast
 have HR := Lib.hid (fun W (hb : Below w.heap.size w W) => r.below hb)
 obtain ⟨A1, c1, hdv⟩ : ∃ A1 c1, R.dv k = .slice A1 (a.nd k).data.length c1 := by
  obtain ⟨A1, c1, e, _⟩ := (r.dat k hlast).1.rd
  exact ⟨A1, c1, e⟩
 obtain ⟨A2, c2, hnv⟩ := (r.nam k hlast).1.shape
 have HDV := Lib.hid hdv
 have HNV := Lib.hid hnv
 have hin : ((k : Nat) : Int) < ((a.last + 1 : Nat) : Int) := by omega
 have hin2 : ¬ ((a.last + 1 : Nat) : Int) ≤ ((k : Nat) : Int) := by omega
 have h0 : ¬ (k : Int) < 1 := by omega
 have hk0 : (0 : Int) ≤ ((k : Nat) : Int) := by omega
 have e0 : ((a.nd k).kind == 0) = false := beq_eq_false_iff_ne.2 hk
 have e1 : ((a.nd k).kind != (a.nd k).kind) = false := by simp
 have e2 : ((a.nd k).links != (a.nd k).links) = false := by simp
 generalize hx : a.last + 1 = n1 at *
 have HX := Lib.hid hx
 clear hx hlast hdv hnv h r hg hk
 go_enter Tryz.func12, Tryz.ntmps12
 go_wp2_with fail
 refine HN.out.mono ?_
 rintro e w1 ⟨A3, c3, ev, rfl, hby, hent, hb1⟩
 have HB1 := Lib.hid hb1
 obtain ⟨A4, c4, rfl⟩ := hent.shape
 have HE := Lib.hid hent
 have HBY := Lib.hid hby
 have HR1 := Lib.hid (HR.out _ HB1.out)
 obtain ⟨y0, y1⟩ := HR1.out.cells
 rw [HX.out] at y0
 obtain ⟨k0, k1, k2, k3⟩ := HR1.out.cel k HKL.out
 rw [HDV.out] at k2
 rw [HNV.out] at k3
 have hyl := HR1.out.blk.lt
 have hgl := HR1.out.lt _ (HR1.out.fo _ (.inr (.inl rfl)))
 clear hb1 hent hby
 go_upto_region 5 with (fail)
 have h1 := (Blk.new w1 48 #[.int .i64 (a.nd k).kind, .int .i64 (a.nd k).links, .slice A3 (a.nd k).data.length c3, .slice A4 (List.length (a.nd k).names) c4]).alloc (.cells #[.int .i64 (a.nd k).kind, .int .i64 (a.nd k).links, .slice A1 (a.nd k).data.length c1, .slice A2 (List.length (a.nd k).names) c2] 75)
 have h2 := Blk.new (w1.alloc (.cells #[.int .i64 (a.nd k).kind, .int .i64 (a.nd k).links, .slice A3 (a.nd k).data.length c3, .slice A4 (List.length (a.nd k).names) c4] 48)) 75 #[.int .i64 (a.nd k).kind, .int .i64 (a.nd k).links, .slice A1 (a.nd k).data.length c1, .slice A2 (List.length (a.nd k).names) c2]
 rw [alloc_sz] at h2
 have hB2 : Below w1.heap.size w1 ((w1.alloc (.cells #[.int .i64 (a.nd k).kind, .int .i64 (a.nd k).links, .slice A3 (a.nd k).data.length c3, .slice A4 (List.length (a.nd k).names) c4] 48)).alloc (.cells #[.int .i64 (a.nd k).kind, .int .i64 (a.nd k).links, .slice A1 (a.nd k).data.length c1, .slice A2 (List.length (a.nd k).names) c2] 75)) := below_00 w1 _ _
 have H1 := Lib.hid h1
 have H2 := Lib.hid h2
 have HB2 := Lib.hid hB2
 clear h1 h2 hB2 y0 y1 k0 k1 k2 k3
 generalize (w1.alloc (.cells #[.int .i64 (a.nd k).kind, .int .i64 (a.nd k).links, .slice A3 (a.nd k).data.length c3, .slice A4 (List.length (a.nd k).names) c4] 48)).alloc (.cells #[.int .i64 (a.nd k).kind, .int .i64 (a.nd k).links, .slice A1 (a.nd k).data.length c1, .slice A2 (List.length (a.nd k).names) c2] 75) = w2 at *
 have HR2 := Lib.hid (HR1.out.below HB2.out)
 have HE2 := Lib.hid (HE.out.turn (S := fun _ => False) (Turn.of_below HB2.out) (fun _ _ _ _ _ => fun x => x))
 have HEN2 := Lib.hid (show Ent w2 (.slice A2 (List.length (a.nd k).names) c2) (a.nd k).names from by have := (HR2.out.nam k HKL.out).1; rw [HNV.out] at this; exact this)
 have HSB := Lib.hid (samebytes_any (.slice A3 (a.nd k).data.length c3) (.slice A1 (a.nd k).data.length c1) (a.nd k).data w2 (HBY.out.below HB2.out).bs (by have := (HR2.out.dat k HKL.out).1; rw [HDV.out] at this; exact this))
 have hL := HLN.out
 obtain ⟨x0, x1, x2, x3⟩ := H1.out.c4
 obtain ⟨z0, z1, z2, z3⟩ := H2.out.c4
 go_wp2_with (go_at_call 44; refine HSB.out.mono ?_; rintro e w3 ⟨rfl, h8⟩; obtain rfl := h8.symm)
 clear x0 x1 x2 x3 z0 z1 z2 z3
 go_loopw [10] (fun i wr => ∃ j : Nat, j ≤ (a.nd k).names.length ∧ i = .int .i64 (j : Nat) ∧ Below w2.heap.size w2 wr) (fun i _ => (a.nd k).names.length - (intOf i).toNat)
 case atStart => exact ⟨0, Nat.zero_le _, rfl, Below.refl _ _⟩
 case round =>
  obtain ⟨j, hj, rfl, hb⟩ := hrel
  have HB3 := Lib.hid hb
  have HX := Lib.hid (H1.out.below hb H1.out.lt)
  have HZ := Lib.hid (H2.out.below hb H2.out.lt)
  have HEa := Lib.hid (HE2.out.turn (S := fun _ => False) (Turn.of_below hb) (fun _ _ _ _ _ => fun x => x))
  have HEb := Lib.hid (HEN2.out.turn (S := fun _ => False) (Turn.of_below hb) (fun _ _ _ _ _ => fun x => x))
  clear hb
  have z3 := HZ.out.cell 3
  simp at z3
  by_cases hlt : j < (a.nd k).names.length
  ·obtain ⟨q, hq⟩ : ∃ q, (a.nd k).names[j]? = some q := ⟨(a.nd k).names[j], List.getElem?_eq_getElem hlt⟩
   obtain ⟨ga, rfl, ca0, ca1⟩ := HEa.out.at_ hq
   obtain ⟨gb, rfl, cb0, cb1⟩ := HEb.out.at_ hq
   have hji : ((j : Nat) : Int) < (((a.nd k).names.length : Nat) : Int) := by omega
   clear hq
   go_upto_region 10 with (fail)
   clear z3
   have x3 := HX.out.drew.cell 3
   have z3 := HZ.out.drew.cell 3
   simp at x3 z3
   have da0 : wr.drew.cell? ⟨ga, j * 2, none⟩ = some (.int .i64 (q.2 : Nat)) := ca0
   have da1 : wr.drew.cell? ⟨ga, j * 2 + 1, none⟩ = some (.string q.1) := ca1
   have db0 : wr.drew.cell? ⟨gb, j * 2, none⟩ = some (.int .i64 (q.2 : Nat)) := cb0
   have db1 : wr.drew.cell? ⟨gb, j * 2 + 1, none⟩ = some (.string q.1) := cb1
   have HBd := Lib.hid (show Below w2.heap.size w2 wr.drew from HB3.out.trans drew_below')
   clear ca0 ca1 cb0 cb1
   go_region
   go_wp2
   go_roundw
   case rel => exact ⟨j + 1, by omega, by go_num, HBd.out⟩
   case measure => simp [intOf]; omega
  ·obtain rfl : j = (a.nd k).names.length := by omega
   have hji : ¬ (((a.nd k).names.length : Nat) : Int) < (((a.nd k).names.length : Nat) : Int) := by omega
   go_wp2
   go_ret
   exact ⟨rfl, (HB1.out.trans (HB2.out.mono HB1.out.size)).trans (HB3.out.mono (Nat.le_trans HB1.out.size HB2.out.size))⟩
end
end Go.Proofs.YtpkhglfhpggceaaGreatDoor
namespace Go.Proofs.YtpkhglfhpggceaaGreatDoor
set_option maxRecDepth 100000
set_option maxHeartbeats 16000000
open Go.RowKit
set_option linter.unusedVariables false
set_option linter.unusedSimpArgs false
section
variable {F : Nat → Prop} {w w' : World} {t c : Nat} {M : TMem} {a : TS}
theorem ans_exact {v : Value} {a' : TS} {c' : Nat} (h : AnsPost F t c' a' w (.returned v) w') : St (grow F w w') w' t c' a' ∧ Turn F w w' := by
 obtain ⟨_, _, _, _, _, _, _, _, _, _, _, _, hst, htu⟩ := h
 exact ⟨hst, htu⟩
theorem do7x (o : OpT) (A : Option Addr) (cap : Nat) (w : World) (h : TreeIs F w t M c a) (hg : Good a c) (hc : c ≤ 100000) (hp : o.path.size ≤ 1000) (hp2 : o.to.size ≤ 1000)
  (hD : RdB w (.slice A o.data.length cap) o.data) (hDF : ∀ g x, A = some ⟨g, x, none⟩ → ¬ F g) (hkd : o.kind = 7) :
  Calls Tryz.prog 7 #[.pointer (some ⟨t, 0, none⟩), o.val A o.data.length cap] w (fun e w' => e = .returned (.agg #[.int .i64 (a.mkdirE o), .int .i64 0, .slice none 0 0, .slice none 0 0, .int .i64 0, .int .i64 0, .int .i64 0]) ∧ St (grow F w w') w' t (c + 2) (a.mkdirT o) ∧ Turn F w w') := by
 unfold OpT.val
 have e1 := kf 1 hkd rfl
 have e2 := kf 2 hkd rfl
 have e3 := kf 3 hkd rfl
 have e4 := kf 4 hkd rfl
 have e5 := kf 5 hkd rfl
 have e14 := kf 14 hkd rfl
 have e7 := kt 7 hkd rfl
 have HT := Lib.hid h
 have HH := Lib.hid (fun W (hb : Below w.heap.size w W) => h.below hb)
 have HFL : Hid (∀ j, F j → j < w.heap.size) := Lib.hid fun j e => h.lt j e
 have HDW := Lib.hid (fun W (hb : Below w.heap.size w W) => hD.below hb)
 have HCL := Lib.hid (fun W (h : TreeIs F W t M c a) => show Calls Tryz.prog 28 #[.pointer (some ⟨t, 0, none⟩), .agg (oc o A o.data.length cap)] W (StepPost F t (c + 2) (a.mkdirT o) (.int .i64 (a.mkdirE o)) W) from mkdir_any o A o.data.length cap W h hg hc hp)
 have HR := Lib.hid (show a.doT o = a.mkdirT o by unfold TS.doT; simp [hkd])
 clear h hg hD hDF hkd
 go_enter Tryz.func7, Tryz.ntmps7
 go_upto_region 3 with (fail)
 obtain ⟨w1, hwe, HO1, HB1⟩ := asked w (oc o A o.data.length cap)
 rw [← hwe]
 clear hwe
 have ua0 := (HO1.out).b0.c8
 have ur0 := (HO1.out).b1.cf7
 have ul := (HO1.out).b1.lt
 go_wp2_with fail
 refine (HCL.out _ (HH.out _ HB1.out)).mono ?_
 rintro e w9 ⟨rfl, hs9, hTu9⟩
 clear ua0 ur0 ul
 have HO9 := Lib.hid (HO1.out.turn2 hTu9 (fun e => by have := HFL.out _ e; omega) (fun e => by have := HFL.out _ e; omega))
 have HS9 := Lib.hid hs9
 have HTu9 := Lib.hid hTu9
 clear hs9 hTu9
 have vr0 := (HO9.out).b1.cf7
 have vl := (HO9.out).b1.lt
 go_wp2_with fail
 refine bodyPost_ret (v := .agg #[.int .i64 (a.mkdirE o), .int .i64 0, .slice none 0 0, .slice none 0 0, .int .i64 0, .int .i64 0, .int .i64 0]) (by simp [results, Tryz.results7, go_sem, vr0, vl]) rfl ?_
 exact ⟨rfl, ans_exact (v := .agg #[.int .i64 (a.mkdirE o), .int .i64 0, .slice none 0 0, .slice none 0 0, .int .i64 0, .int .i64 0, .int .i64 0]) (ans_fin (F' := F) (wX := w1) HT.out HS9.out (Nat.le_refl _) ((Turn.of_below (S := F) HB1.out).trans (S' := F) HTu9.out fun _ _ e => e) HB1.out.size (fun j e => .inl e) (by omega) HO1.out.b1.lt (fun e => by have := HFL.out _ e; omega))⟩
end
def o7 : OpT := ⟨7, ⟨#[47, 97]⟩, ⟨#[]⟩, [], 0, 0, 0, 0⟩
theorem w1E : ts0.mkdirE o7 = 0 := by decide +kernel
theorem w2E : (ts0.mkdirT o7).mkdirE o7 = 41 := by decide +kernel
theorem w2T : (ts0.mkdirT o7).mkdirT o7 = ts0.mkdirT o7 := (show ∀ b : TS, b.mkdirE o7 ≠ 0 → b.mkdirT o7 = b from fun b h => by unfold TS.mkdirT; rw [if_neg h]) _ (by rw [w2E]; decide)
theorem w3W : (ts0.mkdirT o7).walkP o7.path = (2, 0) := by decide +kernel
end Go.Proofs.YtpkhglfhpggceaaGreatDoor
namespace Go.Proofs.YtpkhglfhpggceaaGreatDoor
open Go.RowKit
set_option linter.unusedVariables false
set_option linter.unusedSimpArgs false
abbrev act7 : Array Value := #[.int .i64 7, .string ⟨#[47, 97]⟩, .string ⟨#[]⟩, .int .i64 0, .int .i64 0, .int .i64 0, .int .i64 0, .slice none 0 0]
def Wk (w0 : World) (ab t c : Nat) (a : TS) (xs : List Nat) (w : World) : Prop :=
 ∃ F, St F w t c a ∧ (∀ j, F j → w0.heap.size ≤ j) ∧ ¬ F ab ∧ Blk w ab 36 act7 ∧ (∀ x ∈ xs, ¬ F x ∧ Blk w x 33 zero7) ∧ Below w0.heap.size w0 w ∧ xs.Nodup ∧ (∀ x ∈ xs, x ≠ ab ∧ w0.heap.size ≤ x)
section
variable {w0 w w' : World} {ab t c : Nat} {a : TS} {xs : List Nat}
theorem Wk.below (h : Wk w0 ab t c a xs w) (hb : Below w.heap.size w w') : Wk w0 ab t c a xs w' := by
 obtain ⟨F, ⟨M, h1⟩, h2, h3, h4, h5, h6, h7, h8⟩ := h
 exact ⟨F, ⟨M, h1.below hb⟩, h2, h3, h4.below hb h4.lt, fun x hx => ⟨(h5 x hx).1, (h5 x hx).2.below hb (h5 x hx).2.lt⟩, h6.trans (hb.mono h6.size), h7, h8⟩
theorem Wk.drew (h : Wk w0 ab t c a xs w) : Wk w0 ab t c a xs w.drew := h.below drew_below
theorem Wk.alloc (h : Wk w0 ab t c a xs w) : Wk w0 ab t c a (w.heap.size :: xs) (w.alloc (.cells zero7 33)) := by
 obtain ⟨F, ⟨M, h1⟩, h2, h3, h4, h5, h6, h7, h8⟩ := h
 have hb : Below w.heap.size w (w.alloc (.cells zero7 33)) := (Below.refl _ _).alloc (Nat.le_refl _) _
 refine ⟨F, ⟨M, h1.below hb⟩, h2, h3, h4.below hb h4.lt, fun x hx => ?_, h6.trans (hb.mono h6.size), List.nodup_cons.2 ⟨fun e => Nat.lt_irrefl _ (h5 _ e).2.lt, h7⟩, fun x hx => ?_⟩
 rotate_left
 ·rcases List.mem_cons.1 hx with e | e
  ·subst e
   exact ⟨fun e => Nat.lt_irrefl _ (by have := h4.lt; rw [← e] at this; exact this), h6.size⟩
  ·exact h8 x e
 rcases List.mem_cons.1 hx with e | e
 ·subst e
  exact ⟨fun e => Nat.lt_irrefl _ (h1.lt _ e), Blk.new w 33 zero7⟩
 ·exact ⟨(h5 x e).1, (h5 x e).2.below hb (h5 x e).2.lt⟩
theorem Wk.act (h : Wk w0 ab t c a xs w) : Blk w ab 36 act7 := by obtain ⟨F, h1, h2, h3, h4, h5, h6, h7, h8⟩ := h; exact h4
theorem Wk.call (h : Wk w0 ab t c a xs w) (hg : Good a c) (hc : c ≤ 100000) :
  Calls Tryz.prog 7 #[.pointer (some ⟨t, 0, none⟩), .agg act7] w fun e w' => e = .returned (.agg #[.int .i64 (a.mkdirE o7), .int .i64 0, .slice none 0 0, .slice none 0 0, .int .i64 0, .int .i64 0, .int .i64 0]) ∧ Wk w0 ab t (c + 2) (a.mkdirT o7) xs w' := by
 obtain ⟨F, ⟨M, h1⟩, h2, h3, h4, h5, h6, h7, h8⟩ := h
 refine (do7x (a := a) o7 none 0 w h1 hg hc (by decide) (by decide) (RdB.nil w) (fun g x e => by cases e) rfl).mono ?_
 rintro e w' ⟨rfl, hst, hT⟩
 have hn : ∀ x, ¬ F x → x < w.heap.size → ¬ grow F w w' x := fun x hx hl e => by
  rcases e with e | e
  ·exact hx e
  ·omega
 refine ⟨rfl, grow F w w', hst, fun j hj => ?_, hn ab h3 h4.lt, h4.turn hT h3, fun x hx => ⟨hn x (h5 x hx).1 (h5 x hx).2.lt, (h5 x hx).2.turn hT (h5 x hx).1⟩, ?_, h7, h8⟩
 ·rcases hj with hj | hj
  ·exact h2 j hj
  ·exact Nat.le_trans h6.size hj.1
 ·exact h6.trans (hT.below h6.size fun i hi e => by have := h2 i e; omega)
theorem Wk.swap {x z : Nat} (h : Wk w0 ab t c a [x, z] w) : Wk w0 ab t c a [z, x] w := by
 obtain ⟨F, h1, h2, h3, h4, h5, h6, h7, h8⟩ := h
 refine ⟨F, h1, h2, h3, h4, fun y hy => h5 y ?_, h6, ?_, fun y hy => h8 y ?_⟩
 ·simp at hy ⊢; exact hy.symm
 ·simp at h7 ⊢; exact fun e => h7 e.symm
 ·simp at hy ⊢; exact hy.symm
theorem Wk.call1 (h : Wk w0 ab t 1 ts0 xs w) :
  Calls Tryz.prog 7 #[.pointer (some ⟨t, 0, none⟩), .agg act7] w fun e w' => e = .returned (.agg #[.int .i64 0, .int .i64 0, .slice none 0 0, .slice none 0 0, .int .i64 0, .int .i64 0, .int .i64 0]) ∧ Wk w0 ab t 3 (ts0.mkdirT o7) xs w' := by
 have := h.call ts0_inv.1 (by decide)
 rw [w1E] at this
 exact this
theorem good2 : Good (ts0.mkdirT o7) 3 := by
 have := (ts0_inv.doT (o := o7)).1
 rwa [show ts0.doT o7 = ts0.mkdirT o7 from by unfold TS.doT; simp [o7]] at this
theorem Wk.call2 (h : Wk w0 ab t 3 (ts0.mkdirT o7) xs w) :
  Calls Tryz.prog 7 #[.pointer (some ⟨t, 0, none⟩), .agg act7] w fun e w' => e = .returned (.agg #[.int .i64 41, .int .i64 0, .slice none 0 0, .slice none 0 0, .int .i64 0, .int .i64 0, .int .i64 0]) ∧ Wk w0 ab t 5 (ts0.mkdirT o7) xs w' := by
 have := h.call good2 (by decide)
 rw [w2E, w2T] at this
 exact this
end
end Go.Proofs.YtpkhglfhpggceaaGreatDoor
namespace Go.Proofs.YtpkhglfhpggceaaGreatDoor
open Go.RowKit
set_option linter.unusedVariables false
set_option linter.unusedSimpArgs false
def Pair (w0 : World) (t y c : Nat) (a b : TS) (w : World) : Prop :=
 ∃ F1 F2, St F1 w t c a ∧ RSt F2 w y b ∧ (∀ j, F1 j → w0.heap.size ≤ j ∧ ¬ F2 j) ∧ (∀ j, F2 j → w0.heap.size ≤ j) ∧ Below w0.heap.size w0 w
section
variable {w0 w w1 w' : World} {t y c : Nat} {a b : TS}
theorem Pair.below (h : Pair w0 t y c a b w) (hb : Below w.heap.size w w') : Pair w0 t y c a b w' := by
 obtain ⟨F1, F2, ⟨M, h1⟩, ⟨R, h2⟩, h3, h4, h5⟩ := h
 exact ⟨F1, F2, ⟨M, h1.below hb⟩, ⟨R, h2.below hb⟩, h3, h4, h5.trans (hb.mono h5.size)⟩
theorem Pair.bel (h : Pair w0 t y c a b w) : Below w0.heap.size w0 w := by obtain ⟨F1, F2, h1, h2, h3, h4, h5⟩ := h; exact h5
theorem Pair.start (h1 : St (grow (fun _ => False) w0 w1) w1 t 1 ts0) (hb1 : Below w0.heap.size w0 w1) (h2 : RSt (grow (fun _ => False) w1 w') w' y ts0) (hb2 : Below w1.heap.size w1 w') : Pair w0 t y 1 ts0 ts0 w' := by
 obtain ⟨M, h1⟩ := h1
 refine ⟨_, _, ⟨M, h1.below hb2⟩, h2, fun j hj => ?_, fun j hj => ?_, hb1.trans (hb2.mono hb1.size)⟩
 ·rcases hj with hj | hj
  ·exact hj.elim
  ·refine ⟨hj.1, fun e => ?_⟩
   rcases e with e | e
   ·exact e.elim
   ·omega
 ·rcases hj with hj | hj
  ·exact hj.elim
  ·exact Nat.le_trans hb1.size hj.1
theorem own_far {F : Nat → Prop} {A : Option Addr} {n cap : Nat} (hlt : ∀ j, F j → j < w.heap.size) (hown : ∀ j, (Value.slice A n cap).ownBlock = some j → w.heap.size ≤ j) : ∀ g x, A = some ⟨g, x, none⟩ → ¬ F g := by
 rintro g x rfl hF
 have := hown g rfl
 have := hlt g hF
 omega
theorem Pair.do7 (h : Pair w0 t y c a b w) (hg : Good a c) (hc : c ≤ 100000) (o : OpT) {A : Option Addr} {cap : Nat} (hp : o.path.size ≤ 1000) (hp2 : o.to.size ≤ 1000) (hb : Below w.heap.size w w1)
  (hB : Byt w1 (.slice A o.data.length cap) o.data) (hown : ∀ j, (Value.slice A o.data.length cap).ownBlock = some j → w.heap.size ≤ j) :
  Calls Tryz.prog 7 #[.pointer (some ⟨t, 0, none⟩), o.val A o.data.length cap] w1 fun e w' => ∃ v, e = .returned v ∧ Pair w0 t y (c + 2) (a.doT o) b w' := by
 obtain ⟨F1, F2, ⟨M, h1⟩, ⟨R, h2⟩, h3, h4, h5⟩ := h
 have hl1 := h1.lt
 have hl2 := h2.lt
 have hs1 := hb.size
 have h15 := h5.trans (hb.mono h5.size)
 refine (do_any (a := a) o A cap w1 (h1.below hb) hg hc hp hp2 hB.rd (own_far hl1 hown)).mono ?_
 rintro e w' ⟨er, n, A1, n1, c1, A2, n2, c2, k, s, l, rfl, hst, hT⟩
 refine ⟨_, rfl, grow F1 w1 w', F2, hst, ⟨R, (h2.below hb).turn hT fun j hj e => (h3 j e).2 hj⟩, fun j hj => ?_, h4, h15.trans (hT.below h15.size fun i hi e => by have := (h3 i e).1; omega)⟩
 rcases hj with hj | hj
 ·exact h3 j hj
 ·exact ⟨Nat.le_trans h15.size hj.1, fun e => by have := hl2 j e; omega⟩
theorem Pair.rdo9 (h : Pair w0 t y c a b w) {cb : Nat} (hg : Good b cb) (hc : cb + 20 ≤ 100000) (o : OpT) {A : Option Addr} {cap : Nat} (hp : o.path.size ≤ 1000) (hp2 : o.to.size ≤ 1000) (hb : Below w.heap.size w w1)
  (hB : Byt w1 (.slice A o.data.length cap) o.data) :
  Calls Tryz.prog 9 #[.pointer (some ⟨y, 0, none⟩), o.val A o.data.length cap] w1 fun e w' => ∃ v, e = .returned v ∧ Pair w0 t y c a (b.doT o) w' := by
 obtain ⟨F1, F2, ⟨M, h1⟩, ⟨R, h2⟩, h3, h4, h5⟩ := h
 have hl1 := h1.lt
 have hl2 := h2.lt
 have hs1 := hb.size
 have h15 := h5.trans (hb.mono h5.size)
 refine (rdo_any (a := b) o A cap w1 (h2.below hb) hg hc hp hp2 hB.rd).mono ?_
 rintro e w' ⟨er, n, A1, n1, c1, A2, n2, c2, k, s, l, rfl, hst, hT⟩
 refine ⟨_, rfl, F1, grow F2 w1 w', ⟨M, (h1.below hb).turn hT (fun j hj e => (h3 j hj).2 e) h2.f0⟩, hst, fun j hj => ⟨(h3 j hj).1, fun e => ?_⟩, fun j hj => ?_, h15.trans (hT.below h15.size fun i hi e => by have := h4 i e; omega)⟩
 ·rcases e with e | e
  ·exact (h3 j hj).2 e
  ·have := hl1 j hj
   omega
 ·rcases hj with hj | hj
  ·exact h4 j hj
  ·exact Nat.le_trans h15.size hj.1
theorem Pair.walk (h : Pair w0 t y c a b w) (hg : Good a c) (hc : c ≤ 100000) (p : ByteArray) (hp : p.size ≤ 1000) :
  Calls Tryz.prog 10 #[.pointer (some ⟨t, 0, none⟩), .string p] w fun e w' => e = .returned (.tuple #[.int .i64 ((a.walkP p).1 : Nat), .int .i64 (a.walkP p).2]) ∧ Below w.heap.size w w' := by
 obtain ⟨F1, F2, ⟨M, h1⟩, ⟨R, h2⟩, h3, h4, h5⟩ := h
 exact walk_any p w h1 hg hc hp
theorem Pair.rwalk (h : Pair w0 t y c a b w) {cb : Nat} (hg : Good b cb) (hc : cb ≤ 100000) (p : ByteArray) (hp : p.size ≤ 1000) :
  Calls Tryz.prog 11 #[.pointer (some ⟨y, 0, none⟩), .string p] w fun e w' => e = .returned (.tuple #[.int .i64 ((b.walkP p).1 : Nat), .int .i64 (b.walkP p).2]) ∧ Below w.heap.size w w' := by
 obtain ⟨F1, F2, ⟨M, h1⟩, ⟨R, h2⟩, h3, h4, h5⟩ := h
 exact rWalk_any p w h2 hg hc hp
theorem Pair.same (h : Pair w0 t y c a a w) (hg : Good a c) (hc : c ≤ 100000) (k : Nat) (hk : k ≤ 1000000) :
  Calls Tryz.prog 12 #[.pointer (some ⟨t, 0, none⟩), .pointer (some ⟨y, 0, none⟩), .int .i64 (k : Nat)] w fun e w' => e = .returned (.bool true) ∧ Below w.heap.size w w' := by
 obtain ⟨F1, F2, ⟨M, h1⟩, ⟨R, h2⟩, h3, h4, h5⟩ := h
 by_cases h0 : (a.nd k).kind = 0
 ·exact lnode_none k w h1 h2 hg hc hk h0
 ·exact lnode_live k w h1 h2 hg hc h0
theorem Pair.node (h : Pair w0 t y c a b w) (hg : Good a c) (hc : c ≤ 100000) (k : Nat) (hk : (a.nd k).kind ≠ 0) :
  Calls Tryz.prog 16 #[.pointer (some ⟨t, 0, none⟩), .int .i64 (k : Nat)] w fun e w' => ∃ A1 c1 v, e = .returned (.tuple #[.agg #[.int .i64 (a.nd k).kind, .int .i64 (a.nd k).links, .slice A1 (a.nd k).data.length c1, v], .int .i64 0]) ∧
   Byt w' (.slice A1 (a.nd k).data.length c1) (a.nd k).data ∧ Ent w' v (a.nd k).names ∧ Below w.heap.size w w' := by
 obtain ⟨F1, F2, ⟨M, h1⟩, ⟨R, h2⟩, h3, h4, h5⟩ := h
 exact node_live k w h1 hg hc hk
theorem Pair.mx (h : Pair w0 t y c a b w) : ∃ m, w.cell? ⟨0, 0, none⟩ = some (.int .i64 m) := by
 obtain ⟨F1, F2, ⟨M, h1⟩, ⟨R, h2⟩, h3, h4, h5⟩ := h
 exact h1.mx
def ActsR (w : World) (A : Option Addr) (n : Nat) (l : List OpT) : Prop :=
 l.length = n ∧ ∀ (i : Nat) (o : OpT), l[i]? = some o → (o.path.size ≤ maxLen ∧ o.to.size ≤ maxLen ∧ o.data.length ≤ 140737488355328) ∧ ∃ g x A2 c2, A = some ⟨g, x, none⟩ ∧ g < w.heap.size ∧ Rq w (.slice A2 o.data.length c2) o.data ∧
  ∀ (j : Nat) (v : Value), (o.cells A2 o.data.length c2)[j]? = some v → w.cell? ⟨g, x + i * 8 + j, none⟩ = some v
theorem ActsR.at_ {A : Option Addr} {n i : Nat} {l : List OpT} (h : ActsR w A n l) (hi : i < n) : ∃ o g x A2 c2, A = some ⟨g, x, none⟩ ∧ (o.path.size ≤ maxLen ∧ o.to.size ≤ maxLen ∧ o.data.length ≤ 140737488355328) ∧ l[i]? = some o ∧
  ∀ W, Below w.heap.size w W → Rq W (.slice A2 o.data.length c2) o.data ∧ W.cell? ⟨g, x + i * 8, none⟩ = some (.int .i64 o.kind) ∧ W.cell? ⟨g, x + i * 8 + 1, none⟩ = some (.string o.path) ∧ W.cell? ⟨g, x + i * 8 + 2, none⟩ = some (.string o.to) ∧
   W.cell? ⟨g, x + i * 8 + 3, none⟩ = some (.int .i64 o.fd) ∧ W.cell? ⟨g, x + i * 8 + 4, none⟩ = some (.int .i64 o.n) ∧ W.cell? ⟨g, x + i * 8 + 5, none⟩ = some (.int .i64 o.off) ∧ W.cell? ⟨g, x + i * 8 + 6, none⟩ = some (.int .i64 o.flags) ∧ W.cell? ⟨g, x + i * 8 + 7, none⟩ = some (.slice A2 o.data.length c2) := by
 obtain ⟨o, ho⟩ : ∃ o, l[i]? = some o := ⟨_, List.getElem?_eq_getElem (by rw [h.1]; exact hi)⟩
 obtain ⟨h0, g, x, A2, c2, rfl, hg, h1, h2⟩ := h.2 i o ho
 refine ⟨o, g, x, A2, c2, rfl, h0, ho, fun W hW => ⟨h1.below hW, ?_⟩⟩
 have k := fun (j : Nat) (v : Value) (hv : (o.cells A2 o.data.length c2)[j]? = some v) => (World.cell?_of_block (a := ⟨g, x + i * 8 + j, none⟩) (hW.block g hg)).trans (h2 j v hv)
 exact ⟨k 0 _ rfl, k 1 _ rfl, k 2 _ rfl, k 3 _ rfl, k 4 _ rfl, k 5 _ rfl, k 6 _ rfl, k 7 _ rfl⟩
end
end Go.Proofs.YtpkhglfhpggceaaGreatDoor
namespace Go.Proofs.YtpkhglfhpggceaaGreatDoor
set_option maxRecDepth 100000
set_option maxHeartbeats 16000000
open Go.RowKit Go.Proofs.YtpkhglfhpggceaaGreatDoorW.PrintLast
set_option linter.unusedVariables false
set_option linter.unusedSimpArgs false
section
variable {w0 w w' : World} {ab t c : Nat} {a : TS} {xs : List Nat}
theorem Wk.ans (h : Wk w0 ab t c a xs w) {x : Nat} (hx : x ∈ xs) : Blk w x 33 zero7 := by obtain ⟨F, h1, h2, h3, h4, h5, h6, h7, h8⟩ := h; exact (h5 x hx).2
theorem Wk.ne2 {x z : Nat} (h : Wk w0 ab t c a [x, z] w) : x ≠ z := by obtain ⟨F, h1, h2, h3, h4, h5, h6, h7, h8⟩ := h; simp at h7; exact h7
theorem set7 {W : World} {b : Nat} {cs : Array Value} (h : Blk W b 33 cs) (v0 v1 v2 v3 v4 v5 v6 : Value) : (((((((W.setCell ⟨b, 0, none⟩ v0).setCell ⟨b, 1, none⟩ v1).setCell ⟨b, 2, none⟩ v2).setCell ⟨b, 3, none⟩ v3).setCell ⟨b, 4, none⟩ v4).setCell ⟨b, 5, none⟩ v5).setCell ⟨b, 6, none⟩ v6).heap.size = W.heap.size ∧
  Turn (· = b) W (((((((W.setCell ⟨b, 0, none⟩ v0).setCell ⟨b, 1, none⟩ v1).setCell ⟨b, 2, none⟩ v2).setCell ⟨b, 3, none⟩ v3).setCell ⟨b, 4, none⟩ v4).setCell ⟨b, 5, none⟩ v5).setCell ⟨b, 6, none⟩ v6) :=
 ⟨by simp [World.setCell], (((((((Turn.refl (· = b) W).setCell (p := ⟨b, 0, none⟩) (fun _ => rfl) v0).setCell (p := ⟨b, 1, none⟩) (fun _ => rfl) v1).setCell (p := ⟨b, 2, none⟩) (fun _ => rfl) v2).setCell (p := ⟨b, 3, none⟩) (fun _ => rfl) v3).setCell (p := ⟨b, 4, none⟩) (fun _ => rfl) v4).setCell (p := ⟨b, 5, none⟩) (fun _ => rfl) v5).setCell (p := ⟨b, 6, none⟩) (fun _ => rfl) v6⟩
theorem blk7 {W : World} {b : Nat} {cs : Array Value} (h : Blk W b 33 cs) (v0 v1 v2 v3 v4 v5 v6 : Value) : Blk (((((((W.setCell ⟨b, 0, none⟩ v0).setCell ⟨b, 1, none⟩ v1).setCell ⟨b, 2, none⟩ v2).setCell ⟨b, 3, none⟩ v3).setCell ⟨b, 4, none⟩ v4).setCell ⟨b, 5, none⟩ v5).setCell ⟨b, 6, none⟩ v6) b 33 (((((((cs.set! 0 v0).set! 1 v1).set! 2 v2).set! 3 v3).set! 4 v4).set! 5 v5).set! 6 v6) :=
 ((((((h.set_ 0 v0).set_ 1 v1).set_ 2 v2).set_ 3 v3).set_ 4 v4).set_ 5 v5).set_ 6 v6
theorem Wk.stored {x z : Nat} {w5 w6 w7 : World} (hw : 0 < w0.heap.size) (h : Wk w0 ab t c a [x, z] w5) (h1 : Turn (· = x) w5 w6) (h2 : Turn (· = z) w6 w7) : ∃ F M, TreeIs F w7 t M c a ∧ Below w0.heap.size w0 w7 := by
 obtain ⟨F, ⟨M, h3⟩, h4, h5, h6, h7, h8, h9, h10⟩ := h
 have hx := (h7 x (by simp)).1
 have hz := (h7 z (by simp)).1
 have bx := (h10 x (by simp)).2
 have bz := (h10 z (by simp)).2
 have hs := h8.size
 exact ⟨F, M, (h3.turn h1 (fun j hj e => hx (e ▸ hj)) fun e => by omega).turn h2 (fun j hj e => hz (e ▸ hj)) fun e => by omega, (h8.trans (h1.below hs fun i hi e => by omega)).trans (h2.below (Nat.le_trans hs h1.size) fun i hi e => by omega)⟩
theorem good5 : Good (ts0.mkdirT o7) 5 := by
 have := ((ts0_inv.doT (o := o7)).doT (o := o7)).1
 have e : ∀ b : TS, b.doT o7 = b.mkdirT o7 := fun b => by unfold TS.doT; simp [o7]
 rw [e, e, w2T] at this
 exact this
theorem walk2 {F : Nat → Prop} {M : TMem} (h : TreeIs F w t M 5 (ts0.mkdirT o7)) :
  Calls Tryz.prog 10 #[.pointer (some ⟨t, 0, none⟩), .string ⟨#[47, 97]⟩] w fun e w' => e = .returned (.tuple #[.int .i64 2, .int .i64 0]) ∧ Below w.heap.size w w' := by
 have := walk_any o7.path w h good5 (by decide) (by decide)
 rw [w3W] at this
 exact this
theorem works_any (w : World) (hx : ∃ m, w.cell? ⟨0, 0, none⟩ = some (.int .i64 m)) :
  Calls Tryz.prog 14 #[] w fun e w' => e = .returned (.bool true) ∧ Below w.heap.size w w' := by
 have HX := Lib.hid hx
 have hwz : 0 < w.heap.size := by obtain ⟨m, hm⟩ := hx; exact mx_lt hm
 have HA : Hid (∀ ab W, Blk W ab 36 act7 → W.cell? ⟨ab, 0, none⟩ = some (.int .i64 7) ∧ W.cell? ⟨ab, 1, none⟩ = some (.string ⟨#[47, 97]⟩) ∧ W.cell? ⟨ab, 2, none⟩ = some (.string ⟨#[]⟩) ∧ W.cell? ⟨ab, 3, none⟩ = some (.int .i64 0) ∧ W.cell? ⟨ab, 4, none⟩ = some (.int .i64 0) ∧ W.cell? ⟨ab, 5, none⟩ = some (.int .i64 0) ∧ W.cell? ⟨ab, 6, none⟩ = some (.int .i64 0) ∧ W.cell? ⟨ab, 7, none⟩ = some (.slice none 0 0)) := Lib.hid fun ab W h => ⟨h.cell 0, h.cell 1, h.cell 2, h.cell 3, h.cell 4, h.cell 5, h.cell 6, h.cell 7⟩
 have HC1 := Lib.hid (fun ab t xs W (h : Wk w ab t 1 ts0 xs W) => h.call1)
 have HC2 := Lib.hid (fun ab t xs W (h : Wk w ab t 3 (ts0.mkdirT o7) xs W) => h.call2)
 have HNW := Lib.hid (tnew_any w HX.out)
 have HC3 := Lib.hid (fun t F M W (h : TreeIs F W t M 5 (ts0.mkdirT o7)) => walk2 h)
 generalize ts0.mkdirT o7 = a2 at *
 generalize ts0 = a1 at *
 clear hx
 go_enter Tryz.func14, Tryz.ntmps14
 go_wp2_with fail
 refine HNW.out.mono ?_
 rintro e w1 ⟨t, rfl, hst, hb1⟩
 go_upto_region 3 with (fail)
 have hW0 : Wk w w1.heap.size t 1 a1 [] (w1.alloc (.cells act7 36)) := by
  obtain ⟨M, hT⟩ := hst
  have hb : Below w1.heap.size w1 (w1.alloc (.cells act7 36)) := (Below.refl _ _).alloc (Nat.le_refl _) _
  exact ⟨_, ⟨M, hT.below hb⟩, fun j hj => hj.elim (fun e => e.elim) (fun e => e.1), fun e => Nat.lt_irrefl _ (hT.lt _ e), Blk.new w1 36 act7, fun x hx => (by cases hx), hb1.trans (hb.mono hb1.size), List.nodup_nil, fun x hx => (by cases hx)⟩
 clear hst
 have HB1 := Lib.hid hb1
 clear hb1
 generalize w1.alloc (.cells act7 36) = w2 at *
 generalize w1.heap.size = ab at *
 have hW := hW0.drew
 refine start_ (n := 10) (S := fun w' => w'.cell? ⟨ab, 0, none⟩ = some (.int .i64 7) ∧ w'.cell? ⟨ab, 1, none⟩ = some (.string ⟨#[47, 97]⟩) ∧ w'.cell? ⟨ab, 2, none⟩ = some (.string ⟨#[]⟩) ∧ w'.cell? ⟨ab, 3, none⟩ = some (.int .i64 0) ∧ w'.cell? ⟨ab, 4, none⟩ = some (.int .i64 0) ∧ w'.cell? ⟨ab, 5, none⟩ = some (.int .i64 0) ∧ w'.cell? ⟨ab, 6, none⟩ = some (.int .i64 0) ∧ w'.cell? ⟨ab, 7, none⟩ = some (.slice none 0 0)) (ds := [8, 9]) (bs 10 0) (by kernel_rfl) rfl rfl ⟨(HA.out _ _ hW.act).1, (HA.out _ _ hW.act).2.1, (HA.out _ _ hW.act).2.2.1, (HA.out _ _ hW.act).2.2.2.1, (HA.out _ _ hW.act).2.2.2.2.1, (HA.out _ _ hW.act).2.2.2.2.2.1, (HA.out _ _ hW.act).2.2.2.2.2.2.1, (HA.out _ _ hW.act).2.2.2.2.2.2.2⟩ (fun hHeld => ?_)
 refine py_ 0 9 (bs 10 1) rfl rfl (by kernel_rfl) (fun _ _ _ h => h) (by rfl) (fun w' => by go_simp; with_reducible rfl) (by simp only [Act.put, sA, sZ, sS, i64_w, i32_w]; rfl) ?_
 refine py_ 3 12 (bs 10 9) rfl rfl (by kernel_rfl) (fun _ _ _ h => h) (by rfl) (fun w' => by go_simp; with_reducible rfl) (by simp only [Act.put, sA, sZ, sS, i64_w, i32_w]; rfl) ?_
 refine ty_ 1 10 (bs 10 11) rfl rfl (by kernel_rfl) (fun _ _ _ h => h) (by rfl) (by rintro w' ⟨s0, s1, s2, s3, s4, s5, s6, s7⟩; go_simp; with_reducible rfl) hHeld (by simp only [Act.put, sA, sZ, sS, i64_w, i32_w]; rfl) ?_
 refine ty_ 4 13 (bs 10 27) rfl rfl (by kernel_rfl) (fun _ _ _ h => h) (by rfl) (by rintro w' ⟨s0, s1, s2, s3, s4, s5, s6, s7⟩; go_simp; with_reducible rfl) hHeld (by simp only [Act.put, sA, sZ, sS, i64_w, i32_w]; rfl) ?_
 refine join_ (σ := Nat × Nat) 2 (bs 10 255) (fun s => [(11, Value.agg #[.int .i64 0, .int .i64 0, .slice none 0 0, .slice none 0 0, .int .i64 0, .int .i64 0, .int .i64 0]), (14, Value.agg #[.int .i64 41, .int .i64 0, .slice none 0 0, .slice none 0 0, .int .i64 0, .int .i64 0, .int .i64 0]), (3, Value.pointer (some ⟨s.1, 0, none⟩)), (4, Value.pointer (some ⟨s.2, 0, none⟩))]) (fun s w' => Wk w ab t 5 a2 [s.1, s.2] w') ?_ ?_
 rotate_left
 ·intro hCont
  refine three_ (i := 2) (j := 6) (k := 7) (Ni := some 11) (Nj := some 3) (Nk := some 4) (bs 10 31) (bs 10 91) (bs 10 155) rfl rfl rfl rfl rfl rfl (by kernel_rfl) (by decide) (by decide) (by decide) (fun K hK => ?_) (fun K hK => ?_) (fun K hK => ?_)
  ·skip
   refine goes_ Tryz.func7 (by kernel_rfl) rfl #[.pointer (some ⟨t, 0, none⟩), .agg act7] (by rfl) rfl rfl (by simp only [List.map_toArray, List.map_cons, List.map_nil]; rfl) ?_
   with_reducible refine ((HC1.out _ _ _ _ hW)).mono ?_
   rintro e w3 ⟨rfl, hW⟩
   refine ⟨_, rfl, ?_⟩
   refine hK.out _ _ ⟨(HA.out _ _ hW.act).1, (HA.out _ _ hW.act).2.1, (HA.out _ _ hW.act).2.2.1, (HA.out _ _ hW.act).2.2.2.1, (HA.out _ _ hW.act).2.2.2.2.1, (HA.out _ _ hW.act).2.2.2.2.2.1, (HA.out _ _ hW.act).2.2.2.2.2.2.1, (HA.out _ _ hW.act).2.2.2.2.2.2.2⟩ (fun hHeld => ?_)
   clear hK K
   refine norm_ (a' := ?_) ?_ ?_
   rotate_left
   ·show Act.put _ (some 11) _ = _
    simp only [Act.put, sA, sZ, sS, i64_w, i32_w]
    rfl
   refine three_ (i := 5) (j := 6) (k := 7) (Ni := some 14) (Nj := some 3) (Nk := some 4) (bs 10 63) (bs 10 95) (bs 10 159) rfl rfl rfl rfl rfl rfl (by kernel_rfl) (by decide) (by decide) (by decide) (fun K hK => ?_) (fun K hK => ?_) (fun K hK => ?_)
   ·skip
    refine goes_ Tryz.func7 (by kernel_rfl) rfl #[.pointer (some ⟨t, 0, none⟩), .agg act7] (by rfl) rfl rfl (by simp only [List.map_toArray, List.map_cons, List.map_nil]; rfl) ?_
    with_reducible refine ((HC2.out _ _ _ _ hW)).mono ?_
    rintro e w4 ⟨rfl, hW⟩
    refine ⟨_, rfl, ?_⟩
    refine hK.out _ _ ⟨(HA.out _ _ hW.act).1, (HA.out _ _ hW.act).2.1, (HA.out _ _ hW.act).2.2.1, (HA.out _ _ hW.act).2.2.2.1, (HA.out _ _ hW.act).2.2.2.2.1, (HA.out _ _ hW.act).2.2.2.2.2.1, (HA.out _ _ hW.act).2.2.2.2.2.2.1, (HA.out _ _ hW.act).2.2.2.2.2.2.2⟩ (fun hHeld => ?_)
    clear hK K
    refine norm_ (a' := ?_) ?_ ?_
    rotate_left
    ·show Act.put _ (some 14) _ = _
     simp only [Act.put, sA, sZ, sS, i64_w, i32_w]
     rfl
    refine two_ (i := 6) (j := 7) (Ni := some 3) (Nj := some 4) (bs 10 127) (bs 10 191) rfl rfl rfl rfl (by kernel_rfl) (by decide) (by decide) (fun K hK => ?_) (fun K hK => ?_)
    ·skip
     refine value_ (w1 := ?_) (v := ?_) (by rfl) rfl ?_ ?_
     rotate_left 2
     ·go_simp
      constructor
      ·rfl
      ·rfl
     have hW := hW.alloc
     refine hK.out _ _ ⟨(HA.out _ _ hW.act).1, (HA.out _ _ hW.act).2.1, (HA.out _ _ hW.act).2.2.1, (HA.out _ _ hW.act).2.2.2.1, (HA.out _ _ hW.act).2.2.2.2.1, (HA.out _ _ hW.act).2.2.2.2.2.1, (HA.out _ _ hW.act).2.2.2.2.2.2.1, (HA.out _ _ hW.act).2.2.2.2.2.2.2⟩ (fun hHeld => ?_)
     clear hK K
     refine norm_ (a' := ?_) ?_ ?_
     rotate_left
     ·show Act.put _ (some 3) _ = _
      simp only [Act.put, sA, sZ, sS, i64_w, i32_w]
      rfl
     refine one_ (i := 7) (N := some 4) (bs 10 255) rfl rfl (by kernel_rfl) (by decide) (fun K hK => ?_)
     refine value_ (w1 := ?_) (v := ?_) (by rfl) rfl ?_ ?_
     rotate_left 2
     ·go_simp
      constructor
      ·rfl
      ·rfl
     have hW := hW.alloc
     rw [alloc_sz] at hW
     refine hK.out _ _ ⟨(HA.out _ _ hW.act).1, (HA.out _ _ hW.act).2.1, (HA.out _ _ hW.act).2.2.1, (HA.out _ _ hW.act).2.2.2.1, (HA.out _ _ hW.act).2.2.2.2.1, (HA.out _ _ hW.act).2.2.2.2.2.1, (HA.out _ _ hW.act).2.2.2.2.2.2.1, (HA.out _ _ hW.act).2.2.2.2.2.2.2⟩ (fun hHeld => ?_)
     clear hK K
     refine norm_ (a' := ?_) ?_ ?_
     rotate_left
     ·show Act.put _ (some 4) _ = _
      simp only [Act.put, sA, sZ, sS, i64_w, i32_w]
      rfl
     exact norm_ (by simp only [putAll, Act.put, sA, sZ, sS]) (hCont (w4.heap.size, w4.heap.size + 1) _ hW.swap)
    ·skip
     refine value_ (w1 := ?_) (v := ?_) (by rfl) rfl ?_ ?_
     rotate_left 2
     ·go_simp
      constructor
      ·rfl
      ·rfl
     have hW := hW.alloc
     refine hK.out _ _ ⟨(HA.out _ _ hW.act).1, (HA.out _ _ hW.act).2.1, (HA.out _ _ hW.act).2.2.1, (HA.out _ _ hW.act).2.2.2.1, (HA.out _ _ hW.act).2.2.2.2.1, (HA.out _ _ hW.act).2.2.2.2.2.1, (HA.out _ _ hW.act).2.2.2.2.2.2.1, (HA.out _ _ hW.act).2.2.2.2.2.2.2⟩ (fun hHeld => ?_)
     clear hK K
     refine norm_ (a' := ?_) ?_ ?_
     rotate_left
     ·show Act.put _ (some 4) _ = _
      simp only [Act.put, sA, sZ, sS, i64_w, i32_w]
      rfl
     refine one_ (i := 6) (N := some 3) (bs 10 255) rfl rfl (by kernel_rfl) (by decide) (fun K hK => ?_)
     refine value_ (w1 := ?_) (v := ?_) (by rfl) rfl ?_ ?_
     rotate_left 2
     ·go_simp
      constructor
      ·rfl
      ·rfl
     have hW := hW.alloc
     rw [alloc_sz] at hW
     refine hK.out _ _ ⟨(HA.out _ _ hW.act).1, (HA.out _ _ hW.act).2.1, (HA.out _ _ hW.act).2.2.1, (HA.out _ _ hW.act).2.2.2.1, (HA.out _ _ hW.act).2.2.2.2.1, (HA.out _ _ hW.act).2.2.2.2.2.1, (HA.out _ _ hW.act).2.2.2.2.2.2.1, (HA.out _ _ hW.act).2.2.2.2.2.2.2⟩ (fun hHeld => ?_)
     clear hK K
     refine norm_ (a' := ?_) ?_ ?_
     rotate_left
     ·show Act.put _ (some 3) _ = _
      simp only [Act.put, sA, sZ, sS, i64_w, i32_w]
      rfl
     exact norm_ (by simp only [putAll, Act.put, sA, sZ, sS]) (hCont (w4.heap.size + 1, w4.heap.size) _ hW)
   ·skip
    refine value_ (w1 := ?_) (v := ?_) (by rfl) rfl ?_ ?_
    rotate_left 2
    ·go_simp
     constructor
     ·rfl
     ·rfl
    have hW := hW.alloc
    refine hK.out _ _ ⟨(HA.out _ _ hW.act).1, (HA.out _ _ hW.act).2.1, (HA.out _ _ hW.act).2.2.1, (HA.out _ _ hW.act).2.2.2.1, (HA.out _ _ hW.act).2.2.2.2.1, (HA.out _ _ hW.act).2.2.2.2.2.1, (HA.out _ _ hW.act).2.2.2.2.2.2.1, (HA.out _ _ hW.act).2.2.2.2.2.2.2⟩ (fun hHeld => ?_)
    clear hK K
    refine norm_ (a' := ?_) ?_ ?_
    rotate_left
    ·show Act.put _ (some 3) _ = _
     simp only [Act.put, sA, sZ, sS, i64_w, i32_w]
     rfl
    refine two_ (i := 5) (j := 7) (Ni := some 14) (Nj := some 4) (bs 10 127) (bs 10 223) rfl rfl rfl rfl (by kernel_rfl) (by decide) (by decide) (fun K hK => ?_) (fun K hK => ?_)
    ·skip
     refine goes_ Tryz.func7 (by kernel_rfl) rfl #[.pointer (some ⟨t, 0, none⟩), .agg act7] (by rfl) rfl rfl (by simp only [List.map_toArray, List.map_cons, List.map_nil]; rfl) ?_
     with_reducible refine ((HC2.out _ _ _ _ hW)).mono ?_
     rintro e w4 ⟨rfl, hW⟩
     refine ⟨_, rfl, ?_⟩
     refine hK.out _ _ ⟨(HA.out _ _ hW.act).1, (HA.out _ _ hW.act).2.1, (HA.out _ _ hW.act).2.2.1, (HA.out _ _ hW.act).2.2.2.1, (HA.out _ _ hW.act).2.2.2.2.1, (HA.out _ _ hW.act).2.2.2.2.2.1, (HA.out _ _ hW.act).2.2.2.2.2.2.1, (HA.out _ _ hW.act).2.2.2.2.2.2.2⟩ (fun hHeld => ?_)
     clear hK K
     refine norm_ (a' := ?_) ?_ ?_
     rotate_left
     ·show Act.put _ (some 14) _ = _
      simp only [Act.put, sA, sZ, sS, i64_w, i32_w]
      rfl
     refine one_ (i := 7) (N := some 4) (bs 10 255) rfl rfl (by kernel_rfl) (by decide) (fun K hK => ?_)
     refine value_ (w1 := ?_) (v := ?_) (by rfl) rfl ?_ ?_
     rotate_left 2
     ·go_simp
      constructor
      ·rfl
      ·rfl
     have hW := hW.alloc
     refine hK.out _ _ ⟨(HA.out _ _ hW.act).1, (HA.out _ _ hW.act).2.1, (HA.out _ _ hW.act).2.2.1, (HA.out _ _ hW.act).2.2.2.1, (HA.out _ _ hW.act).2.2.2.2.1, (HA.out _ _ hW.act).2.2.2.2.2.1, (HA.out _ _ hW.act).2.2.2.2.2.2.1, (HA.out _ _ hW.act).2.2.2.2.2.2.2⟩ (fun hHeld => ?_)
     clear hK K
     refine norm_ (a' := ?_) ?_ ?_
     rotate_left
     ·show Act.put _ (some 4) _ = _
      simp only [Act.put, sA, sZ, sS, i64_w, i32_w]
      rfl
     exact norm_ (by simp only [putAll, Act.put, sA, sZ, sS]) (hCont (w3.heap.size, w4.heap.size) _ hW.swap)
    ·skip
     refine value_ (w1 := ?_) (v := ?_) (by rfl) rfl ?_ ?_
     rotate_left 2
     ·go_simp
      constructor
      ·rfl
      ·rfl
     have hW := hW.alloc
     rw [alloc_sz] at hW
     refine hK.out _ _ ⟨(HA.out _ _ hW.act).1, (HA.out _ _ hW.act).2.1, (HA.out _ _ hW.act).2.2.1, (HA.out _ _ hW.act).2.2.2.1, (HA.out _ _ hW.act).2.2.2.2.1, (HA.out _ _ hW.act).2.2.2.2.2.1, (HA.out _ _ hW.act).2.2.2.2.2.2.1, (HA.out _ _ hW.act).2.2.2.2.2.2.2⟩ (fun hHeld => ?_)
     clear hK K
     refine norm_ (a' := ?_) ?_ ?_
     rotate_left
     ·show Act.put _ (some 4) _ = _
      simp only [Act.put, sA, sZ, sS, i64_w, i32_w]
      rfl
     refine one_ (i := 5) (N := some 14) (bs 10 255) rfl rfl (by kernel_rfl) (by decide) (fun K hK => ?_)
     refine goes_ Tryz.func7 (by kernel_rfl) rfl #[.pointer (some ⟨t, 0, none⟩), .agg act7] (by rfl) rfl rfl (by simp only [List.map_toArray, List.map_cons, List.map_nil]; rfl) ?_
     with_reducible refine ((HC2.out _ _ _ _ hW)).mono ?_
     rintro e w4 ⟨rfl, hW⟩
     refine ⟨_, rfl, ?_⟩
     refine hK.out _ _ ⟨(HA.out _ _ hW.act).1, (HA.out _ _ hW.act).2.1, (HA.out _ _ hW.act).2.2.1, (HA.out _ _ hW.act).2.2.2.1, (HA.out _ _ hW.act).2.2.2.2.1, (HA.out _ _ hW.act).2.2.2.2.2.1, (HA.out _ _ hW.act).2.2.2.2.2.2.1, (HA.out _ _ hW.act).2.2.2.2.2.2.2⟩ (fun hHeld => ?_)
     clear hK K
     refine norm_ (a' := ?_) ?_ ?_
     rotate_left
     ·show Act.put _ (some 14) _ = _
      simp only [Act.put, sA, sZ, sS, i64_w, i32_w]
      rfl
     exact norm_ (by simp only [putAll, Act.put, sA, sZ, sS]) (hCont (w3.heap.size, w3.heap.size + 1) _ hW.swap)
   ·skip
    refine value_ (w1 := ?_) (v := ?_) (by rfl) rfl ?_ ?_
    rotate_left 2
    ·go_simp
     constructor
     ·rfl
     ·rfl
    have hW := hW.alloc
    refine hK.out _ _ ⟨(HA.out _ _ hW.act).1, (HA.out _ _ hW.act).2.1, (HA.out _ _ hW.act).2.2.1, (HA.out _ _ hW.act).2.2.2.1, (HA.out _ _ hW.act).2.2.2.2.1, (HA.out _ _ hW.act).2.2.2.2.2.1, (HA.out _ _ hW.act).2.2.2.2.2.2.1, (HA.out _ _ hW.act).2.2.2.2.2.2.2⟩ (fun hHeld => ?_)
    clear hK K
    refine norm_ (a' := ?_) ?_ ?_
    rotate_left
    ·show Act.put _ (some 4) _ = _
     simp only [Act.put, sA, sZ, sS, i64_w, i32_w]
     rfl
    refine two_ (i := 5) (j := 6) (Ni := some 14) (Nj := some 3) (bs 10 191) (bs 10 223) rfl rfl rfl rfl (by kernel_rfl) (by decide) (by decide) (fun K hK => ?_) (fun K hK => ?_)
    ·skip
     refine goes_ Tryz.func7 (by kernel_rfl) rfl #[.pointer (some ⟨t, 0, none⟩), .agg act7] (by rfl) rfl rfl (by simp only [List.map_toArray, List.map_cons, List.map_nil]; rfl) ?_
     with_reducible refine ((HC2.out _ _ _ _ hW)).mono ?_
     rintro e w4 ⟨rfl, hW⟩
     refine ⟨_, rfl, ?_⟩
     refine hK.out _ _ ⟨(HA.out _ _ hW.act).1, (HA.out _ _ hW.act).2.1, (HA.out _ _ hW.act).2.2.1, (HA.out _ _ hW.act).2.2.2.1, (HA.out _ _ hW.act).2.2.2.2.1, (HA.out _ _ hW.act).2.2.2.2.2.1, (HA.out _ _ hW.act).2.2.2.2.2.2.1, (HA.out _ _ hW.act).2.2.2.2.2.2.2⟩ (fun hHeld => ?_)
     clear hK K
     refine norm_ (a' := ?_) ?_ ?_
     rotate_left
     ·show Act.put _ (some 14) _ = _
      simp only [Act.put, sA, sZ, sS, i64_w, i32_w]
      rfl
     refine one_ (i := 6) (N := some 3) (bs 10 255) rfl rfl (by kernel_rfl) (by decide) (fun K hK => ?_)
     refine value_ (w1 := ?_) (v := ?_) (by rfl) rfl ?_ ?_
     rotate_left 2
     ·go_simp
      constructor
      ·rfl
      ·rfl
     have hW := hW.alloc
     refine hK.out _ _ ⟨(HA.out _ _ hW.act).1, (HA.out _ _ hW.act).2.1, (HA.out _ _ hW.act).2.2.1, (HA.out _ _ hW.act).2.2.2.1, (HA.out _ _ hW.act).2.2.2.2.1, (HA.out _ _ hW.act).2.2.2.2.2.1, (HA.out _ _ hW.act).2.2.2.2.2.2.1, (HA.out _ _ hW.act).2.2.2.2.2.2.2⟩ (fun hHeld => ?_)
     clear hK K
     refine norm_ (a' := ?_) ?_ ?_
     rotate_left
     ·show Act.put _ (some 3) _ = _
      simp only [Act.put, sA, sZ, sS, i64_w, i32_w]
      rfl
     exact norm_ (by simp only [putAll, Act.put, sA, sZ, sS]) (hCont (w4.heap.size, w3.heap.size) _ hW)
    ·skip
     refine value_ (w1 := ?_) (v := ?_) (by rfl) rfl ?_ ?_
     rotate_left 2
     ·go_simp
      constructor
      ·rfl
      ·rfl
     have hW := hW.alloc
     rw [alloc_sz] at hW
     refine hK.out _ _ ⟨(HA.out _ _ hW.act).1, (HA.out _ _ hW.act).2.1, (HA.out _ _ hW.act).2.2.1, (HA.out _ _ hW.act).2.2.2.1, (HA.out _ _ hW.act).2.2.2.2.1, (HA.out _ _ hW.act).2.2.2.2.2.1, (HA.out _ _ hW.act).2.2.2.2.2.2.1, (HA.out _ _ hW.act).2.2.2.2.2.2.2⟩ (fun hHeld => ?_)
     clear hK K
     refine norm_ (a' := ?_) ?_ ?_
     rotate_left
     ·show Act.put _ (some 3) _ = _
      simp only [Act.put, sA, sZ, sS, i64_w, i32_w]
      rfl
     refine one_ (i := 5) (N := some 14) (bs 10 255) rfl rfl (by kernel_rfl) (by decide) (fun K hK => ?_)
     refine goes_ Tryz.func7 (by kernel_rfl) rfl #[.pointer (some ⟨t, 0, none⟩), .agg act7] (by rfl) rfl rfl (by simp only [List.map_toArray, List.map_cons, List.map_nil]; rfl) ?_
     with_reducible refine ((HC2.out _ _ _ _ hW)).mono ?_
     rintro e w4 ⟨rfl, hW⟩
     refine ⟨_, rfl, ?_⟩
     refine hK.out _ _ ⟨(HA.out _ _ hW.act).1, (HA.out _ _ hW.act).2.1, (HA.out _ _ hW.act).2.2.1, (HA.out _ _ hW.act).2.2.2.1, (HA.out _ _ hW.act).2.2.2.2.1, (HA.out _ _ hW.act).2.2.2.2.2.1, (HA.out _ _ hW.act).2.2.2.2.2.2.1, (HA.out _ _ hW.act).2.2.2.2.2.2.2⟩ (fun hHeld => ?_)
     clear hK K
     refine norm_ (a' := ?_) ?_ ?_
     rotate_left
     ·show Act.put _ (some 14) _ = _
      simp only [Act.put, sA, sZ, sS, i64_w, i32_w]
      rfl
     exact norm_ (by simp only [putAll, Act.put, sA, sZ, sS]) (hCont (w3.heap.size + 1, w3.heap.size) _ hW)
  ·skip
   refine value_ (w1 := ?_) (v := ?_) (by rfl) rfl ?_ ?_
   rotate_left 2
   ·go_simp
    constructor
    ·rfl
    ·rfl
   have hW0 := hW0.alloc
   have hW := hW0.drew
   refine hK.out _ _ ⟨(HA.out _ _ hW.act).1, (HA.out _ _ hW.act).2.1, (HA.out _ _ hW.act).2.2.1, (HA.out _ _ hW.act).2.2.2.1, (HA.out _ _ hW.act).2.2.2.2.1, (HA.out _ _ hW.act).2.2.2.2.2.1, (HA.out _ _ hW.act).2.2.2.2.2.2.1, (HA.out _ _ hW.act).2.2.2.2.2.2.2⟩ (fun hHeld => ?_)
   clear hK K
   refine norm_ (a' := ?_) ?_ ?_
   rotate_left
   ·show Act.put _ (some 3) _ = _
    simp only [Act.put, sA, sZ, sS, i64_w, i32_w]
    rfl
   refine two_ (i := 2) (j := 7) (Ni := some 11) (Nj := some 4) (bs 10 95) (bs 10 219) rfl rfl rfl rfl (by kernel_rfl) (by decide) (by decide) (fun K hK => ?_) (fun K hK => ?_)
   ·skip
    refine goes_ Tryz.func7 (by kernel_rfl) rfl #[.pointer (some ⟨t, 0, none⟩), .agg act7] (by rfl) rfl rfl (by simp only [List.map_toArray, List.map_cons, List.map_nil]; rfl) ?_
    with_reducible refine ((HC1.out _ _ _ _ hW)).mono ?_
    rintro e w3 ⟨rfl, hW⟩
    refine ⟨_, rfl, ?_⟩
    refine hK.out _ _ ⟨(HA.out _ _ hW.act).1, (HA.out _ _ hW.act).2.1, (HA.out _ _ hW.act).2.2.1, (HA.out _ _ hW.act).2.2.2.1, (HA.out _ _ hW.act).2.2.2.2.1, (HA.out _ _ hW.act).2.2.2.2.2.1, (HA.out _ _ hW.act).2.2.2.2.2.2.1, (HA.out _ _ hW.act).2.2.2.2.2.2.2⟩ (fun hHeld => ?_)
    clear hK K
    refine norm_ (a' := ?_) ?_ ?_
    rotate_left
    ·show Act.put _ (some 11) _ = _
     simp only [Act.put, sA, sZ, sS, i64_w, i32_w]
     rfl
    refine two_ (i := 5) (j := 7) (Ni := some 14) (Nj := some 4) (bs 10 127) (bs 10 223) rfl rfl rfl rfl (by kernel_rfl) (by decide) (by decide) (fun K hK => ?_) (fun K hK => ?_)
    ·skip
     refine goes_ Tryz.func7 (by kernel_rfl) rfl #[.pointer (some ⟨t, 0, none⟩), .agg act7] (by rfl) rfl rfl (by simp only [List.map_toArray, List.map_cons, List.map_nil]; rfl) ?_
     with_reducible refine ((HC2.out _ _ _ _ hW)).mono ?_
     rintro e w4 ⟨rfl, hW⟩
     refine ⟨_, rfl, ?_⟩
     refine hK.out _ _ ⟨(HA.out _ _ hW.act).1, (HA.out _ _ hW.act).2.1, (HA.out _ _ hW.act).2.2.1, (HA.out _ _ hW.act).2.2.2.1, (HA.out _ _ hW.act).2.2.2.2.1, (HA.out _ _ hW.act).2.2.2.2.2.1, (HA.out _ _ hW.act).2.2.2.2.2.2.1, (HA.out _ _ hW.act).2.2.2.2.2.2.2⟩ (fun hHeld => ?_)
     clear hK K
     refine norm_ (a' := ?_) ?_ ?_
     rotate_left
     ·show Act.put _ (some 14) _ = _
      simp only [Act.put, sA, sZ, sS, i64_w, i32_w]
      rfl
     refine one_ (i := 7) (N := some 4) (bs 10 255) rfl rfl (by kernel_rfl) (by decide) (fun K hK => ?_)
     refine value_ (w1 := ?_) (v := ?_) (by rfl) rfl ?_ ?_
     rotate_left 2
     ·go_simp
      constructor
      ·rfl
      ·rfl
     have hW := hW.alloc
     refine hK.out _ _ ⟨(HA.out _ _ hW.act).1, (HA.out _ _ hW.act).2.1, (HA.out _ _ hW.act).2.2.1, (HA.out _ _ hW.act).2.2.2.1, (HA.out _ _ hW.act).2.2.2.2.1, (HA.out _ _ hW.act).2.2.2.2.2.1, (HA.out _ _ hW.act).2.2.2.2.2.2.1, (HA.out _ _ hW.act).2.2.2.2.2.2.2⟩ (fun hHeld => ?_)
     clear hK K
     refine norm_ (a' := ?_) ?_ ?_
     rotate_left
     ·show Act.put _ (some 4) _ = _
      simp only [Act.put, sA, sZ, sS, i64_w, i32_w]
      rfl
     exact norm_ (by simp only [putAll, Act.put, sA, sZ, sS]) (hCont (w2.heap.size, w4.heap.size) _ hW.swap)
    ·skip
     refine value_ (w1 := ?_) (v := ?_) (by rfl) rfl ?_ ?_
     rotate_left 2
     ·go_simp
      constructor
      ·rfl
      ·rfl
     have hW := hW.alloc
     refine hK.out _ _ ⟨(HA.out _ _ hW.act).1, (HA.out _ _ hW.act).2.1, (HA.out _ _ hW.act).2.2.1, (HA.out _ _ hW.act).2.2.2.1, (HA.out _ _ hW.act).2.2.2.2.1, (HA.out _ _ hW.act).2.2.2.2.2.1, (HA.out _ _ hW.act).2.2.2.2.2.2.1, (HA.out _ _ hW.act).2.2.2.2.2.2.2⟩ (fun hHeld => ?_)
     clear hK K
     refine norm_ (a' := ?_) ?_ ?_
     rotate_left
     ·show Act.put _ (some 4) _ = _
      simp only [Act.put, sA, sZ, sS, i64_w, i32_w]
      rfl
     refine one_ (i := 5) (N := some 14) (bs 10 255) rfl rfl (by kernel_rfl) (by decide) (fun K hK => ?_)
     refine goes_ Tryz.func7 (by kernel_rfl) rfl #[.pointer (some ⟨t, 0, none⟩), .agg act7] (by rfl) rfl rfl (by simp only [List.map_toArray, List.map_cons, List.map_nil]; rfl) ?_
     with_reducible refine ((HC2.out _ _ _ _ hW)).mono ?_
     rintro e w4 ⟨rfl, hW⟩
     refine ⟨_, rfl, ?_⟩
     refine hK.out _ _ ⟨(HA.out _ _ hW.act).1, (HA.out _ _ hW.act).2.1, (HA.out _ _ hW.act).2.2.1, (HA.out _ _ hW.act).2.2.2.1, (HA.out _ _ hW.act).2.2.2.2.1, (HA.out _ _ hW.act).2.2.2.2.2.1, (HA.out _ _ hW.act).2.2.2.2.2.2.1, (HA.out _ _ hW.act).2.2.2.2.2.2.2⟩ (fun hHeld => ?_)
     clear hK K
     refine norm_ (a' := ?_) ?_ ?_
     rotate_left
     ·show Act.put _ (some 14) _ = _
      simp only [Act.put, sA, sZ, sS, i64_w, i32_w]
      rfl
     exact norm_ (by simp only [putAll, Act.put, sA, sZ, sS]) (hCont (w2.heap.size, w3.heap.size) _ hW.swap)
   ·skip
    refine value_ (w1 := ?_) (v := ?_) (by rfl) rfl ?_ ?_
    rotate_left 2
    ·go_simp
     constructor
     ·rfl
     ·rfl
    have hW0 := hW0.alloc
    rw [alloc_sz] at hW0
    have hW := hW0.drew
    refine hK.out _ _ ⟨(HA.out _ _ hW.act).1, (HA.out _ _ hW.act).2.1, (HA.out _ _ hW.act).2.2.1, (HA.out _ _ hW.act).2.2.2.1, (HA.out _ _ hW.act).2.2.2.2.1, (HA.out _ _ hW.act).2.2.2.2.2.1, (HA.out _ _ hW.act).2.2.2.2.2.2.1, (HA.out _ _ hW.act).2.2.2.2.2.2.2⟩ (fun hHeld => ?_)
    clear hK K
    refine norm_ (a' := ?_) ?_ ?_
    rotate_left
    ·show Act.put _ (some 4) _ = _
     simp only [Act.put, sA, sZ, sS, i64_w, i32_w]
     rfl
    refine one_ (i := 2) (N := some 11) (bs 10 223) rfl rfl (by kernel_rfl) (by decide) (fun K hK => ?_)
    refine goes_ Tryz.func7 (by kernel_rfl) rfl #[.pointer (some ⟨t, 0, none⟩), .agg act7] (by rfl) rfl rfl (by simp only [List.map_toArray, List.map_cons, List.map_nil]; rfl) ?_
    with_reducible refine ((HC1.out _ _ _ _ hW)).mono ?_
    rintro e w3 ⟨rfl, hW⟩
    refine ⟨_, rfl, ?_⟩
    refine hK.out _ _ ⟨(HA.out _ _ hW.act).1, (HA.out _ _ hW.act).2.1, (HA.out _ _ hW.act).2.2.1, (HA.out _ _ hW.act).2.2.2.1, (HA.out _ _ hW.act).2.2.2.2.1, (HA.out _ _ hW.act).2.2.2.2.2.1, (HA.out _ _ hW.act).2.2.2.2.2.2.1, (HA.out _ _ hW.act).2.2.2.2.2.2.2⟩ (fun hHeld => ?_)
    clear hK K
    refine norm_ (a' := ?_) ?_ ?_
    rotate_left
    ·show Act.put _ (some 11) _ = _
     simp only [Act.put, sA, sZ, sS, i64_w, i32_w]
     rfl
    refine one_ (i := 5) (N := some 14) (bs 10 255) rfl rfl (by kernel_rfl) (by decide) (fun K hK => ?_)
    refine goes_ Tryz.func7 (by kernel_rfl) rfl #[.pointer (some ⟨t, 0, none⟩), .agg act7] (by rfl) rfl rfl (by simp only [List.map_toArray, List.map_cons, List.map_nil]; rfl) ?_
    with_reducible refine ((HC2.out _ _ _ _ hW)).mono ?_
    rintro e w4 ⟨rfl, hW⟩
    refine ⟨_, rfl, ?_⟩
    refine hK.out _ _ ⟨(HA.out _ _ hW.act).1, (HA.out _ _ hW.act).2.1, (HA.out _ _ hW.act).2.2.1, (HA.out _ _ hW.act).2.2.2.1, (HA.out _ _ hW.act).2.2.2.2.1, (HA.out _ _ hW.act).2.2.2.2.2.1, (HA.out _ _ hW.act).2.2.2.2.2.2.1, (HA.out _ _ hW.act).2.2.2.2.2.2.2⟩ (fun hHeld => ?_)
    clear hK K
    refine norm_ (a' := ?_) ?_ ?_
    rotate_left
    ·show Act.put _ (some 14) _ = _
     simp only [Act.put, sA, sZ, sS, i64_w, i32_w]
     rfl
    exact norm_ (by simp only [putAll, Act.put, sA, sZ, sS]) (hCont (w2.heap.size, w2.heap.size + 1) _ hW.swap)
  ·skip
   refine value_ (w1 := ?_) (v := ?_) (by rfl) rfl ?_ ?_
   rotate_left 2
   ·go_simp
    constructor
    ·rfl
    ·rfl
   have hW0 := hW0.alloc
   have hW := hW0.drew
   refine hK.out _ _ ⟨(HA.out _ _ hW.act).1, (HA.out _ _ hW.act).2.1, (HA.out _ _ hW.act).2.2.1, (HA.out _ _ hW.act).2.2.2.1, (HA.out _ _ hW.act).2.2.2.2.1, (HA.out _ _ hW.act).2.2.2.2.2.1, (HA.out _ _ hW.act).2.2.2.2.2.2.1, (HA.out _ _ hW.act).2.2.2.2.2.2.2⟩ (fun hHeld => ?_)
   clear hK K
   refine norm_ (a' := ?_) ?_ ?_
   rotate_left
   ·show Act.put _ (some 4) _ = _
    simp only [Act.put, sA, sZ, sS, i64_w, i32_w]
    rfl
   refine two_ (i := 2) (j := 6) (Ni := some 11) (Nj := some 3) (bs 10 159) (bs 10 219) rfl rfl rfl rfl (by kernel_rfl) (by decide) (by decide) (fun K hK => ?_) (fun K hK => ?_)
   ·skip
    refine goes_ Tryz.func7 (by kernel_rfl) rfl #[.pointer (some ⟨t, 0, none⟩), .agg act7] (by rfl) rfl rfl (by simp only [List.map_toArray, List.map_cons, List.map_nil]; rfl) ?_
    with_reducible refine ((HC1.out _ _ _ _ hW)).mono ?_
    rintro e w3 ⟨rfl, hW⟩
    refine ⟨_, rfl, ?_⟩
    refine hK.out _ _ ⟨(HA.out _ _ hW.act).1, (HA.out _ _ hW.act).2.1, (HA.out _ _ hW.act).2.2.1, (HA.out _ _ hW.act).2.2.2.1, (HA.out _ _ hW.act).2.2.2.2.1, (HA.out _ _ hW.act).2.2.2.2.2.1, (HA.out _ _ hW.act).2.2.2.2.2.2.1, (HA.out _ _ hW.act).2.2.2.2.2.2.2⟩ (fun hHeld => ?_)
    clear hK K
    refine norm_ (a' := ?_) ?_ ?_
    rotate_left
    ·show Act.put _ (some 11) _ = _
     simp only [Act.put, sA, sZ, sS, i64_w, i32_w]
     rfl
    refine two_ (i := 5) (j := 6) (Ni := some 14) (Nj := some 3) (bs 10 191) (bs 10 223) rfl rfl rfl rfl (by kernel_rfl) (by decide) (by decide) (fun K hK => ?_) (fun K hK => ?_)
    ·skip
     refine goes_ Tryz.func7 (by kernel_rfl) rfl #[.pointer (some ⟨t, 0, none⟩), .agg act7] (by rfl) rfl rfl (by simp only [List.map_toArray, List.map_cons, List.map_nil]; rfl) ?_
     with_reducible refine ((HC2.out _ _ _ _ hW)).mono ?_
     rintro e w4 ⟨rfl, hW⟩
     refine ⟨_, rfl, ?_⟩
     refine hK.out _ _ ⟨(HA.out _ _ hW.act).1, (HA.out _ _ hW.act).2.1, (HA.out _ _ hW.act).2.2.1, (HA.out _ _ hW.act).2.2.2.1, (HA.out _ _ hW.act).2.2.2.2.1, (HA.out _ _ hW.act).2.2.2.2.2.1, (HA.out _ _ hW.act).2.2.2.2.2.2.1, (HA.out _ _ hW.act).2.2.2.2.2.2.2⟩ (fun hHeld => ?_)
     clear hK K
     refine norm_ (a' := ?_) ?_ ?_
     rotate_left
     ·show Act.put _ (some 14) _ = _
      simp only [Act.put, sA, sZ, sS, i64_w, i32_w]
      rfl
     refine one_ (i := 6) (N := some 3) (bs 10 255) rfl rfl (by kernel_rfl) (by decide) (fun K hK => ?_)
     refine value_ (w1 := ?_) (v := ?_) (by rfl) rfl ?_ ?_
     rotate_left 2
     ·go_simp
      constructor
      ·rfl
      ·rfl
     have hW := hW.alloc
     refine hK.out _ _ ⟨(HA.out _ _ hW.act).1, (HA.out _ _ hW.act).2.1, (HA.out _ _ hW.act).2.2.1, (HA.out _ _ hW.act).2.2.2.1, (HA.out _ _ hW.act).2.2.2.2.1, (HA.out _ _ hW.act).2.2.2.2.2.1, (HA.out _ _ hW.act).2.2.2.2.2.2.1, (HA.out _ _ hW.act).2.2.2.2.2.2.2⟩ (fun hHeld => ?_)
     clear hK K
     refine norm_ (a' := ?_) ?_ ?_
     rotate_left
     ·show Act.put _ (some 3) _ = _
      simp only [Act.put, sA, sZ, sS, i64_w, i32_w]
      rfl
     exact norm_ (by simp only [putAll, Act.put, sA, sZ, sS]) (hCont (w4.heap.size, w2.heap.size) _ hW)
    ·skip
     refine value_ (w1 := ?_) (v := ?_) (by rfl) rfl ?_ ?_
     rotate_left 2
     ·go_simp
      constructor
      ·rfl
      ·rfl
     have hW := hW.alloc
     refine hK.out _ _ ⟨(HA.out _ _ hW.act).1, (HA.out _ _ hW.act).2.1, (HA.out _ _ hW.act).2.2.1, (HA.out _ _ hW.act).2.2.2.1, (HA.out _ _ hW.act).2.2.2.2.1, (HA.out _ _ hW.act).2.2.2.2.2.1, (HA.out _ _ hW.act).2.2.2.2.2.2.1, (HA.out _ _ hW.act).2.2.2.2.2.2.2⟩ (fun hHeld => ?_)
     clear hK K
     refine norm_ (a' := ?_) ?_ ?_
     rotate_left
     ·show Act.put _ (some 3) _ = _
      simp only [Act.put, sA, sZ, sS, i64_w, i32_w]
      rfl
     refine one_ (i := 5) (N := some 14) (bs 10 255) rfl rfl (by kernel_rfl) (by decide) (fun K hK => ?_)
     refine goes_ Tryz.func7 (by kernel_rfl) rfl #[.pointer (some ⟨t, 0, none⟩), .agg act7] (by rfl) rfl rfl (by simp only [List.map_toArray, List.map_cons, List.map_nil]; rfl) ?_
     with_reducible refine ((HC2.out _ _ _ _ hW)).mono ?_
     rintro e w4 ⟨rfl, hW⟩
     refine ⟨_, rfl, ?_⟩
     refine hK.out _ _ ⟨(HA.out _ _ hW.act).1, (HA.out _ _ hW.act).2.1, (HA.out _ _ hW.act).2.2.1, (HA.out _ _ hW.act).2.2.2.1, (HA.out _ _ hW.act).2.2.2.2.1, (HA.out _ _ hW.act).2.2.2.2.2.1, (HA.out _ _ hW.act).2.2.2.2.2.2.1, (HA.out _ _ hW.act).2.2.2.2.2.2.2⟩ (fun hHeld => ?_)
     clear hK K
     refine norm_ (a' := ?_) ?_ ?_
     rotate_left
     ·show Act.put _ (some 14) _ = _
      simp only [Act.put, sA, sZ, sS, i64_w, i32_w]
      rfl
     exact norm_ (by simp only [putAll, Act.put, sA, sZ, sS]) (hCont (w3.heap.size, w2.heap.size) _ hW)
   ·skip
    refine value_ (w1 := ?_) (v := ?_) (by rfl) rfl ?_ ?_
    rotate_left 2
    ·go_simp
     constructor
     ·rfl
     ·rfl
    have hW0 := hW0.alloc
    rw [alloc_sz] at hW0
    have hW := hW0.drew
    refine hK.out _ _ ⟨(HA.out _ _ hW.act).1, (HA.out _ _ hW.act).2.1, (HA.out _ _ hW.act).2.2.1, (HA.out _ _ hW.act).2.2.2.1, (HA.out _ _ hW.act).2.2.2.2.1, (HA.out _ _ hW.act).2.2.2.2.2.1, (HA.out _ _ hW.act).2.2.2.2.2.2.1, (HA.out _ _ hW.act).2.2.2.2.2.2.2⟩ (fun hHeld => ?_)
    clear hK K
    refine norm_ (a' := ?_) ?_ ?_
    rotate_left
    ·show Act.put _ (some 3) _ = _
     simp only [Act.put, sA, sZ, sS, i64_w, i32_w]
     rfl
    refine one_ (i := 2) (N := some 11) (bs 10 223) rfl rfl (by kernel_rfl) (by decide) (fun K hK => ?_)
    refine goes_ Tryz.func7 (by kernel_rfl) rfl #[.pointer (some ⟨t, 0, none⟩), .agg act7] (by rfl) rfl rfl (by simp only [List.map_toArray, List.map_cons, List.map_nil]; rfl) ?_
    with_reducible refine ((HC1.out _ _ _ _ hW)).mono ?_
    rintro e w3 ⟨rfl, hW⟩
    refine ⟨_, rfl, ?_⟩
    refine hK.out _ _ ⟨(HA.out _ _ hW.act).1, (HA.out _ _ hW.act).2.1, (HA.out _ _ hW.act).2.2.1, (HA.out _ _ hW.act).2.2.2.1, (HA.out _ _ hW.act).2.2.2.2.1, (HA.out _ _ hW.act).2.2.2.2.2.1, (HA.out _ _ hW.act).2.2.2.2.2.2.1, (HA.out _ _ hW.act).2.2.2.2.2.2.2⟩ (fun hHeld => ?_)
    clear hK K
    refine norm_ (a' := ?_) ?_ ?_
    rotate_left
    ·show Act.put _ (some 11) _ = _
     simp only [Act.put, sA, sZ, sS, i64_w, i32_w]
     rfl
    refine one_ (i := 5) (N := some 14) (bs 10 255) rfl rfl (by kernel_rfl) (by decide) (fun K hK => ?_)
    refine goes_ Tryz.func7 (by kernel_rfl) rfl #[.pointer (some ⟨t, 0, none⟩), .agg act7] (by rfl) rfl rfl (by simp only [List.map_toArray, List.map_cons, List.map_nil]; rfl) ?_
    with_reducible refine ((HC2.out _ _ _ _ hW)).mono ?_
    rintro e w4 ⟨rfl, hW⟩
    refine ⟨_, rfl, ?_⟩
    refine hK.out _ _ ⟨(HA.out _ _ hW.act).1, (HA.out _ _ hW.act).2.1, (HA.out _ _ hW.act).2.2.1, (HA.out _ _ hW.act).2.2.2.1, (HA.out _ _ hW.act).2.2.2.2.1, (HA.out _ _ hW.act).2.2.2.2.2.1, (HA.out _ _ hW.act).2.2.2.2.2.2.1, (HA.out _ _ hW.act).2.2.2.2.2.2.2⟩ (fun hHeld => ?_)
    clear hK K
    refine norm_ (a' := ?_) ?_ ?_
    rotate_left
    ·show Act.put _ (some 14) _ = _
     simp only [Act.put, sA, sZ, sS, i64_w, i32_w]
     rfl
    exact norm_ (by simp only [putAll, Act.put, sA, sZ, sS]) (hCont (w2.heap.size + 1, w2.heap.size) _ hW)
 rintro ⟨s1, s2⟩ w5 hW
 have hHeld := HA.out _ _ hW.act
 refine norm_ (a' := ?_) ?_ ?_
 rotate_left
 ·simp only [putAll, Act.put, sA, sZ, sS]
  rfl
 refine last_ (i := 8) (N := none) (bs 10 511) rfl rfl (by kernel_rfl) (by decide) (fun K hK => ?_)
 have hS1 := hW.ans (x := s1) (by simp)
 have hS2 := hW.ans (x := s2) (by simp)
 have hne := hW.ne2
 have q0 := hS1.frozen 0
 have q1 := hS1.frozen 1
 have q2 := hS1.frozen 2
 have q3 := hS1.frozen 3
 have q4 := hS1.frozen 4
 have q5 := hS1.frozen 5
 have q6 := hS1.frozen 6
 have x0 := hS1.cell 0
 have x1 := hS1.cell 1
 have x2 := hS1.cell 2
 have x3 := hS1.cell 3
 have x4 := hS1.cell 4
 have x5 := hS1.cell 5
 have x6 := hS1.cell 6
 simp at x0 x1 x2 x3 x4 x5 x6
 refine skip_ (w1 := ?_) (by rfl) rfl ?_ ?_
 rotate_left
 ·go_simp
  rfl
 clear x0 q0 x1 q1 x2 q2 x3 q3 x4 q4 x5 q5 x6 q6
 have hb1 := set7 hS1 (.int .i64 0) (.int .i64 0) (.slice none 0 0) (.slice none 0 0) (.int .i64 0) (.int .i64 0) (.int .i64 0)
 have hS2 := hS2.turn hb1.2 (fun e => hne e.symm)
 have hS1 := blk7 hS1 (.int .i64 0) (.int .i64 0) (.slice none 0 0) (.slice none 0 0) (.int .i64 0) (.int .i64 0) (.int .i64 0)
 generalize hW6 : (((((((w5.setCell ⟨s1, 0, none⟩ (.int .i64 0)).setCell ⟨s1, 1, none⟩ (.int .i64 0)).setCell ⟨s1, 2, none⟩ (.slice none 0 0)).setCell ⟨s1, 3, none⟩ (.slice none 0 0)).setCell ⟨s1, 4, none⟩ (.int .i64 0)).setCell ⟨s1, 5, none⟩ (.int .i64 0)).setCell ⟨s1, 6, none⟩ (.int .i64 0)) = w6 at *
 clear hW6
 refine hK.out _ _ ?_
 clear hK K
 refine last_ (i := 9) (N := none) (bs 10 1023) rfl rfl (by kernel_rfl) (by decide) (fun K hK => ?_)
 have q0 := hS2.frozen 0
 have q1 := hS2.frozen 1
 have q2 := hS2.frozen 2
 have q3 := hS2.frozen 3
 have q4 := hS2.frozen 4
 have q5 := hS2.frozen 5
 have q6 := hS2.frozen 6
 have x0 := hS2.cell 0
 have x1 := hS2.cell 1
 have x2 := hS2.cell 2
 have x3 := hS2.cell 3
 have x4 := hS2.cell 4
 have x5 := hS2.cell 5
 have x6 := hS2.cell 6
 simp at x0 x1 x2 x3 x4 x5 x6
 refine skip_ (w1 := ?_) (by rfl) rfl ?_ ?_
 rotate_left
 ·go_simp
  rfl
 clear x0 q0 x1 q1 x2 q2 x3 q3 x4 q4 x5 q5 x6 q6
 have hb2 := set7 hS2 (.int .i64 41) (.int .i64 0) (.slice none 0 0) (.slice none 0 0) (.int .i64 0) (.int .i64 0) (.int .i64 0)
 have hS1 := hS1.turn hb2.2 (fun e => hne e)
 have hS2 := blk7 hS2 (.int .i64 41) (.int .i64 0) (.slice none 0 0) (.slice none 0 0) (.int .i64 0) (.int .i64 0) (.int .i64 0)
 generalize hW7 : (((((((w6.setCell ⟨s2, 0, none⟩ (.int .i64 41)).setCell ⟨s2, 1, none⟩ (.int .i64 0)).setCell ⟨s2, 2, none⟩ (.slice none 0 0)).setCell ⟨s2, 3, none⟩ (.slice none 0 0)).setCell ⟨s2, 4, none⟩ (.int .i64 0)).setCell ⟨s2, 5, none⟩ (.int .i64 0)).setCell ⟨s2, 6, none⟩ (.int .i64 0)) = w7 at *
 clear hW7
 refine hK.out _ _ ?_
 clear hK K
 refine done_ (by kernel_rfl) ?_
 obtain ⟨F9, M9, hT9, hb9⟩ := Wk.stored hwz hW hb1.2 hb2.2
 have HT9 := Lib.hid hT9
 have HB9 := Lib.hid hb9
 have HS1 := Lib.hid hS1
 have HS2 := Lib.hid hS2
 clear hHeld hW hb1 hb2 hS1 hS2 hT9 hb9 hW0 hne
 go_wp2_with fail
 refine (HC3.out _ _ _ _ HT9.out).mono ?_
 rintro e w8 ⟨rfl, hb8⟩
 have x1 := (HS1.out.below hb8 HS1.out.lt).cell 0
 have x2 := (HS2.out.below hb8 HS2.out.lt).cell 0
 simp at x1 x2
 have HB10 := Lib.hid (HB9.out.trans (hb8.mono HB9.out.size))
 clear hb8
 go_wp2
 go_ret
 exact ⟨by simp, HB10.out⟩
end
end Go.Proofs.YtpkhglfhpggceaaGreatDoor
namespace Go.Proofs.YtpkhglfhpggceaaGreatDoor
open Go.ChangeShapes Go.WideShapes Go.ChangeAt Go.RowKit
theorem own : ownKnob Tryz.prog.godebug = none := by kernel_rfl
theorem laidOut : laidOutB Tryz.prog = true := by kernel_rfl
def acceptCells : List Nat := [128, 191, 160, 191, 128, 159, 144, 191, 128, 143]
noncomputable def laidWorld (os : Os) : World :=
 { World.holding Tryz.prog os ⟨#[], #[], []⟩ with
  heap :=
   ((World.holding Tryz.prog os ⟨#[], #[], []⟩).heap.modify 1 (fun
    | .cells _ t frozen => .cells (Go.Pinned.utf8FirstZ.map fun (n : Nat) => Value.int .u8 n).toArray t frozen
    | o => o)).modify 2 (fun
    | .cells _ t frozen => .cells ((acceptCells ++ List.replicate 22 0).map fun (n : Nat) => Value.int .u8 n).toArray t frozen
    | o => o) }
theorem maxLen_cell {W : World} (h : W.ShapedOpen Tryz.prog) : ∃ m, W.cell? ⟨0, 0, none⟩ = some (.int .i64 m) :=
 cell_of_shapedOpen_int (zero := #[.int .i64 0]) (t := 3) h (of_decide_eq_true (by kernel_rfl)) (by kernel_rfl) rfl (by kernel_rfl) (by kernel_rfl) Tryz.underlying3
theorem globals_lt {W : World} (h : W.ShapedOpen Tryz.prog) : 0 < W.heap.size := by
 obtain ⟨m, hm⟩ := maxLen_cell h
 exact World.block_lt_of_cell? W _ hm
end Go.Proofs.YtpkhglfhpggceaaGreatDoor
namespace Go.Proofs.YtpkhglfhpggceaaGreatDoor
set_option maxRecDepth 100000
set_option maxHeartbeats 16000000
open Go.ChangeShapes Go.WideShapes Go.ChangeAt Go.RowKit Go.Deep
set_option linter.unusedVariables false
theorem cells36 : Tryz.prog.cellsOf 36 = 8 := by kernel_rfl
theorem cells3 : Tryz.prog.cellsOf 3 = 1 := by kernel_rfl
theorem cells9 : Tryz.prog.cellsOf 9 = 1 := by kernel_rfl
theorem cells28 : Tryz.prog.cellsOf 28 = 1 := by kernel_rfl
theorem cells5 : Tryz.prog.cellsOf 5 = 1 := by kernel_rfl
theorem bytes5 : Tryz.prog.bytesOf 5 = 1 := by kernel_rfl
section
variable {H : Type} {enc : TypeId × Value → H} {W : World} {base : Nat} {spare : Nat → Bool} {held : Bool}
theorem weights_in {e : TypeId} {D : Nat → DataW H} {len : Nat} {rest : List (DataW H)} {t : TypeId} (ht : Tryz.prog.underlying t = some (.slice e)) {i : Nat} (hi : i < len) {n : Nat} (hn : n ∈ (D i).weights Tryz.prog e) :
  n ∈ (DataW.slice ((List.range len).map D) rest).weights Tryz.prog t := by
 have hall : ∀ (l : List (DataW H)) (d : DataW H), d ∈ l → n ∈ d.weights Tryz.prog e → n ∈ DataW.weightsAll Tryz.prog e l := by
  intro l
  induction l with
  | nil => intro d hd; cases hd
  | cons a r ih =>
   intro d hd hn
   unfold DataW.weightsAll
   rw [List.mem_append]
   rcases List.mem_cons.1 hd with rfl | hd
   ·exact .inl hn
   ·exact .inr (ih d hd hn)
 unfold DataW.weights
 rw [ht]
 simp only [List.mem_cons, List.mem_append]
 exact .inr (.inl (hall _ (D i) (List.mem_map.2 ⟨i, List.mem_range.2 hi, rfl⟩) hn))
theorem data_open {fuel : Nat} {v : Value} {x : DataW H × List MemPlace} (h : DataW.trod enc Tryz.prog W base spare held fuel 28 [v] = some x) (hw : ∀ n ∈ x.1.weights Tryz.prog 28, n ≤ reachBytes) :
  ∃ (l : List UInt8) (A : Option Addr) (c : Nat), v = .slice A l.length c ∧ Rq W v l ∧ l.length ≤ 140737488355328 := by
 rcases open_ints Tryz.underlying28 Tryz.underlying5 cells5 h with ⟨hcs, _⟩ | ⟨a, len, cap, zs, hcs, _, hl, hm, hz, hx, hcell, hwf⟩
 ·injection hcs with hv _
  exact ⟨[], none, 0, hv, ⟨none, 0, hv, fun _ => rfl, Nat.le_refl _, Nat.zero_le _, fun j b hj => by simp at hj⟩, by simp⟩
 ·injection hcs with hv _
  have hlz : len ≤ zs.length := by rw [hz]; split <;> omega
  have hlen : ((zs.take len).map fun z : Int => UInt8.ofNat z.toNat).length = len := by simp; omega
  have hb : len ≤ 140737488355328 := by
   have h1 := hw (((lits .u8 (zs.take len) : List (DataW H)).length + (lits .u8 (zs.drop len) : List (DataW H)).length) * Tryz.prog.bytesOf 5) (by rw [hx]; unfold DataW.weights; rw [Tryz.underlying28]; exact List.mem_cons_self)
   rw [bytes5] at h1
   unfold reachBytes lits at h1
   simp at h1
   omega
  refine ⟨(zs.take len).map fun z => UInt8.ofNat z.toNat, some a, cap, by rw [hlen]; exact hv, ⟨some a, cap, by rw [hlen]; exact hv, fun e => (by cases e), by rw [hlen]; exact hl, hm, fun j b hj => ?_⟩, by rw [hlen]; exact hb⟩
  have hjl : j < len := by
   rcases Nat.lt_or_ge j len with h | h
   ·exact h
   ·rw [List.getElem?_eq_none (by rw [hlen]; exact h)] at hj; cases hj
  have hc := hcell j (by omega)
  have hzj : zs[j]? = some (zs.getD j 0) := by
   rw [List.getD_eq_getElem?_getD, List.getElem?_eq_getElem (by omega)]
   rfl
  rw [List.getElem?_map, List.getElem?_take_of_lt hjl, hzj] at hj
  have hbe : UInt8.ofNat (zs.getD j 0).toNat = b := by simpa using hj
  have hw1 := hwf _ (List.mem_of_getElem? hzj)
  generalize zs.getD j 0 = z at *
  have hr : 0 ≤ z ∧ z ≤ 255 := by simpa [Lit.wf, IntKind.min, IntKind.max, IntKind.bits, IntKind.signed] using hw1
  have hbn : ((b.toNat : Nat) : Int) = z := by
   rw [← hbe]
   have : (UInt8.ofNat z.toNat).toNat = z.toNat := UInt8.toNat_ofNat_of_lt' (show z.toNat < 256 by omega)
   rw [this]
   omega
  have hc0 := hcell 0 (by omega)
  have hs : a.spot = none := by simpa [Addr.add] using World.cell?_spot hc0
  have hlt : a.block < W.heap.size := by simpa [Addr.add] using World.block_lt_of_cell? W _ hc0
  clear hc0
  obtain ⟨g, o, sp⟩ := a
  simp only at hs hlt
  subst hs
  refine ⟨g, o, rfl, hlt, ?_⟩
  rw [hbn, ← addr_add]
  exact hc
theorem act_open {fuel : Nat} {u0 u1 u2 u3 u4 u5 u6 u7 : Value} {x : DataW H × List MemPlace} (h : DataW.trod enc Tryz.prog W base spare held fuel 36 [u0, u1, u2, u3, u4, u5, u6, u7] = some x) (hw : ∀ n ∈ x.1.weights Tryz.prog 36, n ≤ reachBytes) :
  ∃ (o : OpT) (A : Option Addr) (c : Nat), (u0 = .int .i64 o.kind ∧ u1 = .string o.path ∧ u2 = .string o.to ∧ u3 = .int .i64 o.fd ∧ u4 = .int .i64 o.n ∧ u5 = .int .i64 o.off ∧ u6 = .int .i64 o.flags ∧ u7 = .slice A o.data.length c) ∧
   (o.path.size ≤ maxLen ∧ o.to.size ≤ maxLen ∧ o.data.length ≤ 140737488355328) ∧ Rq W (.slice A o.data.length c) o.data := by
 obtain ⟨xs, n, _, hx, _, hlen, hf⟩ := DataW.trod_struct Tryz.underlying36 h
 have h0 : DataW.trod enc Tryz.prog W base spare held n 3 (([u0, u1, u2, u3, u4, u5, u6, u7].drop 0).take (Tryz.prog.cellsOf 3)) = xs[0]? := hf 0 _ rfl
 have h1 : DataW.trod enc Tryz.prog W base spare held n 9 (([u0, u1, u2, u3, u4, u5, u6, u7].drop 1).take (Tryz.prog.cellsOf 9)) = xs[1]? := hf 1 _ rfl
 have h2 : DataW.trod enc Tryz.prog W base spare held n 9 (([u0, u1, u2, u3, u4, u5, u6, u7].drop 2).take (Tryz.prog.cellsOf 9)) = xs[2]? := hf 2 _ rfl
 have h3 : DataW.trod enc Tryz.prog W base spare held n 3 (([u0, u1, u2, u3, u4, u5, u6, u7].drop 3).take (Tryz.prog.cellsOf 3)) = xs[3]? := hf 3 _ rfl
 have h4 : DataW.trod enc Tryz.prog W base spare held n 3 (([u0, u1, u2, u3, u4, u5, u6, u7].drop 4).take (Tryz.prog.cellsOf 3)) = xs[4]? := hf 4 _ rfl
 have h5 : DataW.trod enc Tryz.prog W base spare held n 3 (([u0, u1, u2, u3, u4, u5, u6, u7].drop 5).take (Tryz.prog.cellsOf 3)) = xs[5]? := hf 5 _ rfl
 have h6 : DataW.trod enc Tryz.prog W base spare held n 3 (([u0, u1, u2, u3, u4, u5, u6, u7].drop 6).take (Tryz.prog.cellsOf 3)) = xs[6]? := hf 6 _ rfl
 have h7 : DataW.trod enc Tryz.prog W base spare held n 28 (([u0, u1, u2, u3, u4, u5, u6, u7].drop 7).take (Tryz.prog.cellsOf 28)) = xs[7]? := hf 7 _ rfl
 match xs, hlen with
 | [y0, y1, y2, y3, y4, y5, y6, y7], _ =>
  rw [cells3] at h0 h3 h4 h5 h6
  rw [cells9] at h1 h2
  rw [cells28] at h7
  obtain ⟨q0, e0, _, _⟩ := DataW.trod_int Tryz.underlying3 (x := y0) (by simpa using h0)
  obtain ⟨s1, e1, _, z1⟩ := DataW.trod_string Tryz.underlying9 (x := y1) (by simpa using h1)
  obtain ⟨s2, e2, _, z2⟩ := DataW.trod_string Tryz.underlying9 (x := y2) (by simpa using h2)
  obtain ⟨q3, e3, _, _⟩ := DataW.trod_int Tryz.underlying3 (x := y3) (by simpa using h3)
  obtain ⟨q4, e4, _, _⟩ := DataW.trod_int Tryz.underlying3 (x := y4) (by simpa using h4)
  obtain ⟨q5, e5, _, _⟩ := DataW.trod_int Tryz.underlying3 (x := y5) (by simpa using h5)
  obtain ⟨q6, e6, _, _⟩ := DataW.trod_int Tryz.underlying3 (x := y6) (by simpa using h6)
  obtain ⟨l, A, c, e7, hq, hl⟩ := data_open (v := u7) (x := y7) (by simpa using h7) (fun k hk => hw k (by
   rw [hx]
   unfold DataW.weights
   rw [Tryz.underlying36]
   exact DataW.weights_mem_each (j := 7) (t := 28) (d := y7.1) rfl rfl k hk))
  simp at e0 e1 e2 e3 e4 e5 e6
  subst e7
  exact ⟨⟨q0, s1, s2, l, q4, q5, q3, q6⟩, A, c, ⟨e0, e1, e2, e3, e4, e5, e6, rfl⟩, ⟨z1, z2, hl⟩, hq⟩
instance : Inhabited OpT := ⟨⟨0, ⟨#[]⟩, ⟨#[]⟩, [], 0, 0, 0, 0⟩⟩
theorem acts_open {b0 : Nat} {v : Value} {d : DataW H} {p : List MemPlace} (hv : Value.okWide Tryz.prog W .any b0 22 v) (h : DataW.Trod enc Tryz.prog W base spare held 22 v d p) (hw : ∀ n ∈ d.weights Tryz.prog 22, n ≤ reachBytes) :
  ∃ A n c l, v = .slice A n c ∧ ActsR W A n l ∧ n ≤ c ∧ c ≤ maxLen := by
 obtain ⟨A, n, c, rfl⟩ := okWide_slice Tryz.underlying22 hv
 obtain ⟨fuel, hf⟩ := h
 rcases open_slice Tryz.underlying22 hf with ⟨hcs, _⟩ | ⟨a, len, cap, m, k, D, Pl, hcs, _, hl, hm, hmm, hx, hi⟩
 ·simp [Value.cells] at hcs
  obtain ⟨rfl, rfl, rfl⟩ := hcs
  exact ⟨_, _, _, [], rfl, ⟨rfl, fun i x hx => by simp at hx⟩, Nat.le_refl _, Nat.zero_le _⟩
 ·simp [Value.cells] at hcs
  obtain ⟨rfl, rfl, rfl⟩ := hcs
  have hde : d = _ := congrArg Prod.fst hx
  have hnm : n ≤ m := by rw [hmm]; split <;> omega
  have hel0 : ∀ i, i < n → ∃ q : OpT × Option Addr × Nat, (q.1.path.size ≤ maxLen ∧ q.1.to.size ≤ maxLen ∧ q.1.data.length ≤ 140737488355328) ∧ Rq W (.slice q.2.1 q.1.data.length q.2.2) q.1.data ∧
    ∀ (j : Nat) (u : Value), (q.1.cells q.2.1 q.1.data.length q.2.2)[j]? = some u → W.cell? (a.add (i * 8 + j)) = some u := by
   intro i hin
   obtain ⟨cs', hc, ht⟩ := hi i (by omega)
   rw [cells36] at hc
   obtain ⟨_, hcl, hat⟩ := World.cells?_some hc
   match cs', hcl with
   | [u0, u1, u2, u3, u4, u5, u6, u7], _ =>
    obtain ⟨o, A2, c2, ⟨f0, f1, f2, f3, f4, f5, f6, f7⟩, hz, hq⟩ := act_open ht fun r hr => hw r (by
     rw [hde]
     exact weights_in Tryz.underlying22 hin hr)
    subst f0 f1 f2 f3 f4 f5 f6 f7
    refine ⟨(o, A2, c2), hz, hq, fun j u hu => ?_⟩
    have hj : j < 8 := by
     rcases Nat.lt_or_ge j 8 with h | h
     ·exact h
     ·rw [Array.getElem?_eq_none (by unfold OpT.cells; simpa using h)] at hu; cases hu
    have := hat j hj
    rw [Go.Deep.add_add] at this
    rw [this]
    unfold OpT.cells at hu
    rw [← hu]
    simp
  obtain ⟨f, hf⟩ := choose_lt hel0
  refine ⟨some a, n, c, (List.range n).map fun i => (f i).1, rfl, ⟨by simp, fun i x hx => ?_⟩, hl, hm⟩
  have hin : i < n := by
   rcases Nat.lt_or_ge i n with h | h
   ·exact h
   ·rw [List.getElem?_eq_none (by simpa using h)] at hx; cases hx
  rw [List.getElem?_map, List.getElem?_range hin] at hx
  simp at hx
  subst hx
  have h00 := (hf 0 (by omega)).2.2 0 _ rfl
  have hs : a.spot = none := by simpa [Addr.add] using World.cell?_spot h00
  have hb : a.block < W.heap.size := by simpa [Addr.add] using World.block_lt_of_cell? W _ h00
  obtain ⟨b, o, sp⟩ := a
  simp only at hs hb
  subst hs
  have hadd : ∀ j, (⟨b, o, none⟩ : Addr).add j = ⟨b, o + j, none⟩ := by intro j; unfold Addr.add; split <;> simp_all
  obtain ⟨c0, c1, c2⟩ := hf i hin
  exact ⟨c0, b, o, (f i).2.1, (f i).2.2, rfl, hb, c1, fun j u hu => by have := c2 j u hu; rw [hadd, ← Nat.add_assoc] at this; exact this⟩
end
end Go.Proofs.YtpkhglfhpggceaaGreatDoor
