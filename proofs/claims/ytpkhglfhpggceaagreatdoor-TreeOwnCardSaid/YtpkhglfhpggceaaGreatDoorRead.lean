/- What package tree does to memory: read (printed by genread.py). -/
import Derived.Test.YtpkhglfhpggceaaGreatDoorClone
import Derived.Deep.RegionHeld3
import Derived.IntWalk
namespace Go.Proofs.YtpkhglfhpggceaaGreatDoor
set_option maxRecDepth 100000
set_option maxHeartbeats 16000000
open Go.RowKit
set_option linter.unusedVariables false
set_option linter.unusedSimpArgs false
/-- What read and write hold of their own: what was asked, the file, the answer to be. -/
structure PO (w : World) (B : Nat) (cs fs : Array Value) : Prop where
 b0 : Blk w B 36 cs
 bf : Blk w (B + 1) 116 fs
 b1 : Blk w (B + 1 + 1) 33 zero7
theorem PO.start (w : World) (cs fs : Array Value) : PO (((w.alloc (.cells cs 36)).alloc (.cells fs 116)).alloc (.cells zero7 33)) w.heap.size cs fs := by
 have h5 := ((Blk.new w 36 cs).alloc (.cells fs 116)).alloc (.cells zero7 33)
 have h6 := (Blk.new (w.alloc (.cells cs 36)) 116 fs).alloc (.cells zero7 33)
 have h7 := Blk.new ((w.alloc (.cells cs 36)).alloc (.cells fs 116)) 33 zero7
 rw [alloc_sz] at h6
 rw [alloc_sz, alloc_sz] at h7
 exact ⟨h5, h6, h7⟩
theorem PO.below {w w' : World} {B : Nat} {cs fs : Array Value} (h : PO w B cs fs) (hb : Below w.heap.size w w') : PO w' B cs fs := ⟨h.b0.below hb h.b0.lt, h.bf.below hb h.bf.lt, h.b1.below hb h.b1.lt⟩
theorem PO.drew {w : World} {B : Nat} {cs fs : Array Value} (h : PO w B cs fs) : PO w.drew B cs fs := ⟨h.b0.drew, h.bf.drew, h.b1.drew⟩
theorem PO.turn {S : Nat → Prop} {w w' : World} {B : Nat} {cs fs : Array Value} (h : PO w B cs fs) (hT : Turn S w w') (hS : ∀ j, S j → j < B) : PO w' B cs fs :=
 ⟨h.b0.turn hT (fun e => by have := hS _ e; omega), h.bf.turn hT (fun e => by have := hS _ e; omega), h.b1.turn hT (fun e => by have := hS _ e; omega)⟩
theorem below_000 (w : World) (o o2 o3 : Obj) : Below w.heap.size w (((w.alloc o).alloc o2).alloc o3) := (below_00 w o o2).alloc (below_00 w o o2).size o3
section
variable {F : Nat → Prop} {w w' : World} {t c : Nat} {M : TMem} {a : TS}
theorem readT_bad {o : OpT} {f : FT} (h : f.2.2 % 2 = 0 ∨ o.n < 0 ∨ o.n > 4096) : a.readT o f = a := by unfold TS.readT; rw [if_pos h]
theorem read_any (o : OpT) (A : Option Addr) (n cap k : Nat) (pos mode : Int) (w : World) (h : TreeIs F w t M c a) (hg : Good a c) (hc : c ≤ 100000) (hk : (a.nd k).kind = 1) (hm : 1 ≤ mode ∧ mode ≤ 3) (hp : 0 ≤ pos ∧ pos ≤ 48640) (hf : lookO a.op o.fd = some ((k : Int), pos, mode)) :
  Calls Tryz.prog 67 #[.pointer (some ⟨t, 0, none⟩), o.val A n cap, .agg #[.int .i64 (k : Nat), .int .i64 pos, .int .i64 mode]] w (AnsPost F t (c + 2) (a.readT o ((k : Int), pos, mode)) w) := by
 unfold OpT.val
 have HT := Lib.hid h
 have HH := Lib.hid (fun W (hb : Below w.heap.size w W) => h.below hb)
 have hlive : (a.nd k).kind ≠ 0 := by rw [hk]; decide
 have hlast := (hg.in_last hlive).2
 have hfew := hg.few
 have hidb : k ≤ 1000000 := by omega
 have HLV := Lib.hid hlive
 have hdl := hg.data k
 have HF := Lib.hid hf
 obtain ⟨hm0, hm1⟩ := hm
 obtain ⟨hp0, hp1⟩ := hp
 obtain ⟨-, -, -, -, b1, -⟩ := has_in (f := mode) (by omega) (by omega)
 unfold hasB at b1
 clear h hg hk hf hlast hfew hlive
 by_cases h1 : mode % 2 = 1
 ·have t1 : (bits .and .i64 mode 1 == 0) = false := beq_eq_false_iff_ne.2 (bit_on b1 h1)
  by_cases hn : 0 ≤ o.n ∧ o.n ≤ 4096
  ·have HR := Lib.hid (show a.readT o ((k : Int), pos, mode) = a.seekT o.fd ((k : Int), pos, mode) (pos + min o.n (((a.nd k).data.length : Int) - min pos ((a.nd k).data.length : Int))) by
    unfold TS.readT
    rw [if_neg (by
     rintro (e | e | e)
     ·have e2 : mode % 2 = 0 := e
      omega
     ·omega
     ·omega)]
    rfl)
   obtain ⟨hn0, hn1⟩ := hn
   obtain ⟨p, hp⟩ : ∃ p : Nat, min pos ((a.nd k).data.length : Int) = (p : Int) := ⟨(min pos ((a.nd k).data.length : Int)).toNat, by omega⟩
   have hpl : p ≤ (a.nd k).data.length := by omega
   obtain ⟨q, hq⟩ : ∃ q : Nat, min o.n (((a.nd k).data.length - p : Nat) : Int) = (q : Int) := ⟨(min o.n (((a.nd k).data.length - p : Nat) : Int)).toNat, by omega⟩
   have hql : q ≤ (a.nd k).data.length - p := by omega
   have hq4 : q ≤ 4096 := by omega
   rw [hp, show ((a.nd k).data.length : Int) - (p : Int) = (((a.nd k).data.length - p : Nat) : Int) by omega, hq] at HR
   have hdv : ∃ A1 c1, M.dv k = .slice A1 (a.nd k).data.length c1 := by
    obtain ⟨A1, c1, e, _⟩ := (HT.out.node k HLV.out).2.1.rd
    exact ⟨A1, c1, e⟩
   obtain ⟨A1, c1, hdv⟩ := hdv
   have HBS := Lib.hid (fun W (h : TreeIs F W t M c a) => (h.node k HLV.out).2.1.bs)
   rw [hdv] at HBS
   obtain ⟨v2, hv2, hb2⟩ := (HBS.out w HT.out).from hpl
   obtain ⟨v3, hv3, hb3⟩ := hb2.to (q := q) (by rw [List.length_drop]; exact hql)
   obtain ⟨A2, c2, rfl, _⟩ := hb2.rd
   have HC := Lib.hid (fun W (hb : Below w.heap.size w W) => clone_any v3 (((a.nd k).data.drop p).take q) W (hb3.below hb) (by rw [List.length_take]; omega))
   have HQL : Hid ((((a.nd k).data.drop p).take q).length = q) := Lib.hid (by rw [List.length_take, List.length_drop, Nat.min_eq_left hql])
   rw [List.length_drop] at hv2 hv3
   have hq' : min o.n (((a.nd k).data.length - p : Nat) : Int) = (q : Int) := hq
   generalize (a.nd k).data.length - p = m2 at *
   generalize ((a.nd k).data.drop p).take q = lq at *
   have HDV := Lib.hid hdv
   have HV2 := Lib.hid hv2
   have HV3 := Lib.hid hv3
   have HM := Lib.hid hp
   have HQ := Lib.hid hq
   generalize (a.nd k).data.length = L at *
   clear hv2 hv3 hdv hq hp hq' hb2 hb3 b1 h1 HBS
   go_enter Tryz.func67, Tryz.ntmps67
   go_upto_region 5 with (fail)
   have HO := Lib.hid (PO.start w (oc o A n cap) #[.int .i64 (k : Nat), .int .i64 pos, .int .i64 mode])
   have HB := Lib.hid (below_000 w (.cells (oc o A n cap) 36) (.cells #[.int .i64 (k : Nat), .int .i64 pos, .int .i64 mode] 116) (.cells zero7 33))
   generalize ((w.alloc (.cells (oc o A n cap) 36)).alloc (.cells #[.int .i64 (k : Nat), .int .i64 pos, .int .i64 mode] 116)).alloc (.cells zero7 33) = w1 at *
   have hT1 := (HH.out _ HB.out).drew
   obtain ⟨d0, d1, d2⟩ := hT1.cells
   obtain ⟨n0, n1, n2, n3⟩ := hT1.ncells HLV.out
   have hl := hT1.look HLV.out hidb
   rw [HDV.out] at n2
   have hx0 := HO.out.drew.bf.cell 0
   simp at hx0
   clear hT1
   go_region
   clear d0 d1 d2 n0 n1 n2 n3 hl hx0
   have HO2 := Lib.hid HO.out.drew
   have HB2 := Lib.hid (show Below w.heap.size w w1.drew from HB.out.trans drew_below')
   generalize w1.drew = w2 at *
   have x1 := HO2.out.bf.cell 1
   have x4 := HO2.out.b0.cell 4
   simp at x1 x4
   have hv2 := HV2.out w2
   have hv3 := HV3.out w2
   have hp := HM.out
   have hq := HQ.out
   go_wp2_with fail
   refine (HC.out _ HB2.out).mono ?_
   rintro e w3 ⟨r, rfl, hbr, -, hb3⟩
   obtain ⟨A4, c4, rfl, -⟩ := hbr.rd
   rw [HQL.out]
   clear hbr x1 x4 hv2 hv3 hp hq
   have HO3 := Lib.hid (HO2.out.below hb3)
   have HB3 := Lib.hid (HB2.out.trans (hb3.mono HB2.out.size))
   clear hb3
   have HT3 := Lib.hid (HH.out _ HB3.out)
   go_upto_region 8 with (fail)
   have HOD := Lib.hid HO3.out.drew
   have HTD := Lib.hid HT3.out.drew
   obtain ⟨vt0, vt1, vt2⟩ := HTD.out.cells
   have va3 := HOD.out.b0.cell 3
   have vf1 := HOD.out.bf.cell 1
   simp at va3 vf1
   have hS0 := And.intro vt2 (And.intro va3 vf1)
   have HV := Lib.hid vt2
   clear vt0 vt1 vt2 va3 vf1
   have HFL : Hid (∀ j, F j → j < w.heap.size) := Lib.hid fun j e => HT.out.lt j e
   have hwr : IntKind.i64.wrap (pos + (q : Nat)) = pos + (q : Nat) := IntWalk.i64_in _ (by omega)
   go_region_held3 (fun W => W.cell? ⟨t, 2, none⟩ = some (.pointer (some ⟨M.tb, 0, none⟩)) ∧ W.cell? ⟨w.heap.size, 3, none⟩ = some (.int .i64 o.fd) ∧ W.cell? ⟨w.heap.size + 1, 1, none⟩ = some (.int .i64 pos))
    (first | exact hS0 | exact hS1)
    (first
     | (go_at_call 69
        refine (tseek_any o.fd ((k : Int), pos, mode) (pos + (q : Nat)) _ HTD.out HF.out (by omega)).mono ?_
        rintro e w9 ⟨rfl, M', hT9, hTu9, hbt⟩
        have va3 := (HOD.out.turn hTu9 HFL.out).b0.cell 3
        have vf1 := (HOD.out.turn hTu9 HFL.out).bf.cell 1
        simp at va3 vf1
        have hS1 := And.intro ((World.cell?_of_block (a := ⟨t, 2, none⟩) hbt).trans HV.out) (And.intro va3 vf1)
        have HT9 := Lib.hid hT9
        have HTu9 := Lib.hid hTu9
        clear hT9 hTu9 hbt va3 vf1))
   clear hS0 hS1
   have HOF := Lib.hid (HOD.out.turn HTu9.out HFL.out)
   have vr0 := (HOF.out).b1.cf7
   have vl := (HOF.out).b1.lt
   go_wp2_with fail
   refine bodyPost_ret (v := .agg #[.int .i64 0, .int .i64 0, .slice A4 q c4, .slice none 0 0, .int .i64 0, .int .i64 0, .int .i64 0]) (by simp [results, Tryz.results67, go_sem, vr0, vl]) rfl ?_
   rw [HR.out]
   have hW := ((Turn.of_below (S := F) HB3.out).drew).trans (S' := F) HTu9.out (fun _ _ e => e)
   exact ans_fin (F' := F) (wX := w3.drew) HT.out ⟨_, HT9.out.grown w3.drew HTu9.out.size (by have := HT.out.w0; have := HB3.out.size; exact Nat.lt_of_lt_of_le HT.out.w0 this)⟩ (by omega) hW HB3.out.size (fun j e => .inl e) (by omega) HO3.out.b1.lt (fun e => by have := HFL.out _ e; omega)
  ·have HR := Lib.hid (readT_bad (a := a) (o := o) (f := ((k : Int), pos, mode)) (.inr (by omega)))
   by_cases hn0 : o.n < 0
   all_goals
    have hn1 : ¬ 0 ≤ o.n ∨ 4096 < o.n := by omega
    clear hn
    try (have hn2 : 4096 < o.n := by omega)
    clear hn1 hdl
    go_enter Tryz.func67, Tryz.ntmps67
    go_upto_region 4 with (fail)
    go_wp2
    refine bodyPost_ret (v := .agg #[.int .i64 2, .int .i64 0, .slice none 0 0, .slice none 0 0, .int .i64 0, .int .i64 0, .int .i64 0]) (by simp [results, Tryz.results67, go_sem]) rfl ?_
    rw [HR.out]
    exact ans_same HT.out (below_000 w _ _ _)
 ·have t1 : (bits .and .i64 mode 1 == 0) = true := beq_iff_eq.2 (bit_off b1 h1)
  have HR := Lib.hid (readT_bad (a := a) (o := o) (f := ((k : Int), pos, mode)) (.inl (by show mode % 2 = 0; omega)))
  clear b1 h1 hdl
  go_enter Tryz.func67, Tryz.ntmps67
  go_wp2
  refine bodyPost_ret (v := .agg #[.int .i64 50, .int .i64 0, .slice none 0 0, .slice none 0 0, .int .i64 0, .int .i64 0, .int .i64 0]) (by simp [results, Tryz.results67, go_sem]) rfl ?_
  rw [HR.out]
  exact ans_same HT.out (below_000 w _ _ _)
end
end Go.Proofs.YtpkhglfhpggceaaGreatDoor
