/- What package tree does to memory: rename (printed by genrename.py). -/
import Derived.Test.YtpkhglfhpggceaaGreatDoorEnds
namespace Go.Proofs.YtpkhglfhpggceaaGreatDoor
set_option maxRecDepth 100000
set_option maxHeartbeats 16000000
open Go.RowKit
set_option linter.unusedVariables false
set_option linter.unusedSimpArgs false

/-- What rename holds of its own: from and to. -/
structure RO (w : World) (B : Nat) (x5 x6 : Array Value) : Prop where
 b5 : Blk w B 111 x5
 b6 : Blk w (B + 1) 111 x6
theorem RO.start (w : World) (x5 x6 : Array Value) : RO ((w.alloc (.cells x5 111)).alloc (.cells x6 111)) w.heap.size x5 x6 := by
 have h5 := (Blk.new w 111 x5).alloc (.cells x6 111)
 have h6 := Blk.new (w.alloc (.cells x5 111)) 111 x6
 rw [alloc_sz] at h6
 exact ⟨h5, h6⟩
theorem RO.turn {S : Nat → Prop} {w w' : World} {B : Nat} {x5 x6 : Array Value} (h : RO w B x5 x6) (hT : Turn S w w') (hS : ∀ j, B ≤ j → ¬ S j) : RO w' B x5 x6 :=
 ⟨h.b5.turn hT (hS _ (Nat.le_refl _)), h.b6.turn hT (hS _ (by omega))⟩
theorem RO.drew {w : World} {B : Nat} {x5 x6 : Array Value} (h : RO w B x5 x6) : RO w.drew B x5 x6 := ⟨h.b5.drew, h.b6.drew⟩
section
variable {F : Nat → Prop} {w w' : World} {t c : Nat} {M : TMem} {a : TS}
theorem St.widen {w0 w1 w2 : World} (h : St (grow F w1 w2) w2 t c a) (h0 : w0.heap.size ≤ w1.heap.size) (hF : ∀ j, F j → j < w2.heap.size) (f0 : ¬ F 0) (hw : 0 < w0.heap.size) : St (grow F w0 w2) w2 t c a := by
 obtain ⟨M, h⟩ := h
 refine ⟨M, h.wide (fun j hj => ?_) (fun j hj => ?_) (fun hj => ?_)⟩
 ·rcases hj with hj | hj
  ·exact .inl hj
  ·exact .inr ⟨by omega, hj.2⟩
 ·rcases hj with hj | hj
  ·exact hF j hj
  ·exact hj.2
 ·rcases hj with hj | hj
  ·exact f0 hj
  ·omega
def RenEnds (d d2 id was : Nat) (s s2 : ByteArray) (w : World) (e : Ending) (w' : World) : Prop :=
 e = .returned (.tuple #[.agg #[.int .i64 (d : Nat), .string s, .int .i64 (id : Nat)], .agg #[.int .i64 (d2 : Nat), .string s2, .int .i64 (was : Nat)], .int .i64 0]) ∧ Below w.heap.size w w'
theorem rename_at (o : OpT) (A : Option Addr) (n cap : Nat) (d d2 id was : Nat) (s s2 : ByteArray) (w : World) (h : TreeIs F w t M c a) (hg : Good a c) (hc : c ≤ 100000)
  (hE : ∀ W, TreeIs F W t M c a → Calls Tryz.prog 71 #[.pointer (some ⟨t, 0, none⟩), o.val A n cap] W (RenEnds d d2 id was s s2 W))
  (hd : (a.nd d).kind = 2) (hd2 : (a.nd d2).kind = 2) (hs : s.size ≤ 1000) (hs2 : s2.size ≤ 1000) (hid : a.find d s = id) (hwas : a.find d2 s2 = was) (hid0 : id ≠ 0) :
  Calls Tryz.prog 31 #[.pointer (some ⟨t, 0, none⟩), o.val A n cap] w (ErrPost F t (c + 2) (a.ren d s d2 s2) w) := by
 unfold OpT.val at hE ⊢
 have HE := Lib.hid hE
 have HT := Lib.hid h
 have HG := Lib.hid hg
 have HH := Lib.hid (fun W (hb : Below w.heap.size w W) => h.below hb)
 have hren : a.ren d s d2 s2 = if id = was then a else if a.renE id was = 0 then a.renS d s d2 s2 id was else a := by unfold TS.ren; rw [hid, hwas]
 by_cases heq : id = was
 ·have HR := Lib.hid (show a.ren d s d2 s2 = a by rw [hren, if_pos heq])
  have t1 : (((id : Nat) : Int) == ((was : Nat) : Int)) = true := by rw [heq]; exact beq_self_eq_true _
  clear h hg hE hren heq
  go_enter Tryz.func31, Tryz.ntmps31
  go_wp2_with (go_at_call 71; refine (HE.out _ (HH.out _ (below_0 _ _))).mono ?_; rintro e w1 ⟨rfl, hb1⟩)
  go_ret
  rw [HR.out]
  exact err_same HT.out ((below_ab hb1 _).alloc (below_ab hb1 _).size _)
 ·rw [if_neg heq] at hren
  have t1 : (((id : Nat) : Int) == ((was : Nat) : Int)) = false := beq_eq_false_iff_ne.2 (by omega)
  have hlive : (a.nd id).kind ≠ 0 := by rw [← hid]; exact hg.find_live (by rw [hid]; exact hid0)
  have hbd := hg.in_last hlive
  have hfew := hg.few
  have hidb : id ≤ 1000000 := by omega
  have HLK := Lib.hid (fun W (h : TreeIs F W t M c a) => h.look hlive hidb)
  have HNC := Lib.hid (fun W (h : TreeIs F W t M c a) => h.ncells hlive)
  have HD1 := Lib.hid hd
  have HD2 := Lib.hid hd2
  have HLV := Lib.hid hlive
  have hdb := (hg.in_last (k := d) (by rw [hd]; decide)).2
  have hdb2 := (hg.in_last (k := d2) (by rw [hd2]; decide)).2
  have hdb : d ≤ 1000000 := by omega
  have hdb2 : d2 ≤ 1000000 := by omega
  have HID := Lib.hid hid
  have HWAS := Lib.hid hwas
  by_cases hw0 : was = 0
  ·subst hw0
   have t2 : (((0 : Nat) : Int) != 0) = false := rfl
   have t3 : (((id : Nat) : Int) == 0) = false := beq_eq_false_iff_ne.2 (by omega)
   by_cases hl : (a.nd id).links = 200
   ·have HR := Lib.hid (show a.ren d s d2 s2 = a by rw [hren, if_neg]; unfold TS.renE; rw [if_neg (fun x => x.1 rfl), if_pos hl]; decide)
    rw [hl] at HNC
    clear h hg hE hren heq hl hlive hbd hfew hd hd2 hid hwas
    go_enter Tryz.func31, Tryz.ntmps31
    go_wp2_with (go_at_call 71; refine (HE.out _ (HH.out _ (below_0 _ _))).mono ?_; rintro e w1 ⟨rfl, hb1⟩)
    have HB := Lib.hid ((below_ab hb1 (.cells #[.int .i64 (d : Nat), .string s, .int .i64 (id : Nat)] 111)).alloc (below_ab hb1 _).size (.cells #[.int .i64 (d2 : Nat), .string s2, .int .i64 ((0 : Nat) : Int)] 111))
    have HO := Lib.hid (RO.start w1 #[.int .i64 (d : Nat), .string s, .int .i64 (id : Nat)] #[.int .i64 (d2 : Nat), .string s2, .int .i64 ((0 : Nat) : Int)])
    have HSW := Lib.hid (below_a hb1).size
    clear hb1
    generalize (w1.alloc (.cells #[.int .i64 (d : Nat), .string s, .int .i64 (id : Nat)] 111)).alloc (.cells #[.int .i64 (d2 : Nat), .string s2, .int .i64 ((0 : Nat) : Int)] 111) = w2 at *
    have hT2 := HH.out _ HB.out
    have x5 := HO.out.b5.drew.cell 2
    simp at x5
    obtain ⟨d0, d1, d2'⟩ := hT2.drew.cells
    obtain ⟨n0, n1, n2, n3⟩ := HNC.out _ hT2.drew
    have hl1 := HLK.out _ hT2.drew
    clear hT2
    go_region
    go_wp2
    go_ret
    rw [HR.out]
    exact err_same HT.out (HB.out.trans drew_below')
   ·have HR := Lib.hid (show a.ren d s d2 s2 = (a.put d s 0).put d2 s2 id by rw [hren, if_pos (by unfold TS.renE; rw [if_neg (fun x => x.1 rfl), if_neg hl])]; unfold TS.renS; rw [if_neg fun x => x rfl])
    have hl200 : ((a.nd id).links == 200) = false := beq_eq_false_iff_ne.2 hl
    generalize (a.nd id).links = lk at *
    clear h hg hE hren heq hl hlive hbd hfew hd hd2 hid hwas
    go_enter Tryz.func31, Tryz.ntmps31
    go_wp2_with (go_at_call 71; refine (HE.out _ (HH.out _ (below_0 _ _))).mono ?_; rintro e w1 ⟨rfl, hb1⟩)
    have HB := Lib.hid ((below_ab hb1 (.cells #[.int .i64 (d : Nat), .string s, .int .i64 (id : Nat)] 111)).alloc (below_ab hb1 _).size (.cells #[.int .i64 (d2 : Nat), .string s2, .int .i64 ((0 : Nat) : Int)] 111))
    have HO := Lib.hid (RO.start w1 #[.int .i64 (d : Nat), .string s, .int .i64 (id : Nat)] #[.int .i64 (d2 : Nat), .string s2, .int .i64 ((0 : Nat) : Int)])
    have HSW := Lib.hid (below_a hb1).size
    clear hb1
    generalize (w1.alloc (.cells #[.int .i64 (d : Nat), .string s, .int .i64 (id : Nat)] 111)).alloc (.cells #[.int .i64 (d2 : Nat), .string s2, .int .i64 ((0 : Nat) : Int)] 111) = w2 at *
    have hT2 := HH.out _ HB.out
    have x5 := HO.out.b5.drew.cell 2
    simp at x5
    obtain ⟨d0, d1, d2'⟩ := hT2.drew.cells
    obtain ⟨n0, n1, n2, n3⟩ := HNC.out _ hT2.drew
    have hl1 := HLK.out _ hT2.drew
    clear hT2
    go_region
    clear d0 d1 d2' n0 n1 n2 n3 hl1 x5
    have HB3 := Lib.hid (show Below w.heap.size w w2.drew from HB.out.trans drew_below')
    have HO3 := Lib.hid HO.out.drew
    generalize w2.drew = w3 at *
    have hT3 := HH.out _ HB3.out
    have hdl : (a.nd d).kind ≠ 0 := by rw [HD1.out]; decide
    have hdl2 : (a.nd d2).kind ≠ 0 := by rw [HD2.out]; decide
    obtain ⟨d0, d1, d2'⟩ := hT3.drew.cells
    obtain ⟨n0, n1, n2, n3⟩ := hT3.drew.ncells hdl
    have hl1 := hT3.drew.look hdl hdb
    obtain ⟨w4, hdr, hT4, hTu4⟩ := hT3.drew.dropName hdl hs
    have x0 := HO3.out.drew.b5.cell 0
    have x1 := HO3.out.drew.b5.cell 1
    simp at x0 x1
    have HNB := Lib.hid (hT3.node d hdl).2.2.2.2.1
    have HNB2 := Lib.hid (hT3.node d2 hdl2).2.2.2.2.1
    have HO4 := Lib.hid (HO3.out.drew.turn hTu4 (fun j hj e => by
     have h1 := HT.out.lt _ HNB.out
     have h2 := HSW.out
     have h3 : j = M.nb d := e
     omega))
    have HT4 := Lib.hid hT4
    have HTu4 := Lib.hid hTu4
    have HDL := Lib.hid hdl
    have HDL2 := Lib.hid hdl2
    clear hT3 hT4 hTu4 hdl hdl2
    go_wp2_with fail
    go_region
    clear d0 d1 d2' n0 n1 n2 n3 hl1 x0 x1 hdr
    have hdl2 : ((a.put d s 0).nd d2).kind ≠ 0 := by rw [kind_put]; exact HDL2.out
    obtain ⟨d0, d1, d2'⟩ := HT4.out.drew.cells
    obtain ⟨n0, n1, n2, n3⟩ := HT4.out.drew.ncells hdl2
    have hl1 := HT4.out.drew.look hdl2 hdb2
    obtain ⟨w5, hup, hT5, hTu5⟩ := HT4.out.drew.putName hdl2 (by omega) hs2 hid0
    have x0 := HO4.out.drew.b6.cell 0
    have x1 := HO4.out.drew.b6.cell 1
    have x2 := HO4.out.drew.b5.cell 2
    simp at x0 x1 x2
    have HO5 := Lib.hid (HO4.out.drew.turn hTu5 (fun j hj e => by
     have h1 := HT.out.lt _ HNB2.out
     have h2 := HSW.out
     have h3 : j = M.nb d2 := e
     omega))
    have HT5 := Lib.hid hT5
    have HTW := Lib.hid (show Turn F w3 w5 from ((Turn.refl F w3).drew).trans (S' := F) ((HTu4.out.mono fun i _ e => by rw [e]; exact HNB.out).trans (S' := F) ((Turn.refl F w4).drew.trans (S' := F) (hTu5.mono fun i _ e => by rw [e]; exact HNB2.out) fun _ _ e => e) fun _ _ e => e) fun _ _ e => e)
    clear hT5 hTu5 hdl2
    go_wp2_with fail
    go_region
    clear d0 d1 d2' n0 n1 n2 n3 hl1 x0 x1 x2 hup
    have x2 := HO5.out.b6.cell 2
    simp at x2
    go_wp2
    go_ret
    rw [HR.out]
    have hh := step_after HB3.out HT.out (w' := w5) (c := c) (a' := (a.put d s 0).put d2 s2 id) ⟨M, (HT5.out.mono (by omega)).grown w3 HTW.out.size (by have := HT.out.w0; have := HB3.out.size; omega)⟩ HTW.out
    exact ⟨_, rfl, hh.1, hh.2⟩
  ·have t2 : (((was : Nat) : Int) != 0) = true := bne_iff_ne.2 (by omega)
   have t3 : (((id : Nat) : Int) == 0) = false := beq_eq_false_iff_ne.2 (by omega)
   have hlw : (a.nd was).kind ≠ 0 := by rw [← hwas]; exact hg.find_live (by rw [hwas]; exact hw0)
   have hbw := hg.in_last hlw
   have hwb : was ≤ 1000000 := by omega
   have HOV := Lib.hid (fun W (h : TreeIs F W t M c a) => over_any id was W h hlive hlw hidb hwb)
   have HLW := Lib.hid hlw
   by_cases hov : a.overE id was = 0
   ·rw [hov] at HOV
    by_cases hl : (a.nd id).links = 200
    ·have HR := Lib.hid (show a.ren d s d2 s2 = a by rw [hren, if_neg]; unfold TS.renE; rw [if_neg (fun x => x.2 hov), if_pos hl]; decide)
     rw [hl] at HNC
     clear h hg hE hren heq hl hlive hbd hfew hd hd2 hid hwas hlw hbw hov hw0
     go_enter Tryz.func31, Tryz.ntmps31
     go_wp2_with (first
      | (go_at_call 71; refine (HE.out _ (HH.out _ (below_0 _ _))).mono ?_; rintro e w1 ⟨rfl, hb1⟩)
      | (go_at_call 72; refine (HOV.out _ (HH.out _ ((below_ab hb1 _).alloc (below_ab hb1 _).size _))).mono ?_; rintro e w7 ⟨rfl, rfl⟩))
     have HB := Lib.hid ((below_ab hb1 (.cells #[.int .i64 (d : Nat), .string s, .int .i64 (id : Nat)] 111)).alloc (below_ab hb1 _).size (.cells #[.int .i64 (d2 : Nat), .string s2, .int .i64 (was : Nat)] 111))
     have HO := Lib.hid (RO.start w1 #[.int .i64 (d : Nat), .string s, .int .i64 (id : Nat)] #[.int .i64 (d2 : Nat), .string s2, .int .i64 (was : Nat)])
     have HSW := Lib.hid (below_a hb1).size
     clear hb1
     generalize (w1.alloc (.cells #[.int .i64 (d : Nat), .string s, .int .i64 (id : Nat)] 111)).alloc (.cells #[.int .i64 (d2 : Nat), .string s2, .int .i64 (was : Nat)] 111) = w2 at *
     have hT2 := HH.out _ HB.out
     have x5 := HO.out.b5.drew.cell 2
     simp at x5
     obtain ⟨d0, d1, d2'⟩ := hT2.drew.cells
     obtain ⟨n0, n1, n2, n3⟩ := HNC.out _ hT2.drew
     have hl1 := HLK.out _ hT2.drew
     clear hT2
     go_region
     go_wp2
     go_ret
     rw [HR.out]
     exact err_same HT.out (HB.out.trans drew_below')
    ·have HR := Lib.hid (show a.ren d s d2 s2 = ((a.put d s 0).put d2 s2 id).less was by rw [hren, if_pos (by unfold TS.renE; rw [if_neg (fun x => x.2 hov), if_neg hl])]; unfold TS.renS; rw [if_pos hw0])
     have hl200 : ((a.nd id).links == 200) = false := beq_eq_false_iff_ne.2 hl
     generalize (a.nd id).links = lk at *
     have hg1 := hg.drop hd hs
     have hg2 := hg1.put (d := d2) (by rw [kind_put]; exact hd2) hs2 (id := id) (.inr (by rw [kind_put]; exact hlive))
     have HLESS := Lib.hid (fun W (h : TreeIs F W t M (c + 1) ((a.put d s 0).put d2 s2 id)) => less_any was W h hg2 (by rw [kind_put, kind_put]; exact HLW.out) hwb)
     clear h hg hE hren heq hl hlive hbd hfew hd hd2 hid hwas hlw hbw hov hw0 hg1 hg2
     go_enter Tryz.func31, Tryz.ntmps31
     go_wp2_with (first
      | (go_at_call 71; refine (HE.out _ (HH.out _ (below_0 _ _))).mono ?_; rintro e w1 ⟨rfl, hb1⟩)
      | (go_at_call 72; refine (HOV.out _ (HH.out _ ((below_ab hb1 _).alloc (below_ab hb1 _).size _))).mono ?_; rintro e w7 ⟨rfl, rfl⟩))
     have HB := Lib.hid ((below_ab hb1 (.cells #[.int .i64 (d : Nat), .string s, .int .i64 (id : Nat)] 111)).alloc (below_ab hb1 _).size (.cells #[.int .i64 (d2 : Nat), .string s2, .int .i64 (was : Nat)] 111))
     have HO := Lib.hid (RO.start w1 #[.int .i64 (d : Nat), .string s, .int .i64 (id : Nat)] #[.int .i64 (d2 : Nat), .string s2, .int .i64 (was : Nat)])
     have HSW := Lib.hid (below_a hb1).size
     clear hb1
     generalize (w1.alloc (.cells #[.int .i64 (d : Nat), .string s, .int .i64 (id : Nat)] 111)).alloc (.cells #[.int .i64 (d2 : Nat), .string s2, .int .i64 (was : Nat)] 111) = w2 at *
     have hT2 := HH.out _ HB.out
     have x5 := HO.out.b5.drew.cell 2
     simp at x5
     obtain ⟨d0, d1, d2'⟩ := hT2.drew.cells
     obtain ⟨n0, n1, n2, n3⟩ := HNC.out _ hT2.drew
     have hl1 := HLK.out _ hT2.drew
     clear hT2
     go_region
     clear d0 d1 d2' n0 n1 n2 n3 hl1 x5
     have HB3 := Lib.hid (show Below w.heap.size w w2.drew from HB.out.trans drew_below')
     have HO3 := Lib.hid HO.out.drew
     generalize w2.drew = w3 at *
     have hT3 := HH.out _ HB3.out
     have hdl : (a.nd d).kind ≠ 0 := by rw [HD1.out]; decide
     have hdl2 : (a.nd d2).kind ≠ 0 := by rw [HD2.out]; decide
     obtain ⟨d0, d1, d2'⟩ := hT3.drew.cells
     obtain ⟨n0, n1, n2, n3⟩ := hT3.drew.ncells hdl
     have hl1 := hT3.drew.look hdl hdb
     obtain ⟨w4, hdr, hT4, hTu4⟩ := hT3.drew.dropName hdl hs
     have x0 := HO3.out.drew.b5.cell 0
     have x1 := HO3.out.drew.b5.cell 1
     simp at x0 x1
     have HNB := Lib.hid (hT3.node d hdl).2.2.2.2.1
     have HNB2 := Lib.hid (hT3.node d2 hdl2).2.2.2.2.1
     have HO4 := Lib.hid (HO3.out.drew.turn hTu4 (fun j hj e => by
      have h1 := HT.out.lt _ HNB.out
      have h2 := HSW.out
      have h3 : j = M.nb d := e
      omega))
     have HT4 := Lib.hid hT4
     have HTu4 := Lib.hid hTu4
     have HDL := Lib.hid hdl
     have HDL2 := Lib.hid hdl2
     clear hT3 hT4 hTu4 hdl hdl2
     go_wp2_with fail
     go_region
     clear d0 d1 d2' n0 n1 n2 n3 hl1 x0 x1 hdr
     have hdl2 : ((a.put d s 0).nd d2).kind ≠ 0 := by rw [kind_put]; exact HDL2.out
     obtain ⟨d0, d1, d2'⟩ := HT4.out.drew.cells
     obtain ⟨n0, n1, n2, n3⟩ := HT4.out.drew.ncells hdl2
     have hl1 := HT4.out.drew.look hdl2 hdb2
     obtain ⟨w5, hup, hT5, hTu5⟩ := HT4.out.drew.putName hdl2 (by omega) hs2 hid0
     have x0 := HO4.out.drew.b6.cell 0
     have x1 := HO4.out.drew.b6.cell 1
     have x2 := HO4.out.drew.b5.cell 2
     simp at x0 x1 x2
     have HO5 := Lib.hid (HO4.out.drew.turn hTu5 (fun j hj e => by
      have h1 := HT.out.lt _ HNB2.out
      have h2 := HSW.out
      have h3 : j = M.nb d2 := e
      omega))
     have HT5 := Lib.hid hT5
     have HTW := Lib.hid (show Turn F w3 w5 from ((Turn.refl F w3).drew).trans (S' := F) ((HTu4.out.mono fun i _ e => by rw [e]; exact HNB.out).trans (S' := F) ((Turn.refl F w4).drew.trans (S' := F) (hTu5.mono fun i _ e => by rw [e]; exact HNB2.out) fun _ _ e => e) fun _ _ e => e) fun _ _ e => e)
     clear hT5 hTu5 hdl2
     go_wp2_with fail
     go_region
     clear d0 d1 d2' n0 n1 n2 n3 hl1 x0 x1 x2 hup
     have x2 := HO5.out.b6.cell 2
     simp at x2
     go_wp2_with (go_at_call 70; refine (HLESS.out _ HT5.out).mono ?_; rintro e w6 ⟨rfl, hs6, hTu6⟩)
     go_ret
     rw [HR.out]
     have hTW2 := HTW.out.trans hTu6 fun i _ e => e
     have hh := step_after HB3.out HT.out (w' := w6) (c := c) (a' := ((a.put d s 0).put d2 s2 id).less was) ((hs6.mono (by omega)).widen HTW.out.size (fun j hj => by
      have h1 := HT.out.lt j hj
      have h2 := HB3.out.size
      have h3 := hTW2.size
      omega) HT.out.f0 (by have := HT.out.w0; have := HB3.out.size; omega)) hTW2
     exact ⟨_, rfl, hh.1, hh.2⟩
   ·have HR := Lib.hid (show a.ren d s d2 s2 = a by rw [hren, if_neg]; unfold TS.renE; rw [if_pos ⟨hw0, hov⟩]; exact hov)
    have t4 : (a.overE id was != 0) = true := bne_iff_ne.2 hov
    clear h hg hE hren heq hlive hbd hfew hd hd2 hid hwas hlw hbw hov hw0
    go_enter Tryz.func31, Tryz.ntmps31
    go_wp2_with (first
     | (go_at_call 71; refine (HE.out _ (HH.out _ (below_0 _ _))).mono ?_; rintro e w1 ⟨rfl, hb1⟩)
     | (go_at_call 72; refine (HOV.out _ (HH.out _ ((below_ab hb1 _).alloc (below_ab hb1 _).size _))).mono ?_; rintro e w7 ⟨rfl, rfl⟩))
    go_ret
    rw [HR.out]
    exact err_same HT.out ((below_ab hb1 _).alloc (below_ab hb1 _).size _)

theorem rename_any (o : OpT) (A : Option Addr) (n cap : Nat) (w : World) (h : TreeIs F w t M c a) (hg : Good a c) (hc : c ≤ 100000) (hp : o.path.size ≤ 1000) (hp2 : o.to.size ≤ 1000) :
  Calls Tryz.prog 31 #[.pointer (some ⟨t, 0, none⟩), o.val A n cap] w (ErrPost F t (c + 2) (a.renameT o) w) := by
 have hE := Lib.hid (fun W (h : TreeIs F W t M c a) => ends_any o A n cap W h hg hc hp hp2)
 by_cases he : a.endsE o = 0
 ·have hR : a.renameT o = a.ren (a.par o.path 51).1 (nameN o.path) (a.par o.to 51).1 (nameN o.to) := by unfold TS.renameT; rw [if_pos he]
  rw [hR]
  have he2 := he
  unfold TS.endsE at he2
  split at he2
  ·exact absurd he2 (by assumption)
  split at he2
  ·exact absurd he2 (by assumption)
  split at he2
  ·cases he2
  split at he2
  ·exact absurd he2 (by assumption)
  rename_i hp1
  split at he2
  ·cases he2
  rename_i hf
  split at he2
  ·cases he2
  refine rename_at o A n cap _ _ _ _ _ _ w h hg hc (fun W hW => (hE.out W hW).mono ?_) (par_dir (show (51 : Int) ≠ 0 by decide) (by simpa using hp1)) (par_dir (show (51 : Int) ≠ 0 by decide) he2) (Nat.le_trans (nameN_size _) (by omega)) (Nat.le_trans (nameN_size _) (by omega)) rfl rfl hf
  rintro e w1 ⟨⟨i1, i2, j1, j2, s1, s2, rfl, hq⟩, hb1⟩
  obtain ⟨rfl, rfl, rfl, rfl, rfl, rfl⟩ := hq he
  rw [he]
  exact ⟨rfl, hb1⟩
 ·have HT := Lib.hid h
  have HH := Lib.hid (fun W (hb : Below w.heap.size w W) => h.below hb)
  unfold OpT.val at hE ⊢
  have HR := Lib.hid (show a.renameT o = a by unfold TS.renameT; rw [if_neg he])
  have t1 : (a.endsE o != 0) = true := bne_iff_ne.2 he
  clear h hg he
  go_enter Tryz.func31, Tryz.ntmps31
  go_wp2_with (go_at_call 71; refine (hE.out _ (HH.out _ (below_0 _ _))).mono ?_; rintro e w1 ⟨⟨i1, i2, j1, j2, s1, s2, rfl, -⟩, hb1⟩)
  go_ret
  rw [HR.out]
  exact err_same HT.out ((below_ab hb1 _).alloc (below_ab hb1 _).size _)
end
end Go.Proofs.YtpkhglfhpggceaaGreatDoor
