/- What package tree does to memory: remove (printed by genremove.py). -/
import Derived.Test.YtpkhglfhpggceaaGreatDoorMkdir
namespace Go.Proofs.YtpkhglfhpggceaaGreatDoor
set_option maxRecDepth 100000
set_option maxHeartbeats 16000000
open Go.RowKit
set_option linter.unusedVariables false
set_option linter.unusedSimpArgs false

/-- A step whose answer is some error's number. -/
def ErrPost (F : Nat → Prop) (t c : Nat) (a' : TS) (w : World) (e : Ending) (w' : World) : Prop := ∃ r : Int, StepPost F t c a' (.int .i64 r) w e w'
section
variable {F : Nat → Prop} {w w' : World} {t c : Nat} {M : TMem} {a : TS}
theorem err_same {r : Int} {w w' : World} (h : TreeIs F w t M c a) (hb : Below w.heap.size w w') : ErrPost F t (c + 2) a w (.returned (.int .i64 r)) w' := ⟨r, step_same h hb⟩
theorem TreeIs.len (h : TreeIs F w t M c a) {k : Nat} (hk : (a.nd k).kind ≠ 0) (ty : TypeId) : (Builtin.len_ #[72] ty #[.map (some (M.nb k))]).run Tryz.prog w = .ok (.int .i64 ((a.nd k).names.length : Nat)) w :=
 (h.node k hk).2.2.1.len Tryz.underlying72 ty

theorem remove10_any (o : OpT) (A : Option Addr) (n cap : Nat) (w : World) (h : TreeIs F w t M c a) (hg : Good a c) (hc : c ≤ 100000) (hp : o.path.size ≤ 1000) (hkd : o.kind = 10) :
  Calls Tryz.prog 29 #[.pointer (some ⟨t, 0, none⟩), o.val A n cap] w (ErrPost F t (c + 2) (a.removeT o) w) := by
 unfold OpT.val
 have hP := Lib.hid (fun W (h : TreeIs F W t M c a) => parent_any o.path 43 W h hg hc hp (by decide))
 have hal : aloneN o = 43 := by unfold aloneN; rw [hkd]; rfl
 have HT := Lib.hid h
 have HG := Lib.hid hg
 have HH := Lib.hid (fun W (hb : Below w.heap.size w W) => h.below hb)
 have hbad : a.removeE o ≠ 0 → a.removeT o = a := fun hx => by unfold TS.removeT; rw [if_neg hx]
 by_cases he : (a.par o.path 43).2 = 0
 ·obtain ⟨d, hd⟩ : ∃ d, a.par o.path 43 = (d, 0) := ⟨(a.par o.path 43).1, by rw [← he]⟩
  have hdir := par_dir (show (43 : Int) ≠ 0 by decide) he
  rw [hd] at hdir
  have HS := Lib.hid (spot_ok hd)
  have HE := Lib.hid he
  have hE : a.removeE o = if a.find d (nameN o.path) = 0 then 40 else if o.kind = 10 ∧ (a.nd (a.find d (nameN o.path))).kind = 2 then 43 else if o.kind = 8 ∧ (a.nd (a.find d (nameN o.path))).kind ≠ 2 then 42 else if (a.nd (a.find d (nameN o.path))).names.length ≠ 0 then 44 else 0 := by
   unfold TS.removeE; rw [hal, if_neg (fun x => x he), hd]
  have hT0 : a.removeE o = 0 → a.removeT o = a.removeS d (nameN o.path) := fun hx => by unfold TS.removeT; rw [if_pos hx, hal, hd]
  by_cases hf : findL (a.nd d).names (nameN o.path) = 0
  ·have HR := Lib.hid (show a.removeT o = a from hbad (by rw [hE, if_pos (show a.find d (nameN o.path) = 0 from hf)]; decide))
   have HF := Lib.hid hf
   clear h hg he hd hdir hf hE hT0 hbad hal
   go_enter Tryz.func29, Tryz.ntmps29
   go_wp2_with (go_at_call 59; refine (hP.out _ (HH.out _ (below_0 _ _))).mono ?_; rintro e w1 ⟨rfl, hb1⟩; rw [HS.out, HE.out, HF.out])
   go_ret
   rw [HR.out]
   exact err_same HT.out (below_ab hb1 _)
  ·have hlive := hg.find_live hf
   have hbd := hg.in_last hlive
   have hfew := hg.few
   have HD := Lib.hid (fun W h => dir_any (F := F) (t := t) (c := c) (M := M) (a := a) (findL (a.nd d).names (nameN o.path)) W h hlive (by have : a.find d (nameN o.path) = findL (a.nd d).names (nameN o.path) := rfl; omega))
   have hnz : (((findL (a.nd d).names (nameN o.path) : Nat) : Int) == 0) = false := beq_eq_false_iff_ne.2 (by omega)
   have hidb : findL (a.nd d).names (nameN o.path) ≤ 1000000 := by have : a.find d (nameN o.path) = findL (a.nd d).names (nameN o.path) := rfl; omega
   have HI := Lib.hid (show a.find d (nameN o.path) = findL (a.nd d).names (nameN o.path) from rfl)
   rw [HI.out] at hE hlive
   have HRS := Lib.hid (show a.removeS d (nameN o.path) = (a.put d (nameN o.path) 0).less (findL (a.nd d).names (nameN o.path)) from rfl)
   have HFD := Lib.hid (show a.find d (nameN o.path) ≠ 0 from hf)
   rw [if_neg hf] at hE
   generalize findL (a.nd d).names (nameN o.path) = id at *
   by_cases hdd : (a.nd id).kind = 2
   ·have HR := Lib.hid (show a.removeT o = a from hbad (by rw [hE]; rw [if_pos ⟨hkd, hdd⟩]; decide))
    rw [decide_eq_true hdd] at HD
    clear h hg he hd hdir hf hE hT0 hbad hal hdd hlive hbd hfew
    go_enter Tryz.func29, Tryz.ntmps29
    go_wp2_with (first
     | (go_at_call 59; refine (hP.out _ (HH.out _ (below_0 _ _))).mono ?_; rintro e w1 ⟨rfl, hb1⟩; rw [HS.out, HE.out]; have hX0 := (own_cells rfl hb1).1; have hlt0 := (own_cells rfl hb1).2.1; have b0 := hX0.cell 0; simp at b0; clear hX0)
     | (go_at_call 60; refine (HD.out _ (HH.out _ (below_ab hb1 _))).mono ?_; rintro e w2 ⟨rfl, rfl⟩))
    go_ret
    rw [HR.out]
    exact err_same HT.out (below_ab hb1 _)
   ·rw [decide_eq_false hdd] at HD
    have hE2 : a.removeE o = if (a.nd id).names.length ≠ 0 then 44 else 0 := by rw [hE]; rw [if_neg fun x => hdd x.2, if_neg fun x => absurd (hkd.symm.trans x.1) (by decide)]
    have HLE := Lib.hid (fun W (h : TreeIs F W t M c a) => h.len hlive)
    have HLK := Lib.hid (fun W (h : TreeIs F W t M c a) => h.look hlive hidb)
    have HNC := Lib.hid (fun W (h : TreeIs F W t M c a) => h.ncells hlive)
    have HLV := Lib.hid hlive
    have HDD := Lib.hid (show (a.nd d).kind = 2 from hdir)
    have hdb := (hg.in_last (k := d) (by rw [HDD.out]; decide)).2
    have hdb2 : d ≤ 1000000 := by omega
    by_cases hn : (a.nd id).names.length = 0
    ·have HR := Lib.hid (show a.removeT o = (a.put d (nameN o.path) 0).less id from (hT0 (by rw [hE2, if_neg fun x => x hn])).trans HRS.out)
     have hgp := hg.drop hdir (s := nameN o.path) (Nat.le_trans (nameN_size _) (by omega))
     have hne : id ≠ d := fun e => find_names HFD.out (by rw [e] at hn; exact List.eq_nil_of_length_eq_zero hn)
     have HLESS := Lib.hid (fun W (h : TreeIs F W t M c (a.put d (nameN o.path) 0)) => less_any id W h hgp (by rw [kind_put]; exact HLV.out) hidb)
     have HDN := Lib.hid (fun W (h : TreeIs F W t M c a) => h.dropName (k := d) (by rw [HDD.out]; decide) (s := nameN o.path) (Nat.le_trans (nameN_size _) (by omega)))
     have HLD := Lib.hid (fun W (h : TreeIs F W t M c a) => h.look (k := d) (by rw [HDD.out]; decide) hdb2)
     have HND := Lib.hid (fun W (h : TreeIs F W t M c a) => h.ncells (k := d) (by rw [HDD.out]; decide))
     have HN := Lib.hid hn
     clear h hg he hd hdir hf hE hT0 hbad hal hdd hlive hbd hfew hE2 hn hgp hdb
     go_enter Tryz.func29, Tryz.ntmps29
     go_wp2_with (first
      | (go_at_call 59; refine (hP.out _ (HH.out _ (below_0 _ _))).mono ?_; rintro e w1 ⟨rfl, hb1⟩; rw [HS.out, HE.out]; have hX0 := (own_cells rfl hb1).1; have hlt0 := (own_cells rfl hb1).2.1; have b0 := hX0.cell 0; simp at b0; clear hX0)
      | (go_at_call 60; refine (HD.out _ (HH.out _ (below_ab hb1 _))).mono ?_; rintro e w2 ⟨rfl, rfl⟩))
     have HB := Lib.hid (below_ab hb1 (.cells #[.int .i64 (d : Nat), .string (nameN o.path), .int .i64 (id : Nat)] 111))
     have hX := Blk.new w1 111 #[.int .i64 (d : Nat), .string (nameN o.path), .int .i64 (id : Nat)]
     have HSZ := Lib.hid (show w1.heap.size < (w1.alloc (.cells #[.int .i64 (d : Nat), .string (nameN o.path), .int .i64 (id : Nat)] 111)).heap.size by simp)
     have HSW := Lib.hid (below_a hb1).size
     clear hb1
     generalize w1.alloc (.cells #[.int .i64 (d : Nat), .string (nameN o.path), .int .i64 (id : Nat)] 111) = w2 at *
     have hT2 := HH.out _ HB.out
     obtain ⟨x0, x1, x2⟩ := hX.drew.c3
     have HX := Lib.hid hX
     obtain ⟨d0, d1, d2⟩ := hT2.drew.cells
     obtain ⟨n0, n1, n2, n3⟩ := HNC.out _ hT2.drew
     have hl1 := HLK.out _ hT2.drew
     have hl2 := HLE.out _ hT2.drew
     rw [HN.out] at hl2
     have HT2 := Lib.hid hT2
     clear hT2 hX
     go_region
     clear d0 d1 d2 n0 n1 n2 n3 hl1 hl2 x0 x1 x2
     have HT3 := Lib.hid HT2.out.drew
     have hX3 := HX.out.drew
     have HB3 := Lib.hid (show Below w.heap.size w w2.drew from HB.out.trans ⟨rfl, rfl, rfl, Nat.le_refl _, fun _ _ => rfl⟩)
     have HSZ3 := Lib.hid (show w1.heap.size < w2.drew.heap.size from HSZ.out)
     generalize w2.drew = w3 at *
     have x0 := hX3.drew.cell 0
     have x1 := hX3.drew.cell 1
     obtain ⟨d0, d1, d2⟩ := HT3.out.drew.cells
     obtain ⟨n0, n1, n2, n3⟩ := HND.out _ HT3.out.drew
     have hl1 := HLD.out _ HT3.out.drew
     obtain ⟨w4, hdr, hT4, hTu4⟩ := HDN.out _ HT3.out.drew
     have hnbd := (HT3.out.node d (by rw [HDD.out]; decide)).2.2.2.2.1
     have HNB := Lib.hid hnbd
     have hw1nb : w1.heap.size ≠ M.nb d := fun e => by
      have h1 := HT.out.lt _ hnbd
      have h2 := HSW.out
      omega
     have HX4 := Lib.hid (hX3.drew.turn hTu4 hw1nb)
     have HT4 := Lib.hid hT4
     have HTu4 := Lib.hid hTu4
     clear hT4 hTu4 hX3 hnbd hw1nb
     go_wp2_with fail
     go_region
     have x2 := HX4.out.cell 2
     clear x0 x1 d0 d1 d2 n0 n1 n2 n3 hl1 hdr
     go_wp2_with (go_at_call 70; refine (HLESS.out _ HT4.out).mono ?_; rintro e w5 ⟨rfl, hs, hTu5⟩)
     go_ret
     rw [HR.out]
     have hb3 := HB3.out
     have hTu : Turn F w3 w4 := ((Turn.refl F w3).drew).trans (S' := F) (HTu4.out.mono fun i _ e => by rw [e]; exact HNB.out) fun _ _ e => e
     have hh := step_after (c := c) (a' := (a.put d (nameN o.path) 0).less id) hb3 HT.out (w' := w5) (by
      obtain ⟨M', hs⟩ := hs
      refine ⟨M', (hs.mono (by omega)).wide (fun j hj => ?_) (fun j hj => ?_) (fun hj => ?_)⟩
      ·rcases hj with hj | hj
       ·exact .inl hj
       ·exact .inr ⟨Nat.le_trans hTu.size hj.1, hj.2⟩
      ·rcases hj with hj | hj
       ·exact Nat.lt_of_lt_of_le (HT4.out.lt j hj) hTu5.size
       ·exact hj.2
      ·rcases hj with hj | hj
       ·exact HT.out.f0 hj
       ·have := HT3.out.w0; omega) (hTu.trans hTu5 fun _ _ e => e)
     exact ⟨_, rfl, hh.1, hh.2⟩
    ·have HR := Lib.hid (show a.removeT o = a from hbad (by rw [hE2, if_pos hn]; decide))
     have hnp : (0 : Int) < (((a.nd id).names.length : Nat) : Int) := by omega
     generalize (a.nd id).names.length = nl at *
     clear h hg he hd hdir hf hE hT0 hbad hal hdd hlive hbd hfew hE2 hn hdb
     go_enter Tryz.func29, Tryz.ntmps29
     go_wp2_with (first
      | (go_at_call 59; refine (hP.out _ (HH.out _ (below_0 _ _))).mono ?_; rintro e w1 ⟨rfl, hb1⟩; rw [HS.out, HE.out]; have hX0 := (own_cells rfl hb1).1; have hlt0 := (own_cells rfl hb1).2.1; have b0 := hX0.cell 0; simp at b0; clear hX0)
      | (go_at_call 60; refine (HD.out _ (HH.out _ (below_ab hb1 _))).mono ?_; rintro e w2 ⟨rfl, rfl⟩))
     have HB := Lib.hid (below_ab hb1 (.cells #[.int .i64 (d : Nat), .string (nameN o.path), .int .i64 (id : Nat)] 111))
     have hX := Blk.new w1 111 #[.int .i64 (d : Nat), .string (nameN o.path), .int .i64 (id : Nat)]
     clear hb1
     generalize w1.alloc (.cells #[.int .i64 (d : Nat), .string (nameN o.path), .int .i64 (id : Nat)] 111) = w2 at *
     have hT2 := HH.out _ HB.out
     have x2 := hX.drew.cell 2
     obtain ⟨d0, d1, d2⟩ := hT2.drew.cells
     obtain ⟨n0, n1, n2, n3⟩ := HNC.out _ hT2.drew
     have hl1 := HLK.out _ hT2.drew
     have hl2 := HLE.out _ hT2.drew
     clear hT2 hX
     go_region
     go_wp2
     go_ret
     rw [HR.out]
     exact err_same HT.out (HB.out.trans ⟨rfl, rfl, rfl, Nat.le_refl _, fun _ _ => rfl⟩)
 ·have HS := Lib.hid (spot_bad he)
  have h1 : ((a.par o.path 43).2 != 0) = true := bne_iff_ne.2 he
  have HR := Lib.hid (show a.removeT o = a from hbad (by unfold TS.removeE; rw [hal, if_pos he]; exact he))
  clear h hg he hbad hal
  go_enter Tryz.func29, Tryz.ntmps29
  go_wp2_with (go_at_call 59; refine (hP.out _ (HH.out _ (below_0 _ _))).mono ?_; rintro e w1 ⟨rfl, hb1⟩; rw [HS.out])
  go_ret
  rw [HR.out]
  exact err_same HT.out (below_ab hb1 _)

theorem remove8_any (o : OpT) (A : Option Addr) (n cap : Nat) (w : World) (h : TreeIs F w t M c a) (hg : Good a c) (hc : c ≤ 100000) (hp : o.path.size ≤ 1000) (hkd : o.kind = 8) :
  Calls Tryz.prog 29 #[.pointer (some ⟨t, 0, none⟩), o.val A n cap] w (ErrPost F t (c + 2) (a.removeT o) w) := by
 unfold OpT.val
 have hP := Lib.hid (fun W (h : TreeIs F W t M c a) => parent_any o.path 51 W h hg hc hp (by decide))
 have hal : aloneN o = 51 := by unfold aloneN; rw [hkd]; rfl
 have HT := Lib.hid h
 have HG := Lib.hid hg
 have HH := Lib.hid (fun W (hb : Below w.heap.size w W) => h.below hb)
 have hbad : a.removeE o ≠ 0 → a.removeT o = a := fun hx => by unfold TS.removeT; rw [if_neg hx]
 by_cases he : (a.par o.path 51).2 = 0
 ·obtain ⟨d, hd⟩ : ∃ d, a.par o.path 51 = (d, 0) := ⟨(a.par o.path 51).1, by rw [← he]⟩
  have hdir := par_dir (show (51 : Int) ≠ 0 by decide) he
  rw [hd] at hdir
  have HS := Lib.hid (spot_ok hd)
  have HE := Lib.hid he
  have hE : a.removeE o = if a.find d (nameN o.path) = 0 then 40 else if o.kind = 10 ∧ (a.nd (a.find d (nameN o.path))).kind = 2 then 43 else if o.kind = 8 ∧ (a.nd (a.find d (nameN o.path))).kind ≠ 2 then 42 else if (a.nd (a.find d (nameN o.path))).names.length ≠ 0 then 44 else 0 := by
   unfold TS.removeE; rw [hal, if_neg (fun x => x he), hd]
  have hT0 : a.removeE o = 0 → a.removeT o = a.removeS d (nameN o.path) := fun hx => by unfold TS.removeT; rw [if_pos hx, hal, hd]
  by_cases hf : findL (a.nd d).names (nameN o.path) = 0
  ·have HR := Lib.hid (show a.removeT o = a from hbad (by rw [hE, if_pos (show a.find d (nameN o.path) = 0 from hf)]; decide))
   have HF := Lib.hid hf
   clear h hg he hd hdir hf hE hT0 hbad hal
   go_enter Tryz.func29, Tryz.ntmps29
   go_wp2_with (go_at_call 59; refine (hP.out _ (HH.out _ (below_0 _ _))).mono ?_; rintro e w1 ⟨rfl, hb1⟩; rw [HS.out, HE.out, HF.out])
   go_ret
   rw [HR.out]
   exact err_same HT.out (below_ab hb1 _)
  ·have hlive := hg.find_live hf
   have hbd := hg.in_last hlive
   have hfew := hg.few
   have HD := Lib.hid (fun W h => dir_any (F := F) (t := t) (c := c) (M := M) (a := a) (findL (a.nd d).names (nameN o.path)) W h hlive (by have : a.find d (nameN o.path) = findL (a.nd d).names (nameN o.path) := rfl; omega))
   have hnz : (((findL (a.nd d).names (nameN o.path) : Nat) : Int) == 0) = false := beq_eq_false_iff_ne.2 (by omega)
   have hidb : findL (a.nd d).names (nameN o.path) ≤ 1000000 := by have : a.find d (nameN o.path) = findL (a.nd d).names (nameN o.path) := rfl; omega
   have HI := Lib.hid (show a.find d (nameN o.path) = findL (a.nd d).names (nameN o.path) from rfl)
   rw [HI.out] at hE hlive
   have HRS := Lib.hid (show a.removeS d (nameN o.path) = (a.put d (nameN o.path) 0).less (findL (a.nd d).names (nameN o.path)) from rfl)
   have HFD := Lib.hid (show a.find d (nameN o.path) ≠ 0 from hf)
   rw [if_neg hf] at hE
   generalize findL (a.nd d).names (nameN o.path) = id at *
   by_cases hdd : (a.nd id).kind = 2
   ·rw [decide_eq_true hdd] at HD
    have hE2 : a.removeE o = if (a.nd id).names.length ≠ 0 then 44 else 0 := by rw [hE]; rw [if_neg fun x => absurd (hkd.symm.trans x.1) (by decide), if_neg fun x => x.2 hdd]
    have HLE := Lib.hid (fun W (h : TreeIs F W t M c a) => h.len hlive)
    have HLK := Lib.hid (fun W (h : TreeIs F W t M c a) => h.look hlive hidb)
    have HNC := Lib.hid (fun W (h : TreeIs F W t M c a) => h.ncells hlive)
    have HLV := Lib.hid hlive
    have HDD := Lib.hid (show (a.nd d).kind = 2 from hdir)
    have hdb := (hg.in_last (k := d) (by rw [HDD.out]; decide)).2
    have hdb2 : d ≤ 1000000 := by omega
    by_cases hn : (a.nd id).names.length = 0
    ·have HR := Lib.hid (show a.removeT o = (a.put d (nameN o.path) 0).less id from (hT0 (by rw [hE2, if_neg fun x => x hn])).trans HRS.out)
     have hgp := hg.drop hdir (s := nameN o.path) (Nat.le_trans (nameN_size _) (by omega))
     have hne : id ≠ d := fun e => find_names HFD.out (by rw [e] at hn; exact List.eq_nil_of_length_eq_zero hn)
     have HLESS := Lib.hid (fun W (h : TreeIs F W t M c (a.put d (nameN o.path) 0)) => less_any id W h hgp (by rw [kind_put]; exact HLV.out) hidb)
     have HDN := Lib.hid (fun W (h : TreeIs F W t M c a) => h.dropName (k := d) (by rw [HDD.out]; decide) (s := nameN o.path) (Nat.le_trans (nameN_size _) (by omega)))
     have HLD := Lib.hid (fun W (h : TreeIs F W t M c a) => h.look (k := d) (by rw [HDD.out]; decide) hdb2)
     have HND := Lib.hid (fun W (h : TreeIs F W t M c a) => h.ncells (k := d) (by rw [HDD.out]; decide))
     have HN := Lib.hid hn
     clear h hg he hd hdir hf hE hT0 hbad hal hdd hlive hbd hfew hE2 hn hgp hdb
     go_enter Tryz.func29, Tryz.ntmps29
     go_wp2_with (first
      | (go_at_call 59; refine (hP.out _ (HH.out _ (below_0 _ _))).mono ?_; rintro e w1 ⟨rfl, hb1⟩; rw [HS.out, HE.out]; have hX0 := (own_cells rfl hb1).1; have hlt0 := (own_cells rfl hb1).2.1; have b0 := hX0.cell 0; simp at b0; clear hX0)
      | (go_at_call 60; refine (HD.out _ (HH.out _ (below_ab hb1 _))).mono ?_; rintro e w2 ⟨rfl, rfl⟩))
     have HB := Lib.hid (below_ab hb1 (.cells #[.int .i64 (d : Nat), .string (nameN o.path), .int .i64 (id : Nat)] 111))
     have hX := Blk.new w1 111 #[.int .i64 (d : Nat), .string (nameN o.path), .int .i64 (id : Nat)]
     have HSZ := Lib.hid (show w1.heap.size < (w1.alloc (.cells #[.int .i64 (d : Nat), .string (nameN o.path), .int .i64 (id : Nat)] 111)).heap.size by simp)
     have HSW := Lib.hid (below_a hb1).size
     clear hb1
     generalize w1.alloc (.cells #[.int .i64 (d : Nat), .string (nameN o.path), .int .i64 (id : Nat)] 111) = w2 at *
     have hT2 := HH.out _ HB.out
     obtain ⟨x0, x1, x2⟩ := hX.drew.c3
     have HX := Lib.hid hX
     obtain ⟨d0, d1, d2⟩ := hT2.drew.cells
     obtain ⟨n0, n1, n2, n3⟩ := HNC.out _ hT2.drew
     have hl1 := HLK.out _ hT2.drew
     have hl2 := HLE.out _ hT2.drew
     rw [HN.out] at hl2
     have HT2 := Lib.hid hT2
     clear hT2 hX
     go_region
     clear d0 d1 d2 n0 n1 n2 n3 hl1 hl2 x0 x1 x2
     have HT3 := Lib.hid HT2.out.drew
     have hX3 := HX.out.drew
     have HB3 := Lib.hid (show Below w.heap.size w w2.drew from HB.out.trans ⟨rfl, rfl, rfl, Nat.le_refl _, fun _ _ => rfl⟩)
     have HSZ3 := Lib.hid (show w1.heap.size < w2.drew.heap.size from HSZ.out)
     generalize w2.drew = w3 at *
     have x0 := hX3.drew.cell 0
     have x1 := hX3.drew.cell 1
     obtain ⟨d0, d1, d2⟩ := HT3.out.drew.cells
     obtain ⟨n0, n1, n2, n3⟩ := HND.out _ HT3.out.drew
     have hl1 := HLD.out _ HT3.out.drew
     obtain ⟨w4, hdr, hT4, hTu4⟩ := HDN.out _ HT3.out.drew
     have hnbd := (HT3.out.node d (by rw [HDD.out]; decide)).2.2.2.2.1
     have HNB := Lib.hid hnbd
     have hw1nb : w1.heap.size ≠ M.nb d := fun e => by
      have h1 := HT.out.lt _ hnbd
      have h2 := HSW.out
      omega
     have HX4 := Lib.hid (hX3.drew.turn hTu4 hw1nb)
     have HT4 := Lib.hid hT4
     have HTu4 := Lib.hid hTu4
     clear hT4 hTu4 hX3 hnbd hw1nb
     go_wp2_with fail
     go_region
     have x2 := HX4.out.cell 2
     clear x0 x1 d0 d1 d2 n0 n1 n2 n3 hl1 hdr
     go_wp2_with (go_at_call 70; refine (HLESS.out _ HT4.out).mono ?_; rintro e w5 ⟨rfl, hs, hTu5⟩)
     go_ret
     rw [HR.out]
     have hb3 := HB3.out
     have hTu : Turn F w3 w4 := ((Turn.refl F w3).drew).trans (S' := F) (HTu4.out.mono fun i _ e => by rw [e]; exact HNB.out) fun _ _ e => e
     have hh := step_after (c := c) (a' := (a.put d (nameN o.path) 0).less id) hb3 HT.out (w' := w5) (by
      obtain ⟨M', hs⟩ := hs
      refine ⟨M', (hs.mono (by omega)).wide (fun j hj => ?_) (fun j hj => ?_) (fun hj => ?_)⟩
      ·rcases hj with hj | hj
       ·exact .inl hj
       ·exact .inr ⟨Nat.le_trans hTu.size hj.1, hj.2⟩
      ·rcases hj with hj | hj
       ·exact Nat.lt_of_lt_of_le (HT4.out.lt j hj) hTu5.size
       ·exact hj.2
      ·rcases hj with hj | hj
       ·exact HT.out.f0 hj
       ·have := HT3.out.w0; omega) (hTu.trans hTu5 fun _ _ e => e)
     exact ⟨_, rfl, hh.1, hh.2⟩
    ·have HR := Lib.hid (show a.removeT o = a from hbad (by rw [hE2, if_pos hn]; decide))
     have hnp : (0 : Int) < (((a.nd id).names.length : Nat) : Int) := by omega
     generalize (a.nd id).names.length = nl at *
     clear h hg he hd hdir hf hE hT0 hbad hal hdd hlive hbd hfew hE2 hn hdb
     go_enter Tryz.func29, Tryz.ntmps29
     go_wp2_with (first
      | (go_at_call 59; refine (hP.out _ (HH.out _ (below_0 _ _))).mono ?_; rintro e w1 ⟨rfl, hb1⟩; rw [HS.out, HE.out]; have hX0 := (own_cells rfl hb1).1; have hlt0 := (own_cells rfl hb1).2.1; have b0 := hX0.cell 0; simp at b0; clear hX0)
      | (go_at_call 60; refine (HD.out _ (HH.out _ (below_ab hb1 _))).mono ?_; rintro e w2 ⟨rfl, rfl⟩))
     have HB := Lib.hid (below_ab hb1 (.cells #[.int .i64 (d : Nat), .string (nameN o.path), .int .i64 (id : Nat)] 111))
     have hX := Blk.new w1 111 #[.int .i64 (d : Nat), .string (nameN o.path), .int .i64 (id : Nat)]
     clear hb1
     generalize w1.alloc (.cells #[.int .i64 (d : Nat), .string (nameN o.path), .int .i64 (id : Nat)] 111) = w2 at *
     have hT2 := HH.out _ HB.out
     have x2 := hX.drew.cell 2
     obtain ⟨d0, d1, d2⟩ := hT2.drew.cells
     obtain ⟨n0, n1, n2, n3⟩ := HNC.out _ hT2.drew
     have hl1 := HLK.out _ hT2.drew
     have hl2 := HLE.out _ hT2.drew
     clear hT2 hX
     go_region
     go_wp2
     go_ret
     rw [HR.out]
     exact err_same HT.out (HB.out.trans ⟨rfl, rfl, rfl, Nat.le_refl _, fun _ _ => rfl⟩)
   ·have HR := Lib.hid (show a.removeT o = a from hbad (by rw [hE]; rw [if_neg fun x => absurd (hkd.symm.trans x.1) (by decide), if_pos ⟨hkd, hdd⟩]; decide))
    rw [decide_eq_false hdd] at HD
    clear h hg he hd hdir hf hE hT0 hbad hal hdd hlive hbd hfew
    go_enter Tryz.func29, Tryz.ntmps29
    go_wp2_with (first
     | (go_at_call 59; refine (hP.out _ (HH.out _ (below_0 _ _))).mono ?_; rintro e w1 ⟨rfl, hb1⟩; rw [HS.out, HE.out]; have hX0 := (own_cells rfl hb1).1; have hlt0 := (own_cells rfl hb1).2.1; have b0 := hX0.cell 0; simp at b0; clear hX0)
     | (go_at_call 60; refine (HD.out _ (HH.out _ (below_ab hb1 _))).mono ?_; rintro e w2 ⟨rfl, rfl⟩))
    go_ret
    rw [HR.out]
    exact err_same HT.out (below_ab hb1 _)
 ·have HS := Lib.hid (spot_bad he)
  have h1 : ((a.par o.path 51).2 != 0) = true := bne_iff_ne.2 he
  have HR := Lib.hid (show a.removeT o = a from hbad (by unfold TS.removeE; rw [hal, if_pos he]; exact he))
  clear h hg he hbad hal
  go_enter Tryz.func29, Tryz.ntmps29
  go_wp2_with (go_at_call 59; refine (hP.out _ (HH.out _ (below_0 _ _))).mono ?_; rintro e w1 ⟨rfl, hb1⟩; rw [HS.out])
  go_ret
  rw [HR.out]
  exact err_same HT.out (below_ab hb1 _)
end
end Go.Proofs.YtpkhglfhpggceaaGreatDoor
