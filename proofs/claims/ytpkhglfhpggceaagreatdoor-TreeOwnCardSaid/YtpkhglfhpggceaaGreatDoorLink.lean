/- What package tree does to memory: link (printed by genlink.py). -/
import Derived.Test.YtpkhglfhpggceaaGreatDoorRemove
namespace Go.Proofs.YtpkhglfhpggceaaGreatDoor
set_option maxRecDepth 100000
set_option maxHeartbeats 16000000
open Go.RowKit
set_option linter.unusedVariables false
set_option linter.unusedSimpArgs false

section
variable {F : Nat → Prop} {w w' : World} {t c : Nat} {M : TMem} {a : TS}
theorem link_any (o : OpT) (A : Option Addr) (n cap : Nat) (w : World) (h : TreeIs F w t M c a) (hg : Good a c) (hc : c ≤ 100000) (hp : o.path.size ≤ 1000) (hp2 : o.to.size ≤ 1000) :
  Calls Tryz.prog 30 #[.pointer (some ⟨t, 0, none⟩), o.val A n cap] w (ErrPost F t (c + 2) (a.linkT o) w) := by
 unfold OpT.val
 have hW := Lib.hid (fun W (h : TreeIs F W t M c a) => walk_any o.path W h hg hc hp)
 have hP := Lib.hid (fun W (h : TreeIs F W t M c a) => parent_any o.to 41 W h hg hc hp2 (by decide))
 have HT := Lib.hid h
 have HG := Lib.hid hg
 have HH := Lib.hid (fun W (hb : Below w.heap.size w W) => h.below hb)
 have hbad : a.linkE o ≠ 0 → a.linkT o = a := fun hx => by unfold TS.linkT; rw [if_neg hx]
 by_cases hw : (a.walkP o.path).2 = 0
 ·have hlive := hg.walkP_live hw
  have hbd := hg.in_last hlive
  have hfew := hg.few
  have HD := Lib.hid (fun W h => dir_any (F := F) (t := t) (c := c) (M := M) (a := a) (a.walkP o.path).1 W h hlive (by omega))
  have HW := Lib.hid hw
  have hidb : (a.walkP o.path).1 ≤ 1000000 := by omega
  have hE : a.linkE o = if (a.nd (a.walkP o.path).1).kind = 2 then 43 else if (a.par o.to 41).2 ≠ 0 then (a.par o.to 41).2 else if a.find (a.par o.to 41).1 (nameN o.to) ≠ 0 then 41 else if (a.nd (a.walkP o.path).1).links = 200 then 48 else 0 := by
   unfold TS.linkE; rw [if_neg fun x => x hw]
  have hT0 : a.linkE o = 0 → a.linkT o = a.linkS (a.walkP o.path).1 (a.par o.to 41).1 (nameN o.to) := fun hx => by unfold TS.linkT; rw [if_pos hx]
  rw [hw] at hW
  generalize (a.walkP o.path).1 = id at *
  by_cases hdd : (a.nd id).kind = 2
  ·have HR := Lib.hid (show a.linkT o = a from hbad (by rw [hE, if_pos hdd]; decide))
   rw [decide_eq_true hdd] at HD
   clear h hg hw hlive hbd hfew hE hT0 hbad hdd
   go_enter Tryz.func30, Tryz.ntmps30
   go_wp2_with (first
    | (go_at_call 10; refine (hW.out _ (HH.out _ (below_0 _ _))).mono ?_; rintro e w1 ⟨rfl, hb1⟩)
    | (go_at_call 60; refine (HD.out _ (HH.out _ (below_a hb1))).mono ?_; rintro e w2 ⟨rfl, rfl⟩))
   go_ret
   rw [HR.out]
   exact err_same HT.out (below_a hb1)
  ·rw [decide_eq_false hdd] at HD
   rw [if_neg hdd] at hE
   by_cases he : (a.par o.to 41).2 = 0
   ·obtain ⟨d, hd⟩ : ∃ d, a.par o.to 41 = (d, 0) := ⟨(a.par o.to 41).1, by rw [← he]⟩
    have hdir := par_dir (show (41 : Int) ≠ 0 by decide) he
    rw [hd] at hdir
    have HS := Lib.hid (spot_ok hd)
    have HE := Lib.hid he
    rw [if_neg (fun x => x he), hd] at hE
    rw [hd] at hT0
    by_cases hf : findL (a.nd d).names (nameN o.to) = 0
    ·have HF := Lib.hid hf
     rw [if_neg (fun x => x (show a.find d (nameN o.to) = 0 from hf))] at hE
     have hlk0 := fun W (h : TreeIs F W t M c a) => h.look hlive hidb
     have hnc0 := fun W (h : TreeIs F W t M c a) => h.ncells hlive
     have HLK := Lib.hid hlk0
     have HNC := Lib.hid hnc0
     by_cases hl : (a.nd id).links = 200
     ·have HR := Lib.hid (show a.linkT o = a from hbad (by rw [hE, if_pos hl]; decide))
      rw [hl] at HNC
      clear h hg hw hlive hbd hfew hE hT0 hbad hdd he hd hdir hf hl hlk0 hnc0
      go_enter Tryz.func30, Tryz.ntmps30
      go_wp2_with (first
       | (go_at_call 10; refine (hW.out _ (HH.out _ (below_0 _ _))).mono ?_; rintro e w1 ⟨rfl, hb1⟩; have hX0 := (own_cells rfl hb1).1; have hlt0 := (own_cells rfl hb1).2.1; have b2 := hX0.cell 2; simp at b2; clear hX0)
       | (go_at_call 60; refine (HD.out _ (HH.out _ (below_a hb1))).mono ?_; rintro e w2 ⟨rfl, rfl⟩)
       | (go_at_call 59; refine (hP.out _ (HH.out _ (below_a hb1))).mono ?_; rintro e w3 ⟨rfl, hb3⟩; rw [HS.out, HE.out, HF.out]; have hTX := HH.out _ (((below_a hb1).trans (hb3.mono (below_a hb1).size)).alloc (Nat.le_trans (below_a hb1).size hb3.size) (.cells #[.int .i64 (d : Nat), .string (nameN o.to), .int .i64 0] 111)); obtain ⟨c0, c1, c2⟩ := hTX.cells; obtain ⟨n0, n1, n2, n3⟩ := HNC.out _ hTX; have hl1 := HLK.out _ hTX; clear hTX))
      go_ret
      rw [HR.out]
      exact err_same HT.out (((below_a hb1).trans (hb3.mono (below_a hb1).size)).alloc (Nat.le_trans (below_a hb1).size hb3.size) _)
     ·have HR := Lib.hid (show a.linkT o = a.linkS id d (nameN o.to) from hT0 (by rw [hE, if_neg hl]))
      have hl200 : ((a.nd id).links == 200) = false := beq_eq_false_iff_ne.2 hl
      have hlr := hg.links id
      have HLV := Lib.hid hlive
      have HDD := Lib.hid (show (a.nd d).kind = 2 from hdir)
      have HKD := Lib.hid hdd
      have hdb := (hg.in_last (k := d) (by rw [HDD.out]; decide)).2
      have hdb2 : d ≤ 1000000 := by omega
      have hid0 : id ≠ 0 := by omega
      generalize hlq : (a.nd id).links = lk at *
      have HLQ := Lib.hid hlq
      clear h hg hw hlive hbd hfew hE hT0 hbad hdd he hd hdir hf hl hlk0 hnc0 hlq hdb
      go_enter Tryz.func30, Tryz.ntmps30
      go_wp2_with (first
       | (go_at_call 10; refine (hW.out _ (HH.out _ (below_0 _ _))).mono ?_; rintro e w1 ⟨rfl, hb1⟩; have hX0 := (own_cells rfl hb1).1; have hlt0 := (own_cells rfl hb1).2.1; have b2 := hX0.cell 2; simp at b2; clear hX0)
       | (go_at_call 60; refine (HD.out _ (HH.out _ (below_a hb1))).mono ?_; rintro e w2 ⟨rfl, rfl⟩)
       | (go_at_call 59; refine (hP.out _ (HH.out _ (below_a hb1))).mono ?_; rintro e w3 ⟨rfl, hb3⟩; rw [HS.out, HE.out, HF.out]; have hTX := HH.out _ (((below_a hb1).trans (hb3.mono (below_a hb1).size)).alloc (Nat.le_trans (below_a hb1).size hb3.size) (.cells #[.int .i64 (d : Nat), .string (nameN o.to), .int .i64 0] 111)); obtain ⟨c0, c1, c2⟩ := hTX.cells; obtain ⟨n0, n1, n2, n3⟩ := HNC.out _ hTX; have hl1 := HLK.out _ hTX; have q1 := (hTX.node id HLV.out).1.frozen 1; clear hTX))
      have HB := Lib.hid (((below_a hb1).trans (hb3.mono (below_a hb1).size)).alloc (Nat.le_trans (below_a hb1).size hb3.size) (.cells #[.int .i64 (d : Nat), .string (nameN o.to), .int .i64 0] 111))
      have hX := Blk.new w3 111 #[.int .i64 (d : Nat), .string (nameN o.to), .int .i64 0]
      have HW3 := Lib.hid (Nat.le_trans (below_a hb1).size hb3.size)
      clear hb1 hb3 hl1 c0 c1 c2 n0 n1 n2 n3 q1
      generalize w3.alloc (.cells #[.int .i64 (d : Nat), .string (nameN o.to), .int .i64 0] 111) = w4 at *
      have hTX := HH.out _ HB.out
      have hTu : Turn (· = M.hp id) w4 (w4.setCell ⟨M.hp id, 1, none⟩ (.int .i64 (lk + 1))) := (Turn.refl (· = M.hp id) w4).setCell (p := ⟨M.hp id, 1, none⟩) (fun _ => rfl) _
      have hv : ({ a.nd id with links := (a.nd id).links + 1 } : Nd).links = lk + 1 := by show (a.nd id).links + 1 = lk + 1; rw [HLQ.out]
      have hTY : TreeIs F (w4.setCell ⟨M.hp id, 1, none⟩ (.int .i64 (lk + 1))) t { M with dv := setF M.dv id (M.dv id) } c (a.setNd id { a.nd id with links := (a.nd id).links + 1 }) := by
       obtain ⟨g1, g2, g3, g4, g5, g6⟩ := hTX.node id HLV.out
       refine hTX.setNode HLV.out hTu rfl rfl ?_ (g2.turn hTu fun j hj => (hTX.hp_ne HLV.out).2.2.2.1 id j HLV.out hj) (fun j hj => hj) g6 (fun j hj => Nat.lt_of_lt_of_le (hTX.lt j hj) hTu.size) hTX.f0
       rw [hv]
       exact g1.set_ 1 _
      have hne : d ≠ id := fun e => HKD.out (by rw [← e]; exact HDD.out)
      have had : (a.setNd id { a.nd id with links := (a.nd id).links + 1 }).nd d = a.nd d := setF_other _ _ hne
      have hmne : w3.heap.size ≠ M.hp id := fun e => by
       have h1 := HT.out.lt _ (HT.out.node id HLV.out).2.2.2.1
       have h2 := HW3.out
       omega
      have hX5 := hX.far (p := ⟨M.hp id, 1, none⟩) hmne (.int .i64 (lk + 1))
      have HTu := Lib.hid hTu
      have hlive2 : ((a.setNd id { a.nd id with links := (a.nd id).links + 1 }).nd d).kind ≠ 0 := by rw [had, HDD.out]; decide
      generalize w4.setCell ⟨M.hp id, 1, none⟩ (.int .i64 (lk + 1)) = w5 at *
      have x0 := hX5.drew.cell 0
      have x1 := hX5.drew.cell 1
      simp at x0 x1
      have hTD := hTY.drew
      obtain ⟨d0, d1, d2⟩ := hTD.cells
      obtain ⟨n0, n1, n2, n3⟩ := hTD.ncells hlive2
      have hl1 := hTD.look hlive2 hdb2
      obtain ⟨w6, hup, hT6, hTu6⟩ := hTD.putName hlive2 (by omega) (s := nameN o.to) (Nat.le_trans (nameN_size _) (by omega)) (id := id) hid0
      have HT6 := Lib.hid hT6
      have HTu6 := Lib.hid hTu6
      have HLS := Lib.hid (show (a.setNd id { a.nd id with links := (a.nd id).links + 1 }).put d (nameN o.to) id = a.linkS id d (nameN o.to) from rfl)
      have HNB := Lib.hid ((hTX.node d (by rw [HDD.out]; decide)).2.2.2.2.1)
      have HHP := Lib.hid ((hTX.node id HLV.out).2.2.2.1)
      clear hTX hTu hTY hX hX5 hTD hT6 hTu6 had hv hlive2 hmne hne
      go_region
      go_wp2
      go_ret
      rw [HR.out]
      have hTw : Turn F w4 w6 := (HTu.out.mono (S' := F) fun i _ e => by rw [e]; exact HHP.out).trans (S' := F) ((Turn.refl F w5).drew.trans (S' := F) (HTu6.out.mono fun i _ e => by rw [e]; exact HNB.out) fun i _ e => e) fun i _ e => e
      have hs6 : St (grow F w4 w6) w6 t (c + 2) (a.linkS id d (nameN o.to)) := ⟨_, ((HT6.out.mono (by omega)).grown w4 hTw.size (by have := HT.out.w0; have := HB.out.size; omega))⟩
      have hh := step_after HB.out HT.out hs6 hTw
      exact ⟨_, rfl, hh.1, hh.2⟩
    ·have HR := Lib.hid (show a.linkT o = a from hbad (by rw [hE, if_pos (show a.find d (nameN o.to) ≠ 0 from hf)]; decide))
     have hnz : (((findL (a.nd d).names (nameN o.to) : Nat) : Int) != 0) = true := bne_iff_ne.2 (by omega)
     generalize findL (a.nd d).names (nameN o.to) = was at *
     clear h hg hw hlive hbd hfew hE hT0 hbad hdd he hd hdir hf
     go_enter Tryz.func30, Tryz.ntmps30
     go_wp2_with (first
      | (go_at_call 10; refine (hW.out _ (HH.out _ (below_0 _ _))).mono ?_; rintro e w1 ⟨rfl, hb1⟩; have hX0 := (own_cells rfl hb1).1; have hlt0 := (own_cells rfl hb1).2.1; have b2 := hX0.cell 2; simp at b2; clear hX0)
      | (go_at_call 60; refine (HD.out _ (HH.out _ (below_a hb1))).mono ?_; rintro e w2 ⟨rfl, rfl⟩)
      | (go_at_call 59; refine (hP.out _ (HH.out _ (below_a hb1))).mono ?_; rintro e w3 ⟨rfl, hb3⟩; rw [HS.out, HE.out]))
     go_ret
     rw [HR.out]
     exact err_same HT.out (((below_a hb1).trans (hb3.mono (below_a hb1).size)).alloc (Nat.le_trans (below_a hb1).size hb3.size) _)
   ·have HS := Lib.hid (spot_bad he)
    have h1 : ((a.par o.to 41).2 != 0) = true := bne_iff_ne.2 he
    have HR := Lib.hid (show a.linkT o = a from hbad (by rw [hE, if_pos he]; exact he))
    clear h hg hw hlive hbd hfew hE hT0 hbad hdd he
    go_enter Tryz.func30, Tryz.ntmps30
    go_wp2_with (first
     | (go_at_call 10; refine (hW.out _ (HH.out _ (below_0 _ _))).mono ?_; rintro e w1 ⟨rfl, hb1⟩; have hX0 := (own_cells rfl hb1).1; have hlt0 := (own_cells rfl hb1).2.1; have b2 := hX0.cell 2; simp at b2; clear hX0)
     | (go_at_call 60; refine (HD.out _ (HH.out _ (below_a hb1))).mono ?_; rintro e w2 ⟨rfl, rfl⟩)
     | (go_at_call 59; refine (hP.out _ (HH.out _ (below_a hb1))).mono ?_; rintro e w3 ⟨rfl, hb3⟩; rw [HS.out]))
    go_ret
    rw [HR.out]
    exact err_same HT.out (((below_a hb1).trans (hb3.mono (below_a hb1).size)).alloc (Nat.le_trans (below_a hb1).size hb3.size) _)
 ·have h1 : ((a.walkP o.path).2 != 0) = true := bne_iff_ne.2 hw
  have HR := Lib.hid (show a.linkT o = a from hbad (by unfold TS.linkE; rw [if_pos hw]; exact hw))
  clear h hg hw hbad
  go_enter Tryz.func30, Tryz.ntmps30
  go_wp2_with (go_at_call 10; refine (hW.out _ (HH.out _ (below_0 _ _))).mono ?_; rintro e w1 ⟨rfl, hb1⟩)
  go_ret
  rw [HR.out]
  exact err_same HT.out (below_a hb1)
end
end Go.Proofs.YtpkhglfhpggceaaGreatDoor
