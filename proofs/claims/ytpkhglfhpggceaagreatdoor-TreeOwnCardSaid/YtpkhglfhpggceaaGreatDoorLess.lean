/- What package tree does to memory: leave, less. -/
import Derived.Test.YtpkhglfhpggceaaGreatDoorTmut
namespace Go.Proofs.YtpkhglfhpggceaaGreatDoor
set_option maxRecDepth 100000
set_option maxHeartbeats 16000000
open Go.RowKit
set_option linter.unusedVariables false
set_option linter.unusedSimpArgs false

section
variable {F : Nat → Prop} {w w' : World} {t c : Nat} {M : TMem} {a : TS}
theorem gone_now {a : TS} {k : Nat} (h : (a.nd k).links = 0) (h2 : cntO a.op k = 0) : a.gone k = a.setNd k nd0 := by unfold TS.gone; rw [if_pos ⟨h, h2⟩]
theorem gone_not {a : TS} {k : Nat} (h : ¬ ((a.nd k).links = 0 ∧ cntO a.op k = 0)) : a.gone k = a := by unfold TS.gone; rw [if_neg h]
def NodePost (F : Nat → Prop) (t c : Nat) (a' : TS) (w : World) (e : Ending) (w' : World) : Prop :=
 e = .returned (.tuple #[]) ∧ St (grow F w w') w' t c a' ∧ Turn F w w'
theorem TreeIs.w0 (h : TreeIs F w t M c a) : 0 < w.heap.size := by obtain ⟨m, hm⟩ := h.mx; exact mx_lt hm

theorem leave_any (k : Nat) (w : World) (h : TreeIs F w t M c a) (hk : (a.nd k).kind ≠ 0) (hb : k ≤ 1000000) :
  Calls Tryz.prog 66 #[.pointer (some ⟨t, 0, none⟩), .int .i64 (k : Int)] w (NodePost F t c (a.gone k) w) := by
 obtain ⟨c0, c1, c2⟩ := h.cells
 obtain ⟨n0, n1, n2, n3⟩ := h.ncells hk
 have hl0 := h.look hk hb
 have hC := Lib.hid (fun W (h1 : TreeIs F W t M c a) => count_any M.T M.tb (k : Int) W h1.tab)
 have HE := Lib.hid (cnt_eq h (k : Int))
 have HT := Lib.hid h
 have HK := Lib.hid hk
 have hw0 := h.w0
 by_cases hl : (a.nd k).links = 0
 ·rw [hl] at n1
  by_cases hz : cntO a.op (k : Int) = 0
  ·have HG := Lib.hid (gone_now hl hz)
   have HZ := Lib.hid hz
   have HD := Lib.hid (fun w1 (h1 : TreeIs F w1 t M c a) => h1.map.drop Tryz.underlying68 (wfNat hb))
   have HCL := Lib.hid (fun W (h : TreeIs F W t M c a) => h.cells)
   clear h hk hl hz
   go_enter Tryz.func66, Tryz.ntmps66
   go_wp2_with fail
   refine (hC.out _ HT.out).mono ?_
   rintro e w1 ⟨rfl, hb1⟩
   rw [HE.out, HZ.out]
   have HT1 := Lib.hid (HT.out.below hb1)
   have HB := Lib.hid hb1
   obtain ⟨d0, d1, d2⟩ := HCL.out _ HT1.out
   obtain ⟨w2, hdr, hm2, hg2⟩ := HD.out w1 HT1.out 0
   have hdr' := fun ty => (HD.out w1 HT1.out ty)
   have HM2 := Lib.hid hm2
   have HG2 := Lib.hid hg2
   clear hm2 hg2 hb1 hdr'
   go_wp2
   refine bodyPost_ret (v := .tuple #[]) (by simp [results, Tryz.results66]) rfl ⟨rfl, ?_, ?_⟩
   ·rw [HG.out]
    have h2 := HT1.out.dropNode HK.out (turn_of_grown HG2.out) HM2.out
    have := HB.out.size
    have := HG2.out.size
    exact ⟨M, h2.grown _ (by omega) hw0⟩
   ·exact (Turn.of_below (S := F) HB.out).trans (turn_of_grown HG2.out) fun i _ e => by rw [e]; exact HT1.out.fm
  ·have HG := Lib.hid (gone_not fun x => hz x.2)
   have hz1 : (((cntO a.op (k : Int) : Nat) : Int) == 0) = false := beq_eq_false_iff_ne.2 (by omega)
   generalize cntO a.op (k : Int) = q at *
   clear h hk hl hz
   go_enter Tryz.func66, Tryz.ntmps66
   go_wp2_with fail
   refine (hC.out _ HT.out).mono ?_
   rintro e w1 ⟨rfl, hb1⟩
   rw [HE.out]
   have HB := Lib.hid hb1
   clear hb1
   go_wp2
   refine bodyPost_ret (v := .tuple #[]) (by simp [results, Tryz.results66]) rfl ⟨rfl, ?_, ?_⟩
   ·rw [HG.out]
    have := HB.out.size
    exact ⟨M, (HT.out.below HB.out).grown _ (by omega) hw0⟩
   ·exact Turn.of_below (S := F) HB.out
 ·have HG := Lib.hid (gone_not fun x => hl x.1)
  have hz1 : ((a.nd k).links == 0) = false := beq_eq_false_iff_ne.2 hl
  generalize (a.nd k).links = q at *
  clear h hk hl
  go_enter Tryz.func66, Tryz.ntmps66
  go_wp2_with fail
  refine bodyPost_ret (v := .tuple #[]) (by simp [results, Tryz.results66]) rfl ⟨rfl, ?_, ?_⟩
  ·rw [HG.out]
   exact ⟨M, HT.out.grown _ (Nat.le_refl _) hw0⟩
  ·exact Turn.refl _ _

theorem less_any (k : Nat) (w : World) (h : TreeIs F w t M c a) (hg : Good a c) (hk : (a.nd k).kind ≠ 0) (hb : k ≤ 1000000) :
  Calls Tryz.prog 70 #[.pointer (some ⟨t, 0, none⟩), .int .i64 (k : Int)] w (NodePost F t c (a.less k) w) := by
 obtain ⟨c0, c1, c2⟩ := h.cells
 obtain ⟨n0, n1, n2, n3⟩ := h.ncells hk
 have hl0 := h.look hk hb
 have hq1 := (h.node k hk).1.frozen 1
 have hln := hg.links k
 have HT := Lib.hid h
 have HK := Lib.hid hk
 have hw0 := h.w0
 have hv : { a.nd k with links := (a.nd k).links - 1 }.kind ≠ 0 := hk
 have hT : Turn (· = M.hp k) w (w.setCell ⟨M.hp k, 1, none⟩ (.int .i64 ((a.nd k).links - 1))) := (Turn.refl (· = M.hp k) w).setCell (p := ⟨M.hp k, 1, none⟩) (fun _ => rfl) _
 have h2 : TreeIs F (w.setCell ⟨M.hp k, 1, none⟩ (.int .i64 ((a.nd k).links - 1))) t { M with dv := setF M.dv k (M.dv k) } c (a.setNd k { a.nd k with links := (a.nd k).links - 1 }) := by
  obtain ⟨g1, g2, g3, g4, g5, g6⟩ := h.node k hk
  refine h.setNode hk hT rfl rfl (g1.set_ 1 _) (g2.turn hT fun j hj => (h.hp_ne hk).2.2.2.1 k j hk hj) (fun j hj => hj) g6 (fun j hj => Nat.lt_of_lt_of_le (h.lt j hj) hT.size) h.f0
 have hL := Lib.hid (leave_any k _ h2 (by
  show (setF a.nd k _ k).kind ≠ 0
  rw [setF_same]; exact hk) hb)
 have HTT := Lib.hid hT
 have HL := Lib.hid (show a.less k = (a.setNd k { a.nd k with links := (a.nd k).links - 1 }).gone k from rfl)
 clear h hk hv hT h2 hg
 go_enter Tryz.func70, Tryz.ntmps70
 go_wp2_with (go_at_call 66; refine hL.out.mono ?_; rintro e w' ⟨rfl, hs, hT2⟩)
 refine bodyPost_ret (v := .tuple #[]) (by simp [results, Tryz.results70]) rfl ⟨rfl, ?_, ?_⟩
 ·rw [HL.out]
  have e : (w.setCell ⟨M.hp k, 1, none⟩ (.int .i64 ((a.nd k).links - 1))).heap.size = w.heap.size := by simp [World.setCell]
  unfold grow at hs ⊢
  rw [e] at hs
  exact hs
 ·exact (HTT.out.mono (S' := F) (fun i _ e => by rw [e]; exact (HT.out.node k HK.out).2.2.2.1)).trans hT2 (fun i _ e => e)
end
end Go.Proofs.YtpkhglfhpggceaaGreatDoor
