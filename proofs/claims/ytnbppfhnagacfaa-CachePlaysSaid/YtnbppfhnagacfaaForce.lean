/- package disk: Force. -/
import Derived.Test.YtnbppfhnagacfaaFrc
namespace Go.Proofs.Ytnbppfhnagacfaa
open Go.RowKit
set_option linter.unusedVariables false
attribute [local go_sem ↓] Go.wp_at_zero Go.wp_at_succ

set_option maxRecDepth 100000 in
set_option maxHeartbeats 4000000 in
theorem force_any {F : Nat → Prop} {d mw : Nat} {sp : Option Nat} {sv : Value} {f : Int → Option Value} {x : Dk} {s : Option Sup} (i : Int) (b : List Int) (w : World) (h : DiskIs F w d sp mw sv f x) (hs : SupIs w sp s) (hok : ∀ s', s = some s' → s'.ok) (hsp : ∀ g, sp = some g → ¬ F g ∧ g < w.heap.size)
    (hb : b.length = 64) (hk : (key i).wf = true) (hw : x.writes ≤ 1000000) :
    Calls Try.prog 33 #[.pointer (some ⟨d, 0, none⟩), .int .i64 i, blkV b] w fun e w' => e = .returned (.int .i64 (if x.is i then (useO s).1 else 2)) ∧ SupIs w' sp (if x.is i then (useO s).2 else s) ∧
      (∃ f', DiskIs F w' d sp mw sv f' (if x.is i ∧ (useO s).1 = 0 then x.force i b else x)) ∧ Turn (fun j => F j ∨ sp = some j) w w' := by
  obtain ⟨w1, hw1⟩ : ∃ w1, w1 = w.alloc (.cells (bytes b).toArray 32) := ⟨_, rfl⟩
  have hb1 : Below w.heap.size w w1 := by rw [hw1]; exact (Below.refl _ _).alloc (Nat.le_refl _) _
  have HD1 := Lib.hid (h.below hb1)
  have HS1 := Lib.hid (show SupIs w1 sp s from hs.turn (Turn.of_below (S := fun _ => False) hb1) fun _ _ => id)
  have HB1 := Lib.hid hb1
  have hs1 := hb1.size
  have hV1 : Var w1 w.heap.size b := by rw [hw1]; exact Var.new _ hb
  have HU := Lib.hid (duse_any i w1 HD1.out HS1.out hok (fun g hg => (hsp g hg).1))
  have HLt := Lib.hid h.lt
  have hci : (if x.is i then (useO s).1 else 2) = 0 → x.is i := fun e => by
    by_cases hi : x.is i
    · exact hi
    · rw [if_neg hi] at e; cases e
  have e1 : (if x.is i ∧ (useO s).1 = 0 then x.force i b else x) = if (if x.is i then (useO s).1 else 2) = 0 then x.force i b else x := by
    by_cases hi : x.is i
    · simp [hi]
    · simp [hi]
  rw [e1]
  clear e1 h hs
  generalize (if x.is i then (useO s).1 else 2) = c at *
  generalize (if x.is i then (useO s).2 else s) = s' at *
  go_enter Try.func33, Try.ntmps33
  go_upto_region 1 with (fail)
  change Code.wp _ _ _ _ (World.alloc w (.cells (bytes b).toArray 32))
  rw [← hw1]
  obtain ⟨b1, hb1e⟩ : ∃ b1, b1 = w.heap.size := ⟨_, rfl⟩
  rw [← hb1e] at hV1 ⊢
  have HV1 := Lib.hid hV1
  have hbl : w.heap.size ≤ b1 := Nat.le_of_eq hb1e.symm
  have hbF : ∀ g, sp = some g → ¬ b1 = g := fun g hg e => by have := (hsp g hg).2; omega
  have hb1F : ¬ F b1 := fun e => by have := HLt.out _ e; omega
  clear hw1 hb1 hV1 hb1e
  go_wp2_with fail
  refine HU.out.mono ?_
  rintro e w2 ⟨rfl, hs2, hT2, hD2⟩
  have HS2 := Lib.hid hs2
  have HD2 := Lib.hid hD2
  have HT2 := Lib.hid (show Turn (fun j => F j ∨ sp = some j) w w2 from (Turn.of_below (S := fun j => F j ∨ sp = some j) HB1.out).trans hT2 fun j hj e => .inr e)
  have HV2 := Lib.hid (HV1.out.turn hT2 fun e => hbF _ e rfl)
  have hs2' := hT2.size
  have hsz2 : w.heap.size ≤ w2.heap.size := Nat.le_trans hs1 hs2'
  clear hs2 hD2 hT2 HU HD1 HS1 HB1 HV1
  by_cases hc : c = 0
  · have hi := hci hc
    subst hc
    clear hci
    have hi0 := hi.1
    have hi1 := hi.2
    obtain ⟨g, cg, rfl, hcg, hmg, hgl⟩ := HD2.out.st.form (by omega)
    have c1 := HD2.out.blk.cell 1
    have hdl := HD2.out.blk.lt
    have hnw0 := HD2.out.cnt.1
    simp at c1
    have hR0 : w2.drew.rangeAt b1 0 (bytes b) := HV2.out.range
    obtain ⟨hx1, hx2, hxt, w4, hdel, hc3, hf3, hD5, hT5⟩ := frc_step HD2.out hi hb hk
    have hth : w2.drew.there g (i.toNat * 64) 64 := HD2.out.st.there (by omega)
    have hb1g : ¬ b1 = g := fun e => hb1F (by rw [e]; exact HD2.out.fs g rfl)
    have hx3 : (w2.drew.setCells g (i.toNat * 64) (bytes b)).rangeAt b1 0 (bytes b) := World.rangeAt_setCells_apart hR0 _ _ _ (.inl hb1g)
    have HD5 := Lib.hid hD5
    have HT5 := Lib.hid hT5
    clear hD5 hT5
    have hu32 := Try.underlying32
    have hi32 : (Try.prog.info? 32).map (fun i => i.size) = some (bytes b).length := by rw [bytes_len, hb]; kernel_rfl
    have hsz64 : (bytes b).length = 64 := by rw [bytes_len]; exact hb
    have h1c : ∀ v ∈ bytes b, v.oneCell' = true := bytes_one b
    have ew : IntKind.i64.wrap (x.writes + 1) = x.writes + 1 := IntWalk.i64_in _ (by omega) |>.trans rfl
    go_upto_region 3 with (fail)
    go_region_held3 (fun W => W.cell? ⟨d, 1, none⟩ = some (.slice (some ⟨g, 0, none⟩) x.stable.length cg) ∧ W.rangeAt b1 0 (bytes b) ∧ W.there g (i.toNat * 64) 64)
      (first | exact ⟨c1, hR0, hth⟩ | exact ⟨hx1, hx3, hxt⟩)
      (fail)
    clear hx1 hx3 hxt hR0 hth c1
    have HF := Lib.hid (show SupIs (w4.setCell ⟨d, 3, none⟩ (.int .i64 (x.writes + 1))) sp s' ∧ DiskIs F (w4.setCell ⟨d, 3, none⟩ (.int .i64 (x.writes + 1))) d sp mw (.slice (some ⟨g, 0, none⟩) x.stable.length cg) _ (x.force i b) ∧ Turn (fun j => F j ∨ sp = some j) w (w4.setCell ⟨d, 3, none⟩ (.int .i64 (x.writes + 1))) from
      ⟨HS2.out.turn HT5.out fun g hg => (hsp g hg).1, HD5.out, HT2.out.trans HT5.out fun j _ e => .inl e⟩)
    clear HD5 HT5
    go_wp2_with fail
    go_ret
    first | exact ⟨rfl, HF.out.1, ⟨_, HF.out.2.1⟩, HF.out.2.2⟩ | exact ⟨HF.out.1, ⟨_, HF.out.2.1⟩, HF.out.2.2⟩ | exact ⟨rfl, HF.out.1, ⟨_, by rw [if_pos rfl]; exact HF.out.2.1⟩, HF.out.2.2⟩
  · have HF := Lib.hid (show SupIs w2 sp s' ∧ DiskIs F w2 d sp mw sv f x ∧ Turn (fun j => F j ∨ sp = some j) w w2 from
      ⟨HS2.out, HD2.out, HT2.out⟩)
    have hcn : (c == 0) = false := by simpa using hc
    clear hci
    go_wp2
    go_ret
    first | exact ⟨rfl, HF.out.1, ⟨_, HF.out.2.1⟩, HF.out.2.2⟩ | exact ⟨rfl, HF.out.1, ⟨_, by rw [if_neg hc]; exact HF.out.2.1⟩, HF.out.2.2⟩
end Go.Proofs.Ytnbppfhnagacfaa
