/- package disk: Write. -/
import Derived.Test.YtnbppfhnagacfaaWr
import Derived.Deep.RegionLaw
namespace Go.Proofs.Ytnbppfhnagacfaa
open Go.RowKit
set_option linter.unusedVariables false
attribute [local go_sem ↓] Go.wp_at_zero Go.wp_at_succ

set_option maxRecDepth 100000 in
set_option maxHeartbeats 4000000 in
theorem write_any {F : Nat → Prop} {d mw : Nat} {sp : Option Nat} {sv : Value} {f : Int → Option Value} {x : Dk} {s : Option Sup} (i : Int) (b : List Int) (w : World) (h : DiskIs F w d sp mw sv f x) (hs : SupIs w sp s) (hok : ∀ s', s = some s' → s'.ok) (hsp : ∀ g, sp = some g → ¬ F g ∧ g < w.heap.size)
    (hb : b.length = 64) (hk : (key i).wf = true) (hw : x.writes ≤ 1000000) :
    Calls Try.prog 57 #[.pointer (some ⟨d, 0, none⟩), .int .i64 i, blkV b] w fun e w' => e = .returned (.int .i64 (if x.is i then (useO s).1 else 2)) ∧ SupIs w' sp (if x.is i then (useO s).2 else s) ∧
      (∃ f', DiskIs (grow F w w') w' d sp mw sv f' (if x.is i ∧ (useO s).1 = 0 then x.write i b else x)) ∧ Turn (fun j => F j ∨ sp = some j) w w' := by
  obtain ⟨i0, z0, hi0, hz0, hz1, hz2, hz3⟩ := info32
  obtain ⟨w1, hw1⟩ : ∃ w1, w1 = w.alloc (.cells (bytes b).toArray 32) := ⟨_, rfl⟩
  have hb1 : Below w.heap.size w w1 := by rw [hw1]; exact (Below.refl _ _).alloc (Nat.le_refl _) _
  have HD1 := Lib.hid (h.below hb1)
  have HS1 := Lib.hid (show SupIs w1 sp s from hs.turn (Turn.of_below (S := fun _ => False) hb1) fun _ _ => id)
  have HB1 := Lib.hid hb1
  have hs1 := hb1.size
  have hV1 : Var w1 w.heap.size b := by rw [hw1]; exact Var.new _ hb
  have HU := Lib.hid (duse_any i w1 HD1.out HS1.out hok (fun g hg => (hsp g hg).1))
  have HLt := Lib.hid h.lt
  have hci : (if x.is i then (useO s).1 else 2) = 0 → x.is i := fun e => by
    by_cases hi : x.is i
    · exact hi
    · rw [if_neg hi] at e; cases e
  have e1 : (if x.is i ∧ (useO s).1 = 0 then x.write i b else x) = if (if x.is i then (useO s).1 else 2) = 0 then x.write i b else x := by
    by_cases hi : x.is i
    · simp [hi]
    · simp [hi]
  rw [e1]
  clear e1 h hs
  generalize (if x.is i then (useO s).1 else 2) = c at *
  generalize (if x.is i then (useO s).2 else s) = s' at *
  go_enter Try.func57, Try.ntmps57
  go_upto_region 1 with (fail)
  change Code.wp _ _ _ _ (World.alloc w (.cells (bytes b).toArray 32))
  rw [← hw1]
  obtain ⟨b1, hb1e⟩ : ∃ b1, b1 = w.heap.size := ⟨_, rfl⟩
  rw [← hb1e] at hV1 ⊢
  have HV1 := Lib.hid hV1
  have hbl : w.heap.size ≤ b1 := Nat.le_of_eq hb1e.symm
  have hbF : ∀ g, sp = some g → ¬ b1 = g := fun g hg e => by have := (hsp g hg).2; omega
  have hb1F : ¬ F b1 := fun e => by have := HLt.out _ e; omega
  clear hw1 hb1 hV1 hb1e
  go_wp2_with fail
  refine HU.out.mono ?_
  rintro e w2 ⟨rfl, hs2, hT2, hD2⟩
  have HS2 := Lib.hid hs2
  have HD2 := Lib.hid hD2
  have HT2 := Lib.hid (show Turn (fun j => F j ∨ sp = some j) w w2 from (Turn.of_below (S := fun j => F j ∨ sp = some j) HB1.out).trans hT2 fun j hj e => .inr e)
  have HV2 := Lib.hid (HV1.out.turn hT2 fun e => hbF _ e rfl)
  have hs2' := hT2.size
  have hsz2 : w.heap.size ≤ w2.heap.size := Nat.le_trans hs1 hs2'
  clear hs2 hD2 hT2 HU HD1 HS1 HB1 HV1
  by_cases hc : c = 0
  · have hi := hci hc
    subst hc
    clear hci

    have c2 := HD2.out.blk.cell 2
    have c3 := HD2.out.blk.cell 3
    have f3 := HD2.out.blk.frozen 3
    have hdl := HD2.out.blk.lt
    simp at c2 c3
    have hM := HD2.out.map
    have hml := hM.lt
    obtain ⟨v, hv⟩ : ∃ v, v = (f i).getD (.slice none 0 0) := ⟨_, rfl⟩
    have hown : w2.ownsRow 0 32 64 v (x.waits i).length (flat (x.waits i)) := by
      rw [hv]
      cases hf : f i with
      | none =>
        rw [HD2.out.none_ i hf]
        exact World.ownsRow_nil _ _ _ _
      | some u => exact (HD2.out.wt i u hf).1
    have hwl : ∀ q ∈ x.waits i, q.length = 64 := by
      cases hf : f i with
      | none => rw [HD2.out.none_ i hf]; intro q hq; cases hq
      | some u => exact (HD2.out.wt i u hf).2
    have hnw := HD2.out.cnt.2 i
    have hnw0 := HD2.out.cnt.1
    have hlk0 := (show MapIs w2.drew mw x.writes.toNat f from hM).look Try.underlying68 (zero67 _) hk
    have hlk1 := fun (o : Obj) => (show MapIs (w2.alloc o).drew mw x.writes.toNat f from hM.alloc o).look Try.underlying68 (zero67 _) hk
    rw [← hv] at hlk0
    simp only [← hv] at hlk1
    obtain ⟨A3, n3, c3', rfl⟩ : ∃ A3 n3 c3', v = .slice A3 n3 c3' := by
      rcases hown.2 with ⟨e, -⟩ | ⟨g, cap, cur, e, -⟩
      · exact ⟨_, _, _, e⟩
      · exact ⟨_, _, _, e⟩
    have HO := Lib.hid hown
    have HM := Lib.hid hM
    have HV := Lib.hid hv
    have HWl := Lib.hid hwl
    have HR0 := Lib.hid (show w2.drew.rangeAt b1 0 (bytes b) from HV2.out.range)
    have HR1 := Lib.hid fun (o : Obj) => show (w2.alloc o).drew.rangeAt b1 0 (bytes b) from World.rangeAt_alloc HV2.out.range o
    clear hM hown hv hwl
    go_upto_region 3 with (fail)
    have hu32 := Try.underlying32
    have hi32 : (Try.prog.info? 32).map (fun i => i.size) = some (bytes b).length := by rw [bytes_len, hb]; kernel_rfl
    have hsz64 : (bytes b).length = 64 := by rw [bytes_len]; exact hb
    have hfold := fold_bytes hb
    have hSd : w2.drew.cell? ⟨d, 2, none⟩ = some (.map (some mw)) ∧ w2.drew.rangeAt b1 0 (bytes b) := ⟨c2, HR0.out⟩
    have hSa : ∀ o, (w2.alloc o).drew.cell? ⟨d, 2, none⟩ = some (.map (some mw)) ∧ (w2.alloc o).drew.rangeAt b1 0 (bytes b) := fun o => ⟨((HD2.out.blk).alloc o).drew.cell 2, HR1.out o⟩
    have hl1 : (bytes b).length = 1 * 64 := by rw [hsz64]
    have h63 : (x.waits i).length + 1 ≤ maxLen := by unfold maxLen; omega
    have hby : ((x.waits i).length + 1) * 64 ≤ 140737488355328 := by omega
    have hnews : ∀ j u, (bytes b)[j]? = some u → ((w2.alloc (.cells (bytes b).toArray 32)).drew).cell? ((⟨w2.heap.size, 0, none⟩ : Addr).add j) = some u := fun j u hu => by
      rw [Addr.add_mid, Nat.zero_add]
      rw [((Blk.new w2 32 (bytes b).toArray).drew).cell j]
      simpa using hu
    have hownA : ((w2.alloc (.cells (bytes b).toArray 32)).drew).ownsRow 0 32 64 (.slice A3 n3 c3') (x.waits i).length (flat (x.waits i)) := World.ownsRow.alloc HO.out _
    have ew : IntKind.i64.wrap (x.writes + 1) = x.writes + 1 := IntWalk.i64_in _ (by omega) |>.trans rfl
    go_region_held3 (fun W => W.cell? ⟨d, 2, none⟩ = some (.map (some mw)) ∧ W.rangeAt b1 0 (bytes b))
      (first | exact hSd | exact hSa _ | exact hSb | exact hSc)
      (first
        | (refine step_append_lies _ rfl (.tmp 23) (.tmp 25) 67 rfl 0 32 i0 z0 64 64 Try.underlying67 hi0 hz0 hz1 hz2 hz3 (by decide) (.slice A3 n3 c3') (x.waits i).length (flat (x.waits i)) rfl hownA ⟨w2.heap.size, 0, none⟩ 1 1 (bytes b) rfl hl1 hnews (bytes_one b) (by decide) h63 hby (Nat.zero_le _) _ rfl ?_
           intro g2 cap2 w4 hown4 hgrow4 hat4 hlt4
           obtain ⟨w5, hrun5, hSb, hSc, hc3, hf3, hD6, hT6⟩ := wr_step HD2.out HV2.out hb1F HV.out hk hw hown4 hgrow4 hat4 hlt4
           have HD6 := Lib.hid hD6
           have HT6 := Lib.hid hT6
           clear hown4 hgrow4 hat4 hD6 hT6))
    all_goals
      clear hSb hSc hSd hSa hrun5 hlk0 hlk1 hownA hnews c2 c3 f3
      have HF := Lib.hid (show SupIs (w5.setCell ⟨d, 3, none⟩ (.int .i64 (x.writes + 1))) sp s' ∧ DiskIs (grow F w (w5.setCell ⟨d, 3, none⟩ (.int .i64 (x.writes + 1)))) (w5.setCell ⟨d, 3, none⟩ (.int .i64 (x.writes + 1))) d sp mw sv _ (x.write i b) ∧ Turn (fun j => F j ∨ sp = some j) w (w5.setCell ⟨d, 3, none⟩ (.int .i64 (x.writes + 1))) from
        ⟨HS2.out.turn HT6.out fun g hg => (hsp g hg).1, HD6.out.mono (fun j hj => hj.imp id fun e => ⟨by omega, e.2⟩) (fun j hj => by
          rcases hj with hj | hj
          · have := HLt.out j hj; have := HT6.out.size; omega
          · exact hj.2), HT2.out.trans HT6.out fun j _ e => .inl e⟩)
      clear HD6 HT6
      go_wp2
      go_ret
      first | exact ⟨rfl, HF.out.1, ⟨_, HF.out.2.1⟩, HF.out.2.2⟩ | exact ⟨HF.out.1, ⟨_, HF.out.2.1⟩, HF.out.2.2⟩ | exact ⟨rfl, HF.out.1, ⟨_, by rw [if_pos rfl]; exact HF.out.2.1⟩, HF.out.2.2⟩
  · have HF := Lib.hid (show SupIs w2 sp s' ∧ DiskIs (grow F w w2) w2 d sp mw sv f x ∧ Turn (fun j => F j ∨ sp = some j) w w2 from
      ⟨HS2.out, HD2.out.mono (fun j hj => .inl hj) (fun j hj => by
        rcases hj with hj | hj
        · have := HLt.out j hj; omega
        · exact hj.2), HT2.out⟩)
    have hcn : (c == 0) = false := by simpa using hc
    clear hci
    go_wp2
    go_ret
    first | exact ⟨rfl, HF.out.1, ⟨_, HF.out.2.1⟩, HF.out.2.2⟩ | exact ⟨rfl, HF.out.1, ⟨_, by rw [if_neg hc]; exact HF.out.2.1⟩, HF.out.2.2⟩
end Go.Proofs.Ytnbppfhnagacfaa
