/- package cache: Force. -/
import Derived.Test.YtnbppfhnagacfaaSync
import Derived.Deep.RegionHeld3
namespace Go.Proofs.Ytnbppfhnagacfaa
open Go.RowKit
set_option linter.unusedVariables false
attribute [local go_sem ↓] Go.wp_at_zero Go.wp_at_succ

theorem St.cell0 {F : Nat → Prop} {w : World} {c d : Nat} {sp : Option Nat} {hp : Int → Nat} {a : CA} (h : St F w c d sp hp a) : w.cell? ⟨c, 0, none⟩ = some (.pointer (some ⟨d, 0, none⟩)) := by
  obtain ⟨Fc, Fd, ml, ov, M⟩ := h
  have := M.ca.blk.cell 0
  simpa using this
def dforceA (a : CA) (i : Int) (b : List Int) : CA := { a with x := if codeO a.x a.s i = 0 then a.x.force i b else a.x, s := supO a.x a.s i }
theorem St.dforce {F : Nat → Prop} {c d : Nat} {sp : Option Nat} {hp : Int → Nat} {a : CA} (i : Int) (b : List Int) (w : World) (h : St F w c d sp hp a) (hb : b.length = 64) (hk : (key i).wf = true) (hw : a.x.writes ≤ 1000000) (hus : ∀ s', a.s = some s' → s'.used < 1000000000) :
    Calls Try.prog 33 #[.pointer (some ⟨d, 0, none⟩), .int .i64 i, blkV b] w fun e w' => e = .returned (.int .i64 (codeO a.x a.s i)) ∧ St (grow F w w') w' c d sp hp (dforceA a i b) ∧ Turn (fun j => F j ∨ sp = some j) w w' := by
  obtain ⟨Fc, Fd, ml, ov, M⟩ := h
  refine (M.disk.force i b w M.own.sup M.own.ok (fun g hg => ⟨M.own.spd g hg, M.own.splt g hg⟩) hb hk hw).mono ?_
  rintro e w' ⟨rfl, h1, h2, h3⟩
  refine ⟨rfl, M.go (a' := dforceA a i b) (M.ca.turn h3 fun j hj e => ?_) M.link ?_ h1 (sup_ok M.own.ok hus) h3.size, h3.mono fun j _ e => e.imp (fun e => M.sub j (.inr e)) id⟩
  · rcases e with e | e
    · exact M.own.ap j hj e
    · exact M.own.spc j e hj
  · have h4 : Disk Fd w' d sp (dforceA a i b).x := by
      show Disk Fd w' d sp (if codeO a.x a.s i = 0 then a.x.force i b else a.x)
      by_cases hc : codeO a.x a.s i = 0
      · rw [if_pos hc]; rwa [if_pos ((code_zero a.x a.s i).2 hc)] at h2
      · rw [if_neg hc]; rwa [if_neg fun e => hc ((code_zero a.x a.s i).1 e)] at h2
    exact h4.mono (fun j hj => .inl hj) fun j hj => by
      rcases hj with hj | hj
      · exact h4.lt j hj
      · exact hj.2
/-- What Force does. -/
def forceR (a : CA) (i : Int) (b : List Int) : Int × CA :=
  if (holdR a i).1 = 0 then (if codeO (holdR a i).2.x (holdR a i).2.s i = 0 then (0, setA (dforceA (holdR a i).2 i b) i ⟨b, false, pinsOf (holdR a i).2 i⟩) else (codeO (holdR a i).2.x (holdR a i).2.s i, dforceA (holdR a i).2 i b)) else holdR a i
theorem room_writes (size : Int) (os : List Int) (m : Int → Option Hd) (x : Dk) (s : Option Sup) : (roomR size os m x s).x.writes ≤ x.writes + 1 := by
  rcases room_cases size os m x s with ⟨-, -, e⟩ | ⟨v, -, -, e | ⟨b, e⟩⟩
  · rw [e]; omega
  · rw [e]; omega
  · rw [e]; exact Int.le_refl _
theorem room_used (size : Int) (os : List Int) (m : Int → Option Hd) (x : Dk) (s : Option Sup) : usedO (roomR size os m x s).s ≤ usedO s + 1 := by
  rcases room_s size os m x s with e | e
  · rw [e]; omega
  · rw [e]; exact useO_used s
theorem hold_bd (a : CA) (i : Int) : (holdR a i).2.x.writes ≤ a.x.writes + 1 ∧ usedO (holdR a i).2.s ≤ usedO a.s + 1 := by
  unfold holdR
  split
  · exact ⟨by show a.x.writes ≤ _; omega, by show usedO a.s ≤ _; omega⟩
  · cases a.m i with
    | some hd => exact ⟨by show a.x.writes ≤ _; omega, by show usedO a.s ≤ _; omega⟩
    | none =>
      dsimp only
      split
      · exact ⟨room_writes .., room_used ..⟩
      · exact ⟨room_writes .., room_used ..⟩

set_option maxRecDepth 100000 in
set_option maxHeartbeats 8000000 in
theorem cforce_any {F : Nat → Prop} {c d : Nat} {sp : Option Nat} {hp : Int → Nat} {a : CA} (i : Int) (b : List Int) (w : World) (h : St F w c d sp hp a) (hr : Room a) (hw : a.x.writes < 900000) (hus : usedO a.s < 900000000) (hk : (key i).wf = true) (hb : b.length = 64) :
    Calls Try.prog 11 #[.pointer (some ⟨c, 0, none⟩), .int .i64 i, blkV b] w fun e w' => e = .returned (.int .i64 (forceR a i b).1) ∧
      (∃ hp', St (grow F w w') w' c d sp hp' (forceR a i b).2) ∧ Turn (fun j => F j ∨ sp = some j) w w' := by
  obtain ⟨hlF, hlS, hcF⟩ := h.lt
  obtain ⟨w1, hw1⟩ : ∃ w1, w1 = w.alloc (.cells (bytes b).toArray 32) := ⟨_, rfl⟩
  have hb1 : Below w.heap.size w w1 := by rw [hw1]; exact (Below.refl _ _).alloc (Nat.le_refl _) _
  have hT01 : Turn (fun _ => False) w w1 := Turn.of_below hb1
  have hV1 : Var w1 w.heap.size b := by rw [hw1]; exact Var.new _ hb
  have h1 := h.turn hT01 (fun _ _ => id) fun _ _ => id
  have hs1 : w1.heap.size = w.heap.size + 1 := by rw [hw1]; simp
  have HH := Lib.hid (hold_any i w1 h1 hk hr.wr hr.hi hr.ms hr.os hr.us)
  have HHe := Lib.hid fun (e : (holdR a i).1 = 0) => hold_held e h.link
  have HlF := Lib.hid hlF
  have HlS := Lib.hid hlS
  unfold forceR
  obtain ⟨hbd1, hbd2⟩ := hold_bd a i
  generalize holdR a i = R at *
  obtain ⟨code, a2⟩ := R
  simp only at HH HHe hbd1 hbd2 ⊢
  obtain ⟨res, hres⟩ : ∃ r : Int × CA, r = (if code = 0 then (if codeO a2.x a2.s i = 0 then (0, setA (dforceA a2 i b) i ⟨b, false, pinsOf a2 i⟩) else (codeO a2.x a2.s i, dforceA a2 i b)) else (code, a2)) := ⟨_, rfl⟩
  rw [← hres]
  have HRes := Lib.hid hres
  clear h h1 hlF hlS hr hres
  go_enter Try.func11, Try.ntmps11
  go_upto_region 1 with (fail)
  change Code.wp _ _ _ _ (World.alloc w (.cells (bytes b).toArray 32))
  rw [← hw1]
  obtain ⟨b1, hb1e⟩ : ∃ b1, b1 = w.heap.size := ⟨_, rfl⟩
  rw [← hb1e] at hV1 ⊢
  have hbe : w.heap.size ≤ b1 ∧ b1 < w1.heap.size := ⟨by omega, by omega⟩
  obtain ⟨hbe1, hbe2⟩ := hbe
  have HV1 := Lib.hid hV1
  have HT01 := Lib.hid hT01
  clear hw1 hb1 hV1 hb1e
  go_wp2_with fail
  refine HH.out.mono ?_
  rintro e w2 ⟨p, rfl, ⟨hp2, hpp, hS2⟩, hT2⟩
  have hs2 := hT2.size
  have hbF : ¬ (F b1 ∨ sp = some b1) := fun e => by
    rcases e with e | e
    · have := HlF.out b1 e; omega
    · have := (HlS.out b1 e).2; omega
  have HV2 := Lib.hid (HV1.out.turn hT2 hbF)
  have HS2 := Lib.hid hS2
  have HT12 := Lib.hid hT2
  have HT2 := Lib.hid (show Turn (fun j => F j ∨ sp = some j) w w2 from (HT01.out.mono fun _ _ h => h.elim).trans hT2 fun _ _ e => e)
  by_cases hc : code = 0
  · subst hc
    rw [if_pos rfl] at HRes
    obtain ⟨hd, hm⟩ := HHe.out rfl
    have hpp' := hpp rfl
    obtain ⟨g1, g2, g3⟩ := HS2.out.held hm
    have hpn := HS2.out.pins hm
    have hpo : pinsOf a2 i = hd.pins := by unfold pinsOf; rw [hm]; rfl
    rw [hpp'] at g1 g3
    have hdr : Turn (fun _ => False) w2 w2.drew := Turn.of_below ((Below.refl w2.heap.size w2).drew)
    have c0 : w2.drew.cell? ⟨c, 0, none⟩ = some (.pointer (some ⟨d, 0, none⟩)) := (HS2.out.turn hdr (fun _ _ => id) fun _ _ => id).cell0
    have hR0 : w2.drew.rangeAt b1 0 (bytes b) := HV2.out.range
    have hS0 : w2.drew.cell? ⟨c, 0, none⟩ = some (.pointer (some ⟨d, 0, none⟩)) ∧ w2.drew.rangeAt b1 0 (bytes b) := ⟨c0, hR0⟩
    have hbG : ¬ (grow F w1 w2 b1 ∨ sp = some b1) := fun e => by
      rcases e with (e | e) | e
      · exact hbF (.inl e)
      · omega
      · exact hbF (.inr e)
    have HW := Lib.hid ((HS2.out.turn hdr (fun _ _ => id) fun _ _ => id).dforce i b w2.drew hb hk (by omega) (usedO_lt (by omega)))
    have HNx := Lib.hid fun (W : World) (hT : Turn (fun j => grow F w1 w2 j ∨ sp = some j) w2.drew W) => show Turn (fun j => grow F w1 w2 j ∨ sp = some j) w2 W ∧ Var W b1 b from by
      have hT' : Turn (fun j => grow F w1 w2 j ∨ sp = some j) w2 W := ⟨hT.os, hT.tape, hT.output, hT.size, hT.block⟩
      exact ⟨hT', HV2.out.turn hT' hbG⟩
    have HG2 := Lib.hid g1
    have HMh := Lib.hid (show (dforceA a2 i b).m i = some hd from hm)
    have hu32 := Try.underlying32
    have hi32 : (Try.prog.info? 32).map (fun i => i.size) = some (bytes b).length := by rw [bytes_len, hb]; kernel_rfl
    have hsz64 : (bytes b).length = 64 := by rw [bytes_len]; exact hb
    have hsd : w2.drew.heap.size = w2.heap.size := rfl
    clear hT2 hS2 hpp g1 HH HHe hdr c0 hm
    go_upto_region 4 with (fail)
    go_region_held3 (fun W => W.cell? ⟨c, 0, none⟩ = some (.pointer (some ⟨d, 0, none⟩)) ∧ W.rangeAt b1 0 (bytes b))
      (first | exact hS0 | exact hS1)
      (first
        | (go_at_call 33
           refine HW.out.mono ?_
           rintro e w3 ⟨rfl, hS3, hT3⟩
           have hs3 := hT3.size
           obtain ⟨hT3', hV3⟩ := HNx.out _ hT3
           have hS1 : w3.cell? ⟨c, 0, none⟩ = some (.pointer (some ⟨d, 0, none⟩)) ∧ w3.rangeAt b1 0 (bytes b) := ⟨hS3.cell0, hV3.range⟩
           have HS3 := Lib.hid (show St (grow (grow F w1 w2) w2 w3) w3 c d sp hp2 (dforceA a2 i b) from hS3)
           have HT3 := Lib.hid hT3'
           have HV3 := Lib.hid hV3
           clear hS3 hT3 hT3' hV3))
    clear hS0 hS1 hR0 hu32 hi32 hsz64 HW HNx
    have HS4 := Lib.hid (HS3.out.chain (F := F) (w1 := w1) hs2 (by omega) (fun j hj => by have := HlF.out j hj; omega) fun g hg => ⟨(HlS.out g hg).1, by have := (HlS.out g hg).2; omega⟩)
    have HT4 := Lib.hid (show Turn (fun j => F j ∨ sp = some j) w w3 from (HT01.out.mono fun _ _ h => h.elim).trans (Turn.chain HT12.out HT3.out) fun _ _ e => e)
    clear HS3 HT3 HT12 HT2 HS2
    generalize hcd : codeO a2.x a2.s i = cd at *
    generalize hA : dforceA a2 i b = A2 at *
    clear hcd hA
    by_cases hc : cd = 0
    · subst hc
      obtain ⟨k1, k2, k3⟩ := HS4.out.held HMh.out
      rw [hpp'] at k1 k3
      have HRg := Lib.hid HV3.out.range
      have hth : Hid (w3.there p 0 65) := Lib.hid fun j hj => by
        rw [Nat.zero_add]
        refine ⟨?_, k1.frozen j⟩
        rw [k1.cell j]
        have : hd.cells.size = 66 := Hd.size _ g2
        simp
        omega
      obtain ⟨w4, hw4⟩ : ∃ w4, w4 = w3.setCells p 0 (bytes b ++ [Value.bool false]) := ⟨_, rfl⟩
      have hT5 : Turn (fun j => j = p) w3 w4 := by rw [hw4]; exact Turn.setCells (S := fun j => j = p) _ 0 (Turn.refl _ _) fun _ => rfl
      have hG5 : Blk w4 p 81 (Hd.mk b false hd.pins).cells := by rw [hw4, ← hd_put g2 hb]; exact Blk.patch _ _ 0 k1
      have hs4 := hT5.size
      have HF := Lib.hid (show St (grow F w w4) w4 c d sp hp2 (setA A2 i ⟨b, false, pinsOf a2 i⟩) ∧ Turn (fun j => F j ∨ sp = some j) w w4 from by
        rw [hpo]
        exact ⟨(HS4.out.set (hd' := ⟨b, false, hd.pins⟩) HMh.out (by rw [hpp']; exact hT5) (by rw [hpp']; exact hG5) hb hpn).mono (fun j hj => hj.imp id fun e => ⟨by omega, by omega⟩) (fun j hj => by
          rcases hj with hj | hj
          · have := HlF.out j hj; omega
          · exact hj.2) (fun g hg hj => by
          rcases hj with hj | hj
          · exact (HlS.out g hg).1 hj
          · have := (HlS.out g hg).2; omega), HT4.out.trans hT5 fun j hj e => by
            rcases k3 with k3 | k3
            · exact .inl (e ▸ k3)
            · exfalso; omega⟩)
      clear hpp' k1 hT5 hG5 hpo HMh HG2
      go_upto_region 7 with (first | (refine wl_load32 HRg hb _ rfl rfl rfl ?_) | (refine wl_build79f hb _ rfl rfl rfl ?_) | (refine wl_store79 hth hb _ _ rfl rfl rfl rfl ?_))
      rw [← hw4]
      clear hw4
      go_wp2
      go_ret
      rw [HRes.out, if_pos (by first | trivial | rfl)]
      exact ⟨rfl, ⟨hp2, HF.out.1⟩, HF.out.2⟩
    · have HF := Lib.hid (show St (grow F w w3) w3 c d sp hp2 A2 ∧ Turn (fun j => F j ∨ sp = some j) w w3 from
        ⟨HS4.out.mono (fun j hj => hj.imp id fun e => ⟨by omega, e.2⟩) (fun j hj => by
          rcases hj with hj | hj
          · have := HlF.out j hj; omega
          · exact hj.2) (fun g hg hj => by
          rcases hj with hj | hj
          · exact (HlS.out g hg).1 hj
          · have := (HlS.out g hg).2; omega), HT4.out⟩)
      have hcn : (cd == 0) = false := by simpa using hc
      go_wp2
      go_ret
      rw [HRes.out, if_neg hc]
      exact ⟨rfl, ⟨hp2, HF.out.1⟩, HF.out.2⟩
  · have HF := Lib.hid (show St (grow F w w2) w2 c d sp hp2 a2 ∧ Turn (fun j => F j ∨ sp = some j) w w2 from
      ⟨HS2.out.mono (fun j hj => hj.imp id fun e => ⟨by omega, by omega⟩) (fun j hj => by
        rcases hj with hj | hj
        · have := HlF.out j hj; omega
        · exact hj.2) (fun g hg hj => by
        rcases hj with hj | hj
        · exact (HlS.out g hg).1 hj
        · have := (HlS.out g hg).2; omega), HT2.out⟩)
    have hcn : (code == 0) = false := by simpa using hc
    clear hT2 hS2 hpp HH HHe
    rw [if_neg hc] at HRes
    go_wp2
    all_goals
      go_ret
      rw [HRes.out]
      exact ⟨rfl, ⟨hp2, HF.out.1⟩, HF.out.2⟩
end Go.Proofs.Ytnbppfhnagacfaa
