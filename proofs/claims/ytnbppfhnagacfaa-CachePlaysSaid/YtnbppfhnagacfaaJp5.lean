/- package scupperref13: Put. package scupperref13: Force. package scupperref13: Pin, Unpin. package scupperref13: Back, Sync, New. -/
import Derived.Test.YtnbppfhnagacfaaJp4
namespace Go.Proofs.Ytnbppfhnagacfaa
open Go.RowKit
set_option linter.unusedVariables false
attribute [local go_sem ↓] Go.wp_at_zero Go.wp_at_succ

theorem RMem.setH {F : Nat → Prop} {w w' : World} {c d g gl cp : Nat} {a : CA} {s : Sup} {Fc Fd : Nat → Prop} {sv wv : Value} {vs : List Value} {i : Int} {hd : Hd} (M : RMem F w c d g a s Fc Fd (.slice (some ⟨gl, 0, none⟩) (ones a).length cp) sv wv vs) (hm : ∃ h, a.m i = some h)
    (hT : Turn (fun j => j = gl) w w') (hr : GRow w' (.slice (some ⟨gl, 0, none⟩) (ones a).length cp) (ones (setA a i hd))) (hl : hd.b.length = 64) (hpn : 0 ≤ hd.pins ∧ hd.pins ≤ 1000000) :
    RMem (grow F w w') w' c d g (setA a i hd) s (grow Fc w w') Fd (.slice (some ⟨gl, 0, none⟩) (ones a).length cp) sv wv vs := by
  have hgl : Fc gl := M.fl gl rfl
  have hcg : ¬ c = gl := fun e => by
    obtain ⟨cs', hc⟩ := M.row.type gl rfl
    exact Blk.ne_ hc M.blk (by decide) e.symm
  obtain ⟨h0, hm⟩ := hm
  have hio : i ∈ a.os := (M.link.iff i).2 (by rw [hm]; rfl)
  exact M.goC (a' := setA a i hd) (hT.mono fun j _ e => by rw [e]; exact hgl) (M.blk.turn hT hcg) hr rfl rfl (M.link.upd hio _) (fun q hq hmq => by
    have hm' : updm a.m i hd q = some hq := hmq
    by_cases e : q = i
    · rw [e, updm_same] at hm'
      obtain rfl := Option.some.inj hm'
      exact ⟨hl, hpn⟩
    · rw [updm_other _ _ e] at hm'
      exact M.hl q hq hm') M.num fun j hj => .inl (M.fl j hj)
theorem RMem.put_step {F : Nat → Prop} {w2 : World} {c d g gl cp : Nat} {a : CA} {s : Sup} {Fc Fd : Nat → Prop} {sv wv : Value} {vs : List Value} {i : Int} {hd : Hd} (M : RMem F w2 c d g a s Fc Fd (.slice (some ⟨gl, 0, none⟩) (ones a).length cp) sv wv vs) (h0 : a.os[0]? = some i) (hm : a.m i = some hd) {b : List Int} (hb : b.length = 64) (ch : Bool) :
    let w3 := w2.drew.setCells gl 1 (bytes b)
    let w4 := w3.setCell ⟨gl, 65, none⟩ (.bool ch)
    w3.cell? ⟨c, 2, none⟩ = some (.slice (some ⟨gl, 0, none⟩) (ones a).length cp) ∧ w3.there gl 1 64 ∧ (∃ v, w3.cell? ⟨gl, 65, none⟩ = some v) ∧ w3.frozen? ⟨gl, 65, none⟩ = false ∧
    w4.cell? ⟨c, 2, none⟩ = some (.slice (some ⟨gl, 0, none⟩) (ones a).length cp) ∧ w4.there gl 1 64 ∧
    RMem (grow F w2 w4) w4 c d g (setA a i ⟨b, ch, hd.pins⟩) s (grow Fc w2 w4) Fd (.slice (some ⟨gl, 0, none⟩) (ones a).length cp) sv wv vs ∧ Turn (fun j => j = gl) w2 w4 := by
  intro w3 w4
  have hbl : (bytes b).length = 64 := by rw [bytes_len]; exact hb
  obtain ⟨hb64, hpn⟩ := M.hl i hd hm
  have hcg : ¬ c = gl := fun e => by
    obtain ⟨cs', hc⟩ := M.row.type gl rfl
    exact Blk.ne_ hc M.blk (by decide) e.symm
  have hq : (ones a)[0]? = some (oneC i hd) := by rw [ones_at h0, oneA_some hm]
  have hT3 : Turn (fun j => j = gl) w2 w3 := Turn.setCells (S := fun j => j = gl) (bytes b) 1 (Turn.refl _ w2).drew fun _ => rfl
  have hT4 : Turn (fun j => j = gl) w3 w4 := (Turn.refl (fun j => j = gl) w3).setCell (p := ⟨gl, 65, none⟩) (fun _ => rfl) _
  have hRd : GRow w2.drew (.slice (some ⟨gl, 0, none⟩) (ones a).length cp) (ones a) := M.row.turn (S := fun _ => False) (Turn.of_below ((Below.refl _ _).drew)) fun _ _ => id
  have hR3 : GRow w3 (.slice (some ⟨gl, 0, none⟩) (ones a).length cp) ((ones a).set 0 (setL (oneC i hd) 1 (bytes b))) := GRow.setN (bytes b) 1 (k := 0) hRd hq (by omega)
  have hlen0 : 0 < (ones a).length := (List.getElem?_eq_some_iff.1 hq).1
  have hR3' : GRow w3 (.slice (some ⟨gl, 0, none⟩) ((ones a).set 0 (setL (oneC i hd) 1 (bytes b))).length cp) ((ones a).set 0 (setL (oneC i hd) 1 (bytes b))) := by rw [List.length_set]; exact hR3
  have hq3 : ((ones a).set 0 (setL (oneC i hd) 1 (bytes b)))[0]? = some (setL (oneC i hd) 1 (bytes b)) := by rw [List.getElem?_set_self hlen0]
  have hR4 : GRow w4 (.slice (some ⟨gl, 0, none⟩) ((ones a).set 0 (setL (oneC i hd) 1 (bytes b))).length cp) (((ones a).set 0 (setL (oneC i hd) 1 (bytes b))).set 0 ((setL (oneC i hd) 1 (bytes b)).set 65 (.bool ch))) := GRow.set (k := 0) (j := 65) hR3' hq3 (by omega) (.bool ch)
  rw [List.length_set, List.set_set, oneC_put hb64 hb ch, ones_set M.link.nd h0] at hR4
  have hR4' : GRow w4 (.slice (some ⟨gl, 0, none⟩) (ones (setA a i ⟨b, ch, hd.pins⟩)).length cp) (ones (setA a i ⟨b, ch, hd.pins⟩)) := by rw [ones_len] at hR4 ⊢; exact hR4
  have hb3 := M.blk.turn hT3 hcg
  have hc3 := hb3.cell 2
  have hc4 := (hb3.turn hT4 hcg).cell 2
  have hth := GRow.there hR3' (k := 0) (by rw [List.length_set]; exact hlen0) (o := 1) (n := 64) (by omega)
  have hth4 := GRow.there hR4' (k := 0) (by rw [ones_len]; show 0 < a.os.length; rw [← ones_len]; exact hlen0) (o := 1) (n := 64) (by omega)
  rw [Nat.zero_mul, Nat.zero_add] at hth hth4
  refine ⟨hc3, hth, ?_, World.ownsRow.frozenAt hR3'.1 65, hc4, hth4, M.setH ⟨hd, hm⟩ (hT3.trans hT4 fun j _ e => e) hR4 hb hpn, hT3.trans hT4 fun j _ e => e⟩
  have h66 := setL_len (bytes b) (oneC i hd) 1
  rw [oneC_len i hd hb64] at h66
  have := hR3'.cell (k := 0) hq3 (j := 65) (List.getElem?_eq_getElem (by omega))
  rw [Nat.zero_mul, Nat.zero_add] at this
  exact ⟨_, this⟩
theorem RMem.widen0 {F : Nat → Prop} {w w1 w' : World} {c d g : Nat} {a : CA} {s : Sup} {Fc Fd : Nat → Prop} {lv sv wv : Value} {vs : List Value} (M : RMem (grow F w1 w') w' c d g a s Fc Fd lv sv wv vs) (hs : w.heap.size ≤ w1.heap.size) (hF : ∀ j, F j → j < w.heap.size) (hg : ¬ F g) (hgl : g < w.heap.size) : RMem (grow F w w') w' c d g a s Fc Fd lv sv wv vs :=
  RMem.widen M hs hF hg hgl
theorem put_eq {a : CA} {i : Int} {b : List Int} {a2 : CA} {hd : Hd} (h : holdR a i = (0, a2)) (hm : a2.m i = some hd) : putR a i b = (0, setA a2 i ⟨b, true, hd.pins⟩) := by
  unfold putR pinsOf
  rw [h]
  simp [hm]
theorem put_ne {a : CA} {i : Int} {b : List Int} {a2 : CA} {code : Int} (h : holdR a i = (code, a2)) (hc : code ≠ 0) : putR a i b = (code, a2) := by
  unfold putR
  rw [h]
  simp [hc]
set_option maxRecDepth 100000 in
set_option maxHeartbeats 8000000 in
theorem rput_any {F : Nat → Prop} {c d g : Nat} {a : CA} (i : Int) (b : List Int) (w : World) (h : RSt F w c d g a) (hw : a.x.writes < 1000000) (hus : ∀ s', a.s = some s' → s'.used < 1000000000) (hh : a.hits < 1000000) (hms : a.misses < 1000000) (hol : a.os.length < 1000) (hb : b.length = 64) :
    Calls Try.prog 40 #[.pointer (some ⟨c, 0, none⟩), .int .i64 i, blkV b] w fun e w' => e = .returned (.int .i64 (putR a i b).1) ∧ RSt (grow F w w') w' c d g (putR a i b).2 ∧ Turn (fun j => F j ∨ j = g) w w' := by
  obtain ⟨hFl, hgF, hgl, -⟩ := h.lt
  have HFl := Lib.hid hFl
  have HgF := Lib.hid hgF
  have hlk : Link a.os a.m := by obtain ⟨s, Fc, Fd, lv, sv, wv, vs, M⟩ := h; exact M.link
  obtain ⟨w1, hw1⟩ : ∃ w1, w1 = w.alloc (.cells (bytes b).toArray 32) := ⟨_, rfl⟩
  have hb1 : Below w.heap.size w w1 := by rw [hw1]; exact bel_alloc (Below.refl _ _) _
  have hV1 : Var w1 w.heap.size b := by rw [hw1]; exact Var.new _ hb
  have h1 := h.turn (Turn.of_below (S := fun _ => False) hb1) (fun _ _ => id) id
  have HH := Lib.hid (rhold_any i w1 h1 hw hus hh hms hol)
  have HHd := Lib.hid fun (e : (holdR a i).1 = 0) => hold_head e hlk
  have hs1 : w1.heap.size = w.heap.size + 1 := by rw [hw1]; simp
  obtain ⟨res, hres⟩ : ∃ r, putR a i b = r := ⟨_, rfl⟩
  rw [hres]
  generalize hR : holdR a i = R at *
  obtain ⟨code, a2⟩ := R
  have HRs := Lib.hid hres
  have HHR := Lib.hid hR
  simp only at HH HHd ⊢
  clear h h1 hFl hgF hlk hres hR
  go_enter Try.func40, Try.ntmps40
  go_upto_region 1 with (fail)
  change Code.wp _ _ _ _ (World.alloc w (.cells (bytes b).toArray 32))
  rw [← hw1]
  obtain ⟨b1, hb1e⟩ : ∃ b1, b1 = w.heap.size := ⟨_, rfl⟩
  rw [← hb1e] at hV1 ⊢
  have hbe1 : w.heap.size ≤ b1 := by omega
  have hbe2 : b1 < w1.heap.size := by omega
  have HV1 := Lib.hid hV1
  have HB1 := Lib.hid hb1
  have hbF : ¬ (F b1 ∨ b1 = g) := fun e => by
    rcases e with e | e
    · have := HFl.out b1 e; omega
    · omega
  clear hw1 hb1 hV1 hb1e
  go_wp2_with fail
  refine HH.out.mono ?_
  rintro e w2 ⟨rfl, hS2, hT2⟩
  have hs2 := hT2.size
  have HV2 := Lib.hid (HV1.out.turn hT2 hbF)
  have HS2 := Lib.hid hS2
  have HT12 := Lib.hid hT2
  have HT2 := Lib.hid (show Turn (fun j => F j ∨ j = g) w w2 from (Turn.of_below (S := fun j => F j ∨ j = g) HB1.out).trans hT2 fun _ _ e => e)
  have HS2w := Lib.hid (show RSt (grow F w w2) w2 c d g a2 from HS2.out.mono (fun j hj => hj.imp id fun e => ⟨by omega, e.2⟩) (fun j hj => by
    rcases hj with hj | hj
    · have := HFl.out j hj; omega
    · exact hj.2) (fun hj => by
    rcases hj with hj | hj
    · exact HgF.out hj
    · omega))
  clear hT2 hS2 HH
  by_cases hc : code = 0
  · subst hc
    obtain ⟨ho0, hd, hm⟩ := HHd.out rfl
    obtain ⟨s2, Fc2, Fd2, lv2, sv2, wv2, vs2, M2⟩ := HS2.out
    have hol2 : 0 < a2.os.length := (List.getElem?_eq_some_iff.1 ho0).1
    obtain ⟨gl, cl, rfl, -⟩ := M2.row.form (by rw [ones_len]; exact hol2)
    have c2 : w2.drew.cell? ⟨c, 2, none⟩ = some (.slice (some ⟨gl, 0, none⟩) (ones a2).length cl) := by have := M2.blk.cell 2; simpa using this
    obtain ⟨x1, x2, ⟨v3, x3⟩, x4, y1, y2, hM4, hT4⟩ := M2.put_step ho0 hm hb true
    have hglF : Fc2 gl := M2.fl gl rfl
    have hbg1 : ¬ b1 = gl := fun e => by
      rcases M2.sub gl (.inl hglF) with h | h
      · exact hbF (.inl (e ▸ h))
      · omega
    have hR0 : w2.drew.rangeAt b1 0 (bytes b) := HV2.out.range
    have hth : w2.drew.there gl 1 64 := by
      have := GRow.there (M2.row.turn (S := fun _ => False) (Turn.of_below ((Below.refl _ w2).drew)) fun _ _ => id) (k := 0) (by rw [ones_len]; exact hol2) (o := 1) (n := 64) (by omega)
      rw [Nat.zero_mul, Nat.zero_add] at this
      exact this
    have x5 : (w2.drew.setCells gl 1 (bytes b)).rangeAt b1 0 (bytes b) := World.rangeAt_setCells_apart hR0 _ _ _ (.inl hbg1)
    have y5 : ((w2.drew.setCells gl 1 (bytes b)).setCell ⟨gl, 65, none⟩ (.bool true)).rangeAt b1 0 (bytes b) := fun j u hu => by
      have hne : (⟨b1, 0 + j, none⟩ : Addr).block ≠ (⟨gl, 65, none⟩ : Addr).block := hbg1
      rw [World.cell?_of_block (Below.heap_setCell _ _ _ _ hne)]
      exact x5 j u hu
    have hl0n : 0 < (ones a2).length := by rw [ones_len]; exact hol2
    have hl0 : (0 : Int) < ((ones a2).length : Int) := by rw [ones_len]; omega
    have hu32 := Try.underlying32
    have hi32 : (Try.prog.info? 32).map (fun i => i.size) = some (bytes b).length := by rw [bytes_len, hb]; kernel_rfl
    have hsz64 : (bytes b).length = 64 := by rw [bytes_len]; exact hb
    have h1c : ∀ v ∈ bytes b, v.oneCell' = true := bytes_one b
    have HE := Lib.hid (show res = (0, setA a2 i ⟨b, true, hd.pins⟩) from HRs.out.symm.trans (put_eq HHR.out hm))
    have HM4 := Lib.hid hM4
    have HT4 := Lib.hid hT4
    have HgF2 := Lib.hid (show F gl ∨ w1.heap.size ≤ gl from by
      rcases M2.sub gl (.inl hglF) with h | h
      · exact .inl h
      · exact .inr h.1)
    clear M2 hM4 hT4 hm ho0
    go_upto_region 3 with (fail)
    go_region_held3 (fun W => W.cell? ⟨c, 2, none⟩ = some (.slice (some ⟨gl, 0, none⟩) (ones a2).length cl) ∧ W.rangeAt b1 0 (bytes b) ∧ W.there gl 1 64)
      (first | exact ⟨c2, hR0, hth⟩ | exact ⟨x1, x5, x2⟩ | exact ⟨y1, y5, y2⟩)
      (fail)
    have hs4 := HT4.out.size
    have HF := Lib.hid (show RSt (grow F w ((w2.drew.setCells gl 1 (bytes b)).setCell ⟨gl, 65, none⟩ (.bool true))) ((w2.drew.setCells gl 1 (bytes b)).setCell ⟨gl, 65, none⟩ (.bool true)) c d g (setA a2 i ⟨b, true, hd.pins⟩) ∧ Turn (fun j => F j ∨ j = g) w ((w2.drew.setCells gl 1 (bytes b)).setCell ⟨gl, 65, none⟩ (.bool true)) from by
      have hch := HM4.out.chain (F := F) hs2 hs4 (fun j hj => by have := HFl.out j hj; omega) HgF.out (by omega)
      exact ⟨⟨_, _, _, _, _, _, _, RMem.widen0 hch (by omega) HFl.out HgF.out hgl⟩, HT2.out.trans HT4.out fun j hj e => by
        rcases HgF2.out with h | h
        · exact .inl (e ▸ h)
        · exfalso; omega⟩)
    clear HM4 HT4 x1 x2 x3 x4 x5 y1 y2 y5 c2 hR0 hth
    go_wp2_with fail
    go_ret
    rw [HE.out]
    exact ⟨rfl, HF.out⟩
  · have hcn : (code == 0) = false := by simpa using hc
    have HE := Lib.hid (show res = (code, a2) from HRs.out.symm.trans (put_ne HHR.out hc))
    go_wp2
    go_ret
    rw [HE.out]
    exact ⟨rfl, HS2w.out, HT2.out⟩
end Go.Proofs.Ytnbppfhnagacfaa
namespace Go.Proofs.Ytnbppfhnagacfaa
open Go.RowKit
set_option linter.unusedVariables false
attribute [local go_sem ↓] Go.wp_at_zero Go.wp_at_succ

set_option maxRecDepth 100000 in
set_option maxHeartbeats 8000000 in
theorem rcforce_any {F : Nat → Prop} {c d g : Nat} {a : CA} (i : Int) (b : List Int) (w : World) (h : RSt F w c d g a) (hw : a.x.writes < 900000) (hus : ∀ s', a.s = some s' → s'.used < 1000000000) (hh : a.hits < 1000000) (hms : a.misses < 1000000) (hol : a.os.length < 1000) (hb : b.length = 64) (hus2 : usedO a.s < 900000000) :
    Calls Try.prog 41 #[.pointer (some ⟨c, 0, none⟩), .int .i64 i, blkV b] w fun e w' => e = .returned (.int .i64 (forceR a i b).1) ∧ RSt (grow F w w') w' c d g (forceR a i b).2 ∧ Turn (fun j => F j ∨ j = g) w w' := by
  obtain ⟨hFl, hgF, hgl, -⟩ := h.lt
  have HFl := Lib.hid hFl
  have HgF := Lib.hid hgF
  have hlk : Link a.os a.m := by obtain ⟨s, Fc, Fd, lv, sv, wv, vs, M⟩ := h; exact M.link
  obtain ⟨w1, hw1⟩ : ∃ w1, w1 = w.alloc (.cells (bytes b).toArray 32) := ⟨_, rfl⟩
  have hb1 : Below w.heap.size w w1 := by rw [hw1]; exact bel_alloc (Below.refl _ _) _
  have hV1 : Var w1 w.heap.size b := by rw [hw1]; exact Var.new _ hb
  have h1 := h.turn (Turn.of_below (S := fun _ => False) hb1) (fun _ _ => id) id
  have HH := Lib.hid (rhold_any i w1 h1 (by omega) hus hh hms hol)
  have HHd := Lib.hid fun (e : (holdR a i).1 = 0) => hold_head e hlk
  have hs1 : w1.heap.size = w.heap.size + 1 := by rw [hw1]; simp
  obtain ⟨res, hres⟩ : ∃ r, forceR a i b = r := ⟨_, rfl⟩
  rw [hres]
  obtain ⟨hbd1, hbd2⟩ := hold_bd a i
  generalize hR : holdR a i = R at *
  obtain ⟨code, a2⟩ := R
  have HRs := Lib.hid hres
  have HHR := Lib.hid hR
  simp only at HH HHd hbd1 hbd2 ⊢
  clear h h1 hFl hgF hlk hres hR
  go_enter Try.func41, Try.ntmps41
  go_upto_region 1 with (fail)
  change Code.wp _ _ _ _ (World.alloc w (.cells (bytes b).toArray 32))
  rw [← hw1]
  obtain ⟨b1, hb1e⟩ : ∃ b1, b1 = w.heap.size := ⟨_, rfl⟩
  rw [← hb1e] at hV1 ⊢
  have hbe1 : w.heap.size ≤ b1 := by omega
  have hbe2 : b1 < w1.heap.size := by omega
  have HV1 := Lib.hid hV1
  have HB1 := Lib.hid hb1
  have hbF : ¬ (F b1 ∨ b1 = g) := fun e => by
    rcases e with e | e
    · have := HFl.out b1 e; omega
    · omega
  clear hw1 hb1 hV1 hb1e
  go_wp2_with fail
  refine HH.out.mono ?_
  rintro e w2 ⟨rfl, hS2, hT2⟩
  have hs2 := hT2.size
  have HV2 := Lib.hid (HV1.out.turn hT2 hbF)
  have HS2 := Lib.hid hS2
  have HT12 := Lib.hid hT2
  have HT2 := Lib.hid (show Turn (fun j => F j ∨ j = g) w w2 from (Turn.of_below (S := fun j => F j ∨ j = g) HB1.out).trans hT2 fun _ _ e => e)
  have HS2w := Lib.hid (show RSt (grow F w w2) w2 c d g a2 from HS2.out.mono (fun j hj => hj.imp id fun e => ⟨by omega, e.2⟩) (fun j hj => by
    rcases hj with hj | hj
    · have := HFl.out j hj; omega
    · exact hj.2) (fun hj => by
    rcases hj with hj | hj
    · exact HgF.out hj
    · omega))
  clear hT2 hS2 HH
  by_cases hc : code = 0
  · subst hc
    obtain ⟨ho0, hd, hm⟩ := HHd.out rfl
    obtain ⟨s2, Fc2, Fd2, lv2, sv2, wv2, vs2, M2⟩ := HS2.out
    have has : a2.s = some s2 := M2.as_
    have hus3 : s2.used < 1000000000 := by rw [has] at hbd2; have : s2.used ≤ usedO a.s + 1 := hbd2; omega
    have hdr : Turn (fun _ => False) w2 w2.drew := Turn.of_below ((Below.refl _ _).drew)
    have hMd := M2.turn hdr (fun _ _ => id) id
    have HMd := Lib.hid hMd
    have c0 := hMd.blk.cell 0
    simp at c0
    have hR0 : w2.drew.rangeAt b1 0 (bytes b) := HV2.out.range
    have hS0 : w2.drew.cell? ⟨c, 0, none⟩ = some (.pointer (some ⟨d, 0, none⟩)) ∧ w2.drew.rangeAt b1 0 (bytes b) := ⟨c0, hR0⟩
    have HW := Lib.hid (rforce_any i b w2.drew hMd.dk hMd.sup hMd.gd hMd.ok hb (by omega))
    have hbd2F : ¬ (Fd2 b1 ∨ b1 = g) := fun e => by
      rcases e with e | e
      · rcases M2.sub b1 (.inr e) with h | h
        · exact hbF (.inl h)
        · omega
      · exact hbF (.inr e)
    have HbF := Lib.hid hbd2F
    obtain ⟨cd0, hcd0⟩ : ∃ q, codeO a2.x (some s2) i = q := ⟨_, rfl⟩
    have HCd := Lib.hid hcd0
    have HDf := Lib.hid (show ∀ q, q = codeO a2.x (some s2) i → { a2 with x := if q = 0 then a2.x.force i b else a2.x, s := some (sS a2.x s2 i) } = dforceA a2 i b from fun q hq => by
      unfold dforceA
      rw [has, sS_supO, hq])
    have HRe := Lib.hid (show res = if codeO a2.x (some s2) i = 0 then (0, setA (dforceA a2 i b) i ⟨b, false, hd.pins⟩) else (codeO a2.x (some s2) i, dforceA a2 i b) from by
      rw [← HRs.out, ← has]
      unfold forceR pinsOf
      rw [HHR.out]
      simp [hm])
    rw [hcd0] at HRe HW
    have hu32 := Try.underlying32
    have hi32 : (Try.prog.info? 32).map (fun i => i.size) = some (bytes b).length := by rw [bytes_len, hb]; kernel_rfl
    have hsz64 : (bytes b).length = 64 := by rw [bytes_len]; exact hb
    have h1c : ∀ v ∈ bytes b, v.oneCell' = true := bytes_one b
    have hsd : w2.drew.heap.size = w2.heap.size := rfl
    have HHm := Lib.hid hm
    have HHo := Lib.hid ho0
    have HSd := Lib.hid (show (sS a2.x s2 i).ok from sS_ok M2.ok hus3)
    clear hMd hdr hbd2F c0 hR0 M2 has hcd0 hm ho0
    go_upto_region 4 with (fail)
    go_region_held3 (fun W => W.cell? ⟨c, 0, none⟩ = some (.pointer (some ⟨d, 0, none⟩)) ∧ W.rangeAt b1 0 (bytes b))
      (first | exact hS0 | exact hS1)
      (first
        | (go_at_call 61
           refine HW.out.mono ?_
           rintro e w3 ⟨rfl, hG3, ⟨vs3, hD3⟩, hT3⟩
           have hM3 := HMd.out.goD hT3 hD3 hG3 HSd.out
           have hV3 : Var w3 b1 b := (show Var w2.drew b1 b from HV2.out).turn hT3 HbF.out
           have hS1 : w3.cell? ⟨c, 0, none⟩ = some (.pointer (some ⟨d, 0, none⟩)) ∧ w3.rangeAt b1 0 (bytes b) := ⟨by have := hM3.blk.cell 0; simpa using this, hV3.range⟩
           have HM3 := Lib.hid hM3
           have HV3 := Lib.hid hV3
           have HT3 := Lib.hid (show Turn (fun j => Fd2 j ∨ j = g) w2 w3 from ⟨hT3.os, hT3.tape, hT3.output, hT3.size, hT3.block⟩)
           have hs3 := hT3.size
           clear hG3 hD3 hM3 hV3 hT3))
    clear hS0 hS1 HW
    have HMe := Lib.hid (show ∃ s3 Fc3 Fd3 lv3 sv3 wv3 vs3, RMem (grow F w1 w3) w3 c d g (dforceA a2 i b) s3 Fc3 Fd3 lv3 sv3 wv3 vs3 from by
      have := HM3.out
      rw [HDf.out cd0 HCd.out.symm] at this
      exact ⟨_, _, _, _, _, _, _, this.chain hs2 (by omega) (fun j hj => by have := HFl.out j hj; omega) HgF.out (by omega)⟩)
    have HTe := Lib.hid (show Turn (fun j => F j ∨ j = g) w w3 from HT2.out.trans HT3.out fun j hj e => by
      rcases e with e | e
      · rcases HMd.out.sub j (.inr e) with h | h
        · exact .inl h
        · exfalso; omega
      · exact .inr e)
    clear HM3 HT3 HMd HV2
    have ho0 : (dforceA a2 i b).os[0]? = some i := HHo.out
    have hm : (dforceA a2 i b).m i = some hd := HHm.out
    have HHo3 := Lib.hid ho0
    have HHm3 := Lib.hid hm
    clear ho0 hm HHo HHm HDf HCd
    generalize dforceA a2 i b = a3 at *
    by_cases hcd : cd0 = 0
    · subst hcd
      rw [if_pos rfl] at HRe
      have ho0 := HHo3.out
      have hm := HHm3.out
      obtain ⟨s3, Fc3, Fd3, lv3, sv3, wv3, vs3, M3⟩ := HMe.out
      have hol2 : 0 < a3.os.length := (List.getElem?_eq_some_iff.1 ho0).1
      obtain ⟨gl, cl, rfl, -⟩ := M3.row.form (by rw [ones_len]; exact hol2)
      have c2 : w3.drew.cell? ⟨c, 2, none⟩ = some (.slice (some ⟨gl, 0, none⟩) (ones a3).length cl) := by have := M3.blk.cell 2; simpa using this
      obtain ⟨x1, x2, ⟨v3, x3⟩, x4, y1, y2, hM4, hT4⟩ := M3.put_step ho0 hm hb false
      have hglF : Fc3 gl := M3.fl gl rfl
      have hbg1 : ¬ b1 = gl := fun e => by
        rcases M3.sub gl (.inl hglF) with h | h
        · exact hbF (.inl (e ▸ h))
        · omega
      have hR0 : w3.drew.rangeAt b1 0 (bytes b) := HV3.out.range
      have hth : w3.drew.there gl 1 64 := by
        have := GRow.there (M3.row.turn (S := fun _ => False) (Turn.of_below ((Below.refl _ w3).drew)) fun _ _ => id) (k := 0) (by rw [ones_len]; exact hol2) (o := 1) (n := 64) (by omega)
        rw [Nat.zero_mul, Nat.zero_add] at this
        exact this
      have x5 : (w3.drew.setCells gl 1 (bytes b)).rangeAt b1 0 (bytes b) := World.rangeAt_setCells_apart hR0 _ _ _ (.inl hbg1)
      have y5 : ((w3.drew.setCells gl 1 (bytes b)).setCell ⟨gl, 65, none⟩ (.bool false)).rangeAt b1 0 (bytes b) := fun j u hu => by
        have hne : (⟨b1, 0 + j, none⟩ : Addr).block ≠ (⟨gl, 65, none⟩ : Addr).block := hbg1
        rw [World.cell?_of_block (Below.heap_setCell _ _ _ _ hne)]
        exact x5 j u hu
      have hl0n : 0 < (ones a3).length := by rw [ones_len]; exact hol2
      have hl0 : (0 : Int) < ((ones a3).length : Int) := by rw [ones_len]; omega
      have HE := Lib.hid (show res = (0, setA a3 i ⟨b, false, hd.pins⟩) from HRe.out)
      have HM4 := Lib.hid hM4
      have HT4 := Lib.hid hT4
      have HgF2 := Lib.hid (show F gl ∨ w1.heap.size ≤ gl from by
        rcases M3.sub gl (.inl hglF) with h | h
        · exact .inl h
        · exact .inr h.1)
      clear M3 hM4 hT4 hm ho0
      go_upto_region 6 with (fail)
      go_region_held3 (fun W => W.cell? ⟨c, 2, none⟩ = some (.slice (some ⟨gl, 0, none⟩) (ones a3).length cl) ∧ W.rangeAt b1 0 (bytes b) ∧ W.there gl 1 64)
        (first | exact ⟨c2, hR0, hth⟩ | exact ⟨x1, x5, x2⟩ | exact ⟨y1, y5, y2⟩)
        (fail)
      have hs4 := HT4.out.size
      have HF := Lib.hid (show RSt (grow F w ((w3.drew.setCells gl 1 (bytes b)).setCell ⟨gl, 65, none⟩ (.bool false))) ((w3.drew.setCells gl 1 (bytes b)).setCell ⟨gl, 65, none⟩ (.bool false)) c d g (setA a3 i ⟨b, false, hd.pins⟩) ∧ Turn (fun j => F j ∨ j = g) w ((w3.drew.setCells gl 1 (bytes b)).setCell ⟨gl, 65, none⟩ (.bool false)) from by
        have hch := HM4.out.chain (F := F) (by omega) hs4 (fun j hj => by have := HFl.out j hj; omega) HgF.out (by omega)
        exact ⟨⟨_, _, _, _, _, _, _, RMem.widen0 hch (by omega) HFl.out HgF.out hgl⟩, HTe.out.trans HT4.out fun j hj e => by
          rcases HgF2.out with h | h
          · exact .inl (e ▸ h)
          · exfalso; omega⟩)
      clear HM4 HT4 x1 x2 x3 x4 x5 y1 y2 y5 c2 hR0 hth
      go_wp2_with fail
      go_ret
      rw [HE.out]
      exact ⟨rfl, HF.out⟩
    · rw [if_neg hcd] at HRe
      have hcn : (cd0 == 0) = false := by simpa using hcd
      have HF := Lib.hid (show RSt (grow F w w3) w3 c d g a3 from by
        obtain ⟨s3, Fc3, Fd3, lv3, sv3, wv3, vs3, M3⟩ := HMe.out
        exact ⟨_, _, _, _, _, _, _, RMem.widen0 M3 (by omega) HFl.out HgF.out hgl⟩)
      go_wp2
      go_ret
      rw [HRe.out]
      exact ⟨rfl, HF.out, HTe.out⟩
  · have hcn : (code == 0) = false := by simpa using hc
    have HE := Lib.hid (show res = (code, a2) from HRs.out.symm.trans (by unfold forceR; rw [HHR.out]; simp [hc]))
    go_wp2
    go_ret
    rw [HE.out]
    exact ⟨rfl, HS2w.out, HT2.out⟩
end Go.Proofs.Ytnbppfhnagacfaa
namespace Go.Proofs.Ytnbppfhnagacfaa
open Go.RowKit
set_option linter.unusedVariables false
attribute [local go_sem ↓] Go.wp_at_zero Go.wp_at_succ

def pinR (a : CA) (i : Int) : Int × CA :=
  match a.m i with
  | none => (5, a)
  | some h => (0, setA a i ⟨h.b, h.ch, h.pins + 1⟩)
def unpinR (a : CA) (i : Int) : Int × CA :=
  match a.m i with
  | none => (5, a)
  | some h => if h.pins = 0 then (5, a) else (0, setA a i ⟨h.b, h.ch, h.pins - 1⟩)
theorem RMem.cell_set {F : Nat → Prop} {w : World} {c d g gl cp : Nat} {a : CA} {s : Sup} {Fc Fd : Nat → Prop} {sv wv : Value} {vs : List Value} {i : Int} {hd hd' : Hd} {k j : Nat} {u : Value} (M : RMem F w c d g a s Fc Fd (.slice (some ⟨gl, 0, none⟩) a.os.length cp) sv wv vs) (hk : a.os[k]? = some i) (hm : a.m i = some hd) (hj : j < 67) (he : (oneC i hd).set j u = oneC i hd') (hl : hd'.b.length = 64) (hpn : 0 ≤ hd'.pins ∧ hd'.pins ≤ 1000000) :
    RSt (grow F w (w.setCell ⟨gl, k * 67 + j, none⟩ u)) (w.setCell ⟨gl, k * 67 + j, none⟩ u) c d g (setA a i hd') ∧ Turn (fun q => F q ∨ q = g) w (w.setCell ⟨gl, k * 67 + j, none⟩ u) := by
  have hT : Turn (fun q => q = gl) w (w.setCell ⟨gl, k * 67 + j, none⟩ u) := (Turn.refl (fun q => q = gl) w).setCell (p := ⟨gl, k * 67 + j, none⟩) (fun _ => rfl) _
  have hq : (ones a)[k]? = some (oneC i hd) := by rw [ones_at hk, oneA_some hm]
  rw [← ones_len] at M
  have hr := M.row.set hq hj u
  rw [he, ones_set M.link.nd hk] at hr
  exact ⟨⟨_, _, _, _, _, _, _, M.setH ⟨hd, hm⟩ hT hr hl hpn⟩, hT.mono fun q _ e => .inl (by rw [e]; exact M.sub _ (.inl (M.fl gl rfl)))⟩
set_option maxRecDepth 100000 in
set_option maxHeartbeats 2000000 in
theorem rpin_any {F : Nat → Prop} {c d g : Nat} {a : CA} (i : Int) (w : World) (h : RSt F w c d g a) (hp : ∀ k x, a.m k = some x → x.pins < 1000000) :
    Calls Try.prog 42 #[.pointer (some ⟨c, 0, none⟩), .int .i64 i] w fun e w' => e = .returned (.int .i64 (pinR a i).1) ∧ RSt (grow F w w') w' c d g (pinR a i).2 ∧ Turn (fun j => F j ∨ j = g) w w' := by
  have HS := Lib.hid (show RSt (grow F w w) w c d g a ∧ Turn (fun j => F j ∨ j = g) w w from ⟨h.same (Turn.refl _ _), Turn.refl _ _⟩)
  obtain ⟨s, Fc, Fd, lv, sv, wv, vs, M⟩ := h
  have HFn := Lib.hid (rfind_any i w M)
  unfold pinR
  cases hm : a.m i with
  | none =>
    have hin : i ∉ a.os := fun e => by have := (M.link.iff i).1 e; rw [hm] at this; cases this
    rw [idx_neg hin] at HFn
    clear M hm hin
    go_enter Try.func42, Try.ntmps42
    go_wp2_with fail
    refine HFn.out.mono ?_
    rintro e w1 ⟨rfl, rfl⟩
    go_wp2
    go_ret
    exact ⟨rfl, HS.out⟩
  | some hd =>
    have hin : i ∈ a.os := (M.link.iff i).2 (by rw [hm]; rfl)
    obtain ⟨k, hk1, hk2, hk3⟩ := idx_some hin
    rw [hk1] at HFn
    obtain ⟨gl, cp, rfl, -⟩ := M.row.form (by rw [ones_len]; omega)
    rw [ones_len] at M
    obtain ⟨hb64, hpn0, -⟩ := M.hl i hd hm
    have hpn1 := hp i hd hm
    have hq : (ones a)[k]? = some (oneC i hd) := by rw [ones_at hk2, oneA_some hm]
    have c2 := M.blk.cell 2
    simp at c2
    have hMr := M.row
    rw [← ones_len] at hMr
    have hck : w.cell? ⟨gl, k * 67 + 66, none⟩ = some (.int .i64 hd.pins) := hMr.cell hq (oneC_at i hd hb64).2.2.1
    have hfk : w.frozen? ⟨gl, k * 67 + 66, none⟩ = false := World.ownsRow.frozenAt hMr.1 _
    have hgl := hMr.lt gl rfl
    have ew : IntKind.i64.wrap (hd.pins + 1) = hd.pins + 1 := IntWalk.i64_in _ (by omega) |>.trans rfl
    have hi0 : (0 : Int) ≤ (k : Int) := by omega
    have hi1 : (k : Int) < (a.os.length : Int) := by omega
    have HF := Lib.hid (M.cell_set (j := 66) (u := .int .i64 (hd.pins + 1)) hk2 hm (by omega) (oneC_pins hb64 _) hb64 ⟨by show 0 ≤ hd.pins + 1; omega, by show hd.pins + 1 ≤ 1000000; omega⟩)
    clear M hMr hq hm hk2 hin
    go_enter Try.func42, Try.ntmps42
    go_wp2_with fail
    refine HFn.out.mono ?_
    rintro e w1 ⟨rfl, rfl⟩
    go_wp2
    go_ret
    exact ⟨rfl, HF.out⟩
set_option maxRecDepth 100000 in
set_option maxHeartbeats 2000000 in
theorem runpin_any {F : Nat → Prop} {c d g : Nat} {a : CA} (i : Int) (w : World) (h : RSt F w c d g a) :
    Calls Try.prog 43 #[.pointer (some ⟨c, 0, none⟩), .int .i64 i] w fun e w' => e = .returned (.int .i64 (unpinR a i).1) ∧ RSt (grow F w w') w' c d g (unpinR a i).2 ∧ Turn (fun j => F j ∨ j = g) w w' := by
  have HS := Lib.hid (show RSt (grow F w w) w c d g a ∧ Turn (fun j => F j ∨ j = g) w w from ⟨h.same (Turn.refl _ _), Turn.refl _ _⟩)
  obtain ⟨s, Fc, Fd, lv, sv, wv, vs, M⟩ := h
  have HFn := Lib.hid (rfind_any i w M)
  unfold unpinR
  cases hm : a.m i with
  | none =>
    have hin : i ∉ a.os := fun e => by have := (M.link.iff i).1 e; rw [hm] at this; cases this
    rw [idx_neg hin] at HFn
    clear M hm hin
    go_enter Try.func43, Try.ntmps43
    go_wp2_with fail
    refine HFn.out.mono ?_
    rintro e w1 ⟨rfl, rfl⟩
    go_wp2
    go_ret
    exact ⟨rfl, HS.out⟩
  | some hd =>
    have hin : i ∈ a.os := (M.link.iff i).2 (by rw [hm]; rfl)
    obtain ⟨k, hk1, hk2, hk3⟩ := idx_some hin
    rw [hk1] at HFn
    obtain ⟨gl, cp, rfl, -⟩ := M.row.form (by rw [ones_len]; omega)
    rw [ones_len] at M
    obtain ⟨hb64, hpn0, hpn1⟩ := M.hl i hd hm
    have hq : (ones a)[k]? = some (oneC i hd) := by rw [ones_at hk2, oneA_some hm]
    have c2 := M.blk.cell 2
    simp at c2
    have hMr := M.row
    rw [← ones_len] at hMr
    have hck : w.cell? ⟨gl, k * 67 + 66, none⟩ = some (.int .i64 hd.pins) := hMr.cell hq (oneC_at i hd hb64).2.2.1
    have hfk : w.frozen? ⟨gl, k * 67 + 66, none⟩ = false := World.ownsRow.frozenAt hMr.1 _
    have hgl := hMr.lt gl rfl
    have ew : IntKind.i64.wrap (hd.pins - 1) = hd.pins - 1 := IntWalk.i64_in _ (by omega) |>.trans rfl
    have hi0 : (0 : Int) ≤ (k : Int) := by omega
    have hi1 : (k : Int) < (a.os.length : Int) := by omega
    by_cases hz : hd.pins = 0
    · have hR : (if hd.pins = 0 then ((5 : Int), a) else (0, setA a i ⟨hd.b, hd.ch, hd.pins - 1⟩)) = (5, a) := if_pos hz
      simp only
      rw [hR]
      have hzb : (hd.pins == 0) = true := by simpa using hz
      clear M hMr hq hm hk2 hin hR hz
      go_enter Try.func43, Try.ntmps43
      go_wp2_with fail
      refine HFn.out.mono ?_
      rintro e w1 ⟨rfl, rfl⟩
      go_wp2
      go_ret
      exact ⟨rfl, HS.out⟩
    · have hR : (if hd.pins = 0 then ((5 : Int), a) else (0, setA a i ⟨hd.b, hd.ch, hd.pins - 1⟩)) = (0, setA a i ⟨hd.b, hd.ch, hd.pins - 1⟩) := if_neg hz
      simp only
      rw [hR]
      have hzb : (hd.pins == 0) = false := by simpa using hz
      have HF := Lib.hid (M.cell_set (j := 66) (u := .int .i64 (hd.pins - 1)) hk2 hm (by omega) (oneC_pins hb64 _) hb64 ⟨by show 0 ≤ hd.pins - 1; omega, by show hd.pins - 1 ≤ 1000000; omega⟩)
      clear M hMr hq hm hk2 hin hR
      go_enter Try.func43, Try.ntmps43
      go_wp2_with fail
      refine HFn.out.mono ?_
      rintro e w1 ⟨rfl, rfl⟩
      go_wp2
      go_ret
      exact ⟨rfl, HF.out⟩
end Go.Proofs.Ytnbppfhnagacfaa
namespace Go.Proofs.Ytnbppfhnagacfaa
open Go.RowKit
set_option linter.unusedVariables false
attribute [local go_sem ↓] Go.wp_at_zero Go.wp_at_succ

theorem wr_ch {a : CA} {i : Int} {bb : List Int} {pins : Int} {s : Sup} (hm : a.m i = some ⟨bb, true, pins⟩) (has : a.s = some s) : wrR a i = if codeO a.x (some s) i = 0 then (0, setA { a with x := a.x.write i bb, s := some (sS a.x s i) } i ⟨bb, false, pins⟩) else (codeO a.x (some s) i, { a with s := some (sS a.x s i) }) := by
  unfold wrR
  rw [hm, has, sS_supO]
  rfl
theorem wr_un {a : CA} {i : Int} {bb : List Int} {pins : Int} (hm : a.m i = some ⟨bb, false, pins⟩) : wrR a i = (0, a) := by
  unfold wrR
  rw [hm]
  rfl
set_option maxRecDepth 100000 in
set_option maxHeartbeats 4000000 in
theorem rback_any {F : Nat → Prop} {c d g : Nat} {a : CA} (i : Int) (w : World) (h : RSt F w c d g a) (hw : a.x.writes ≤ 1000000) (hus : ∀ s', a.s = some s' → s'.used < 1000000000) :
    Calls Try.prog 44 #[.pointer (some ⟨c, 0, none⟩), .int .i64 i] w fun e w' => e = .returned (.int .i64 (backR a i).1) ∧ RSt (grow F w w') w' c d g (backR a i).2 ∧ Turn (fun j => F j ∨ j = g) w w' := by
  have HS := Lib.hid (show RSt (grow F w w) w c d g a ∧ Turn (fun j => F j ∨ j = g) w w from ⟨h.same (Turn.refl _ _), Turn.refl _ _⟩)
  obtain ⟨hFl, hgF, hgl, -⟩ := h.lt
  have HFl := Lib.hid hFl
  have HgF := Lib.hid hgF
  obtain ⟨s, Fc, Fd, lv, sv, wv, vs, M⟩ := h
  have HFn := Lib.hid (rfind_any i w M)
  unfold backR
  clear hFl hgF
  cases hm : a.m i with
  | none =>
    have hin : i ∉ a.os := fun e => by have := (M.link.iff i).1 e; rw [hm] at this; cases this
    rw [idx_neg hin] at HFn
    clear M hm hin
    simp only [Option.isSome_none, Bool.false_eq_true, if_false]
    go_enter Try.func44, Try.ntmps44
    go_wp2_with fail
    refine HFn.out.mono ?_
    rintro e w1 ⟨rfl, rfl⟩
    go_wp2
    go_ret
    exact ⟨rfl, HS.out⟩
  | some hd =>
    simp only [Option.isSome_some, if_true]
    have hin : i ∈ a.os := (M.link.iff i).2 (by rw [hm]; rfl)
    obtain ⟨k, hk1, hk2, hk3⟩ := idx_some hin
    rw [hk1] at HFn
    obtain ⟨gl, cp, rfl, -⟩ := M.row.form (by rw [ones_len]; omega)
    rw [ones_len] at M
    obtain ⟨hb64, hpn0, hpn1⟩ := M.hl i hd hm
    have hq : (ones a)[k]? = some (oneC i hd) := by rw [ones_at hk2, oneA_some hm]
    have c2 := M.blk.cell 2
    simp at c2
    have hMr := M.row
    rw [← ones_len] at hMr
    have hck : w.cell? ⟨gl, k * 67 + 65, none⟩ = some (.bool hd.ch) := hMr.cell hq (oneC_at i hd hb64).2.1
    have hi0 : (0 : Int) ≤ (k : Int) := by omega
    have hi1 : (k : Int) < (a.os.length : Int) := by omega
    obtain ⟨bb, ch, pins⟩ := hd
    simp only at hb64 hpn0 hpn1 hck
    cases ch with
    | false =>
      rw [wr_un hm]
      clear M hMr hq hm hk2 hin
      go_enter Try.func44, Try.ntmps44
      go_wp2_with fail
      refine HFn.out.mono ?_
      rintro e w1 ⟨rfl, rfl⟩
      go_wp2
      go_ret
      exact ⟨rfl, HS.out⟩
    | true =>
      have has := M.as_
      have hus3 := hus s has
      obtain ⟨res, hres⟩ : ∃ r, wrR a i = r := ⟨_, rfl⟩
      rw [hres]
      have HRes := Lib.hid (hres.symm.trans (wr_ch hm has))
      have hdr : Turn (fun _ => False) w w.drew := Turn.of_below ((Below.refl _ _).drew)
      have hMd := M.turn hdr (fun _ _ => id) id
      have HMd := Lib.hid hMd
      have HM := Lib.hid M
      have c0 := hMd.blk.cell 0
      have c2d := hMd.blk.cell 2
      simp at c0 c2d
      have hRd := hMd.row
      rw [← ones_len] at hRd
      have hRg0 : w.drew.rangeAt gl (k * 67 + 1) (bytes bb) := fun j v hv => by
        have := hRd.cell (k := k) hq ((oneC_at i ⟨bb, true, pins⟩ hb64).2.2.2 j v hv)
        rw [show k * 67 + 1 + j = k * 67 + (1 + j) by omega]
        exact this
      have hS0 : w.drew.cell? ⟨c, 0, none⟩ = some (.pointer (some ⟨d, 0, none⟩)) ∧ w.drew.cell? ⟨c, 2, none⟩ = some (.slice (some ⟨gl, 0, none⟩) a.os.length cp) ∧ w.drew.rangeAt gl (k * 67 + 1) (bytes bb) := ⟨c0, c2d, hRg0⟩
      have HW := Lib.hid (rwrite_any i bb w.drew hMd.dk hMd.sup hMd.gd hMd.ok hb64 hw)
      have HSd := Lib.hid (show (sS a.x s i).ok from sS_ok M.ok hus3)
      have HQ := Lib.hid hq
      have HK2 := Lib.hid hk2
      have HHm := Lib.hid hm
      have hu32 := Try.underlying32
      have hi32 : (Try.prog.info? 32).map (fun i => i.size) = some (bytes bb).length := by rw [bytes_len, hb64]; kernel_rfl
      have hsz64 : (bytes bb).length = 64 := by rw [bytes_len]; exact hb64
      have hwd : w.drew.heap.size = w.heap.size := rfl
      clear M hMr hm hk2 hin hMd hdr hRd hq c0 c2d hRg0 hres has
      go_enter Try.func44, Try.ntmps44
      go_wp2_with fail
      refine HFn.out.mono ?_
      rintro e w1 ⟨rfl, rfl⟩
      go_upto_region 6 with (fail)
      go_region_held3 (fun W => W.cell? ⟨c, 0, none⟩ = some (.pointer (some ⟨d, 0, none⟩)) ∧ W.cell? ⟨c, 2, none⟩ = some (.slice (some ⟨gl, 0, none⟩) a.os.length cp) ∧ W.rangeAt gl (k * 67 + 1) (bytes bb))
        (first | exact hS0 | exact hS1)
        (first
          | (go_at_call 62
             refine HW.out.mono ?_
             rintro e w3 ⟨rfl, hG3, ⟨vs3, hD3⟩, hT3⟩
             have hM3 := HMd.out.goD hT3 hD3 hG3 HSd.out
             have hS1 : w3.cell? ⟨c, 0, none⟩ = some (.pointer (some ⟨d, 0, none⟩)) ∧ w3.cell? ⟨c, 2, none⟩ = some (.slice (some ⟨gl, 0, none⟩) a.os.length cp) ∧ w3.rangeAt gl (k * 67 + 1) (bytes bb) := ⟨by have := hM3.blk.cell 0; simpa using this, by have := hM3.blk.cell 2; simpa using this, fun j v hv => by
               have hr3 : GRow w3 (.slice (some ⟨gl, 0, none⟩) (ones a).length cp) (ones a) := by rw [ones_len]; exact hM3.row
               have := hr3.cell (k := k) HQ.out ((oneC_at i ⟨bb, true, pins⟩ hb64).2.2.2 j v hv)
               rw [show k * 67 + 1 + j = k * 67 + (1 + j) by omega]
               exact this⟩
             have HM3 := Lib.hid (hM3.widen (w1 := w1) (by omega) HFl.out HgF.out hgl)
             have HT3 := Lib.hid (show Turn (fun j => Fd j ∨ j = g) w1 w3 from ⟨hT3.os, hT3.tape, hT3.output, hT3.size, hT3.block⟩)
             have hs3 := hT3.size
             clear hG3 hD3 hM3 hT3))
      clear hS0 hS1 hu32 hi32 hsz64 HW c2 hck
      have HT4 := Lib.hid (show Turn (fun j => F j ∨ j = g) w1 w3 from HT3.out.mono fun j _ e => e.imp (fun e => HM.out.sub j (.inr e)) id)
      clear HT3 HMd
      generalize hcd : codeO a.x (some s) i = cd at *
      clear hcd
      by_cases hc : cd = 0
      · subst hc
        rw [if_pos rfl] at HRes
        have HM3 := Lib.hid (show RMem (grow F w1 w3) w3 c d g { a with x := a.x.write i bb, s := some (sS a.x s i) } _ _ _ _ _ _ _ from HM3.out)
        have c2 := HM3.out.blk.cell 2
        simp at c2
        have hr3 : GRow w3 (.slice (some ⟨gl, 0, none⟩) (ones a).length cp) (ones a) := by rw [ones_len]; exact HM3.out.row
        have hck : w3.cell? ⟨gl, k * 67 + 65, none⟩ = some (.bool true) := hr3.cell HQ.out (oneC_at i ⟨bb, true, pins⟩ hb64).2.1
        have hfk : w3.frozen? ⟨gl, k * 67 + 65, none⟩ = false := World.ownsRow.frozenAt hr3.1 _
        have hgl3 := hr3.lt gl rfl
        have HF := Lib.hid (HM3.out.cell_set (j := 65) (u := .bool false) (hd' := ⟨bb, false, pins⟩) HK2.out HHm.out (by omega) (oneC_ch (h := ⟨bb, true, pins⟩) hb64 _) hb64 ⟨hpn0, hpn1⟩)
        have hw3s : w1.heap.size ≤ w3.heap.size := HT4.out.size
        clear hr3
        go_wp2_with fail
        go_ret
        rw [HRes.out]
        exact ⟨rfl, HF.out.1.chain hw3s HF.out.2.size HFl.out HgF.out hgl, HT4.out.chainG HF.out.2⟩
      · rw [if_neg hc] at HRes
        have hcn : (cd == 0) = false := by simpa using hc
        have HF := Lib.hid (show RSt (grow F w1 w3) w3 c d g { a with s := some (sS a.x s i) } from by
          have := HM3.out
          rw [if_neg hc] at this
          exact ⟨_, _, _, _, _, _, _, this⟩)
        go_wp2
        go_ret
        rw [HRes.out]
        exact ⟨rfl, HF.out, HT4.out⟩
end Go.Proofs.Ytnbppfhnagacfaa
