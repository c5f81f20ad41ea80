/- package cache: write. -/
import Derived.Test.YtnbppfhnagacfaaCwr
namespace Go.Proofs.Ytnbppfhnagacfaa
open Go.RowKit
set_option linter.unusedVariables false
attribute [local go_sem ↓] Go.wp_at_zero Go.wp_at_succ

theorem code_zero (x : Dk) (s : Option Sup) (i : Int) : (x.is i ∧ (useO s).1 = 0) ↔ codeO x s i = 0 := by
  unfold codeO
  by_cases hi : x.is i
  · simp [hi]
  · simp [hi]
theorem Disk.write' {F : Nat → Prop} {d : Nat} {sp : Option Nat} {x : Dk} {s : Option Sup} (i : Int) (b : List Int) (w : World) (h : Disk F w d sp x) (hs : SupIs w sp s) (hok : ∀ s', s = some s' → s'.ok) (hsp : ∀ g, sp = some g → ¬ F g ∧ g < w.heap.size)
    (hb : b.length = 64) (hk : (key i).wf = true) (hw : x.writes ≤ 1000000) :
    Calls Try.prog 57 #[.pointer (some ⟨d, 0, none⟩), .int .i64 i, .agg (bytes b).toArray] w fun e w' => e = .returned (.int .i64 (codeO x s i)) ∧ SupIs w' sp (supO x s i) ∧
      Disk (grow F w w') w' d sp (if codeO x s i = 0 then x.write i b else x) ∧ Turn (fun j => F j ∨ sp = some j) w w' := by
  have := h.write i b w hs hok hsp hb hk hw
  refine this.mono fun e w' ⟨h1, h2, h3, h4⟩ => ⟨h1, h2, ?_, h4⟩
  by_cases hc : codeO x s i = 0
  · rw [if_pos hc]; rwa [if_pos ((code_zero x s i).2 hc)] at h3
  · rw [if_neg hc]; rwa [if_neg fun e => hc ((code_zero x s i).1 e)] at h3

structure Own (Fc Fd : Nat → Prop) (w : World) (sp : Option Nat) (s : Option Sup) : Prop where
  sup : SupIs w sp s
  ok : ∀ s', s = some s' → s'.ok
  ap : ∀ j, Fc j → ¬ Fd j
  spc : ∀ g, sp = some g → ¬ Fc g
  spd : ∀ g, sp = some g → ¬ Fd g
  splt : ∀ g, sp = some g → g < w.heap.size

set_option maxRecDepth 100000 in
set_option maxHeartbeats 4000000 in
theorem cwrite_any {Fc Fd : Nat → Prop} {c d ml : Nat} {ov : Value} {hp : Int → Nat} {size : Int} {os : List Int} {m : Int → Option Hd} {cnt : Nat} {hits misses : Int} {sp : Option Nat} {x : Dk} {s : Option Sup} {hd : Hd} (i : Int) (w : World)
    (h : CacheIs Fc w c d ml ov hp size os m cnt hits misses) (hD : Disk Fd w d sp x) (hO : Own Fc Fd w sp s) (hm : m i = some hd) (hw : x.writes ≤ 1000000) :
    Calls Try.prog 35 #[.pointer (some ⟨c, 0, none⟩), .int .i64 i] w fun e w' => e = .returned (.int .i64 (if hd.ch then codeO x s i else 0)) ∧
      CacheIs Fc w' c d ml ov hp size os (if hd.ch = true ∧ codeO x s i = 0 then updm m i ⟨hd.b, false, hd.pins⟩ else m) cnt hits misses ∧ Disk (grow Fd w w') w' d sp (if hd.ch = true ∧ codeO x s i = 0 then x.write i hd.b else x) ∧
      SupIs w' sp (if hd.ch then supO x s i else s) ∧ Turn (fun j => Fc j ∨ Fd j ∨ sp = some j) w w' := by
  obtain ⟨g1, hb, hk, hFp, hpn⟩ := h.held i hd hm
  have c2 := h.blk.cell 2
  have c0 := h.blk.cell 0
  simp at c2 c0
  have hlk := h.map.is.look Try.underlying71 (zero75 _) hk
  rw [hm] at hlk
  simp only [Option.map_some, Option.getD_some] at hlk
  have hh := (g1.cell 64).trans (hd.at64 hb).1
  have hR : w.rangeAt (hp i) 0 (bytes hd.b) := fun j v hv => by rw [Nat.zero_add, g1.cell j]; exact hd.byte hb j v hv
  have HC := Lib.hid h
  have HD := Lib.hid hD
  have HO := Lib.hid hO
  have HG := Lib.hid g1
  obtain ⟨bb, ch, pins⟩ := hd
  simp only at hh hb hR hpn
  generalize hpi : hp i = pi at *
  clear h hD hO g1
  cases ch with
  | false =>
    have HF := Lib.hid (show CacheIs Fc w c d ml ov hp size os m cnt hits misses ∧ Disk (grow Fd w w) w d sp x ∧ SupIs w sp s ∧ Turn (fun j => Fc j ∨ Fd j ∨ sp = some j) w w from
      ⟨HC.out, HD.out.mono (fun j hj => .inl hj) (fun j hj => by rcases hj with hj | hj; exact HD.out.lt j hj; exact hj.2), HO.out.sup, Turn.refl _ _⟩)
    clear HC HD HO HG hpi
    go_enter Try.func35, Try.ntmps35
    go_wp2
    go_ret
    first | exact ⟨rfl, HF.out⟩ | exact ⟨rfl, by simpa using HF.out⟩
  | true =>
    have hS0 : w.drew.cell? ⟨c, 0, none⟩ = some (.pointer (some ⟨d, 0, none⟩)) ∧ w.drew.rangeAt pi 0 (bytes bb) := ⟨c0, hR⟩
    have hWr := HD.out.below ((Below.refl w.heap.size w).drew)
    have HW := Lib.hid ((HD.out.below ((Below.refl w.heap.size w).drew)).write' i bb w.drew (HO.out.sup.turn (Turn.of_below (S := fun _ => False) ((Below.refl w.heap.size w).drew)) fun _ _ => id) HO.out.ok (fun g hg => ⟨HO.out.spd g hg, HO.out.splt g hg⟩) hb hk hw)
    have hu32 := Try.underlying32
    have hi32 : (Try.prog.info? 32).map (fun i => i.size) = some (bytes bb).length := by rw [bytes_len, hb]; kernel_rfl
    have hsz64 : (bytes bb).length = 64 := by rw [bytes_len]; exact hb
    have HFd := Lib.hid fun (W : World) (hT : Turn (fun j => Fd j ∨ sp = some j) w.drew W) => show CacheIs Fc W c d ml ov hp size os m cnt hits misses ∧ Turn (fun j => Fc j ∨ Fd j ∨ sp = some j) w W from by
      have hT' : Turn (fun j => Fd j ∨ sp = some j) w W := ⟨hT.os, hT.tape, hT.output, hT.size, hT.block⟩
      exact ⟨HC.out.turn hT' fun j hj e => by
        rcases e with e | e
        · exact HO.out.ap j hj e
        · exact HO.out.spc j e hj, hT'.mono fun j _ e => .inr e⟩
    have HAp := Lib.hid (show (∀ j, Fc j → ¬ Fd j) ∧ ∀ g, sp = some g → ¬ Fc g from ⟨HO.out.ap, HO.out.spc⟩)
    have HPl := Lib.hid (show pi < w.heap.size from HC.out.lt _ hFp)
    clear hWr
    go_enter Try.func35, Try.ntmps35
    go_upto_region 4 with (fail)
    go_region_held3 (fun W => W.cell? ⟨c, 0, none⟩ = some (.pointer (some ⟨d, 0, none⟩)) ∧ W.rangeAt pi 0 (bytes bb))
      (first | exact hS0 | exact hS1)
      (first
        | (go_at_call 57
           refine HW.out.mono ?_
           rintro e w3 ⟨rfl, hs3, hD3, hT3⟩
           obtain ⟨hC3, hTT3⟩ := HFd.out _ hT3
           have hG3 : Blk w3 pi 81 _ := HG.out.turn (show Turn (fun j => Fd j ∨ sp = some j) w w3 from ⟨hT3.os, hT3.tape, hT3.output, hT3.size, hT3.block⟩) fun e => by
             rcases e with e | e
             · exact HO.out.ap _ hFp e
             · exact HO.out.spc _ e hFp
           have hS1 : w3.cell? ⟨c, 0, none⟩ = some (.pointer (some ⟨d, 0, none⟩)) ∧ w3.rangeAt pi 0 (bytes bb) := ⟨by have := hC3.blk.cell 0; simpa using this, fun j v hv => by rw [Nat.zero_add, hG3.cell j]; exact Hd.byte ⟨bb, true, pins⟩ hb j v hv⟩
           have HS3 := Lib.hid hs3
           have HD3 := Lib.hid hD3
           have HC3 := Lib.hid hC3
           have HT3 := Lib.hid hTT3
           have HG3 := Lib.hid hG3
           clear hs3 hD3 hT3 hC3 hTT3 hG3))
    clear hS0 hS1 hh hlk c0 c2 hR hu32 hi32 hsz64 HW HFd HC HD HO HG
    generalize hcd : codeO x s i = cd at *
    have hcD : Hid (Disk (grow Fd w.drew w3) w3 d sp (if cd = 0 then x.write i bb else x)) := HD3
    by_cases hc : cd = 0
    · subst hc
      have hcc := HG3.out.cell 64
      have hfz := HG3.out.frozen 64
      rw [(Hd.at64 ⟨bb, true, pins⟩ hb).1] at hcc
      simp only at hcc
      have hgl := HG3.out.lt
      obtain ⟨w4, hw4⟩ : ∃ w4, w4 = w3.setCell ⟨pi, 64, none⟩ (.bool false) := ⟨_, rfl⟩
      have hT4 : Turn (fun j => j = pi) w3 w4 := by rw [hw4]; exact (Turn.refl (fun j => j = pi) w3).setCell (p := ⟨pi, 64, none⟩) (fun _ => rfl) _
      have hG4 : Blk w4 pi 81 (Hd.mk bb false pins).cells := by
        rw [hw4]
        have := HG3.out.set_ 64 (.bool false)
        rwa [Hd.set64 ⟨bb, true, pins⟩ hb false] at this
      have hpiF : ∀ j, (Fd j ∨ sp = some j) → ¬ j = pi := fun j hj e => by
        subst e
        rcases hj with hj | hj
        · exact HAp.out.1 _ hFp hj
        · exact HAp.out.2 _ hj hFp
      have HF := Lib.hid (show CacheIs Fc w4 c d ml ov hp size os (updm m i ⟨bb, false, pins⟩) cnt hits misses ∧ Disk (grow Fd w w4) w4 d sp (x.write i bb) ∧ SupIs w4 sp (supO x s i) ∧ Turn (fun j => Fc j ∨ Fd j ∨ sp = some j) w w4 from
        ⟨HC3.out.setHd hm (by rw [hpi]; exact hT4) (by rw [hpi]; exact hG4) hb hpn, by
          have h1 := hcD.out
          rw [if_pos rfl] at h1
          refine (h1.turn hT4 fun j hj e => ?_).mono (fun j hj => hj.imp id fun e => ⟨e.1, Nat.lt_of_lt_of_le e.2 hT4.size⟩) (fun j hj => ?_)
          · rcases hj with hj | hj
            · exact hpiF j (.inl hj) e
            · have := HPl.out; have h9 : w.drew.heap.size = w.heap.size := rfl; omega
          · rcases hj with hj | hj
            · have := h1.lt j (.inl hj); have := hT4.size; omega
            · exact hj.2, HS3.out.turn hT4 fun g hg e => hpiF g (.inr hg) e, HT3.out.trans hT4 fun j _ e => .inl (by rw [e]; exact hFp)⟩)
      clear hT4 hG4 HC3 HS3 HT3 HD3 hcD
      subst hw4
      clear HG3 hpi
      go_wp2
      go_ret
      first | exact ⟨rfl, HF.out⟩ | exact ⟨rfl, by simpa using HF.out⟩
    · have HF := Lib.hid (show CacheIs Fc w3 c d ml ov hp size os m cnt hits misses ∧ Disk (grow Fd w w3) w3 d sp x ∧ SupIs w3 sp (supO x s i) ∧ Turn (fun j => Fc j ∨ Fd j ∨ sp = some j) w w3 from
        ⟨HC3.out, by have h1 := hcD.out; rw [if_neg hc] at h1; exact h1, HS3.out, HT3.out⟩)
      have hcn : (cd == 0) = false := by simpa using hc
      clear HC3 HS3 HT3 HD3 hcD HG3 hpi
      go_wp2
      go_ret
      first | exact ⟨rfl, HF.out⟩ | exact ⟨rfl, by simpa [hc] using HF.out⟩
end Go.Proofs.Ytnbppfhnagacfaa
