/- package cache: Sync. -/
import Derived.Test.YtnbppfhnagacfaaChg
namespace Go.Proofs.Ytnbppfhnagacfaa
open Go.RowKit
set_option linter.unusedVariables false
attribute [local go_sem ↓] Go.wp_at_zero Go.wp_at_succ

theorem St.chain {F : Nat → Prop} {w1 wr w' : World} {c d : Nat} {sp : Option Nat} {hp : Int → Nat} {a : CA} (h : St (grow (grow F w1 wr) wr w') w' c d sp hp a) (hs : w1.heap.size ≤ wr.heap.size) (hs' : wr.heap.size ≤ w'.heap.size) (hF : ∀ j, F j → j < w1.heap.size) (hsp : ∀ g, sp = some g → ¬ F g ∧ g < w1.heap.size) : St (grow F w1 w') w' c d sp hp a :=
  h.mono (fun j hj => by
    rcases hj with (hj | hj) | hj
    · exact .inl hj
    · exact .inr ⟨hj.1, by omega⟩
    · exact .inr ⟨by omega, hj.2⟩) (fun j hj => by
    rcases hj with hj | hj
    · have := hF j hj; omega
    · exact hj.2) (fun g hg e => by
    rcases e with e | e
    · exact (hsp g hg).1 e
    · have := (hsp g hg).2; omega)
theorem Turn.chain {F : Nat → Prop} {w1 wr w' : World} {sp : Option Nat} (h1 : Turn (fun j => F j ∨ sp = some j) w1 wr) (h2 : Turn (fun j => grow F w1 wr j ∨ sp = some j) wr w') : Turn (fun j => F j ∨ sp = some j) w1 w' :=
  h1.trans h2 fun j hj e => by
    rcases e with (e | e) | e
    · exact .inl e
    · omega
    · exact .inr e

def usedO : Option Sup → Int
  | none => 0
  | some s => s.used
theorem usedO_lt {s : Option Sup} {n : Int} (h : usedO s < n) : ∀ s', s = some s' → s'.used < n := by
  rintro s' rfl
  exact h
theorem useO_used (s : Option Sup) : usedO (useO s).2 ≤ usedO s + 1 := by
  cases s with
  | none => exact Int.le_of_lt (by show (0 : Int) < 0 + 1; decide)
  | some s =>
    show s.use.2.used ≤ s.used + 1
    unfold Sup.use
    split
    · show s.used ≤ s.used + 1; omega
    · exact Int.le_refl _
theorem supO_used (x : Dk) (s : Option Sup) (i : Int) : usedO (supO x s i) ≤ usedO s + 1 := by
  rcases supO_cases x s i with e | e
  · rw [e]; omega
  · rw [e]; exact useO_used s
theorem wrR_bd (a : CA) (i : Int) : (wrR a i).2.x.writes ≤ a.x.writes + 1 ∧ usedO (wrR a i).2.s ≤ usedO a.s + 1 ∧ (wrR a i).2.os = a.os ∧ ∀ k, ((wrR a i).2.m k).isSome = (a.m k).isSome := by
  unfold wrR
  cases hm : a.m i with
  | none => exact ⟨by show a.x.writes ≤ _; omega, by show usedO a.s ≤ _; omega, rfl, fun _ => rfl⟩
  | some hd =>
    simp only
    have hu := supO_used a.x a.s i
    split
    · split
      · refine ⟨Int.le_refl _, hu, rfl, fun k => ?_⟩
        show (updm a.m i _ k).isSome = _
        by_cases e : k = i
        · rw [e, updm_same, hm]; rfl
        · rw [updm_other _ _ e]
      · exact ⟨by show a.x.writes ≤ _; omega, hu, rfl, fun _ => rfl⟩
    · exact ⟨by show a.x.writes ≤ _; omega, by show usedO a.s ≤ _; omega, rfl, fun _ => rfl⟩
def syncL : List Int → CA → Int × CA
  | [], a => (0, a)
  | i :: l, a => if (wrR a i).1 = 0 then syncL l (wrR a i).2 else wrR a i
/-- What Sync does. -/
def syncR (a : CA) : Int × CA := syncL (sorted (chs a)) a
theorem sorted_mem {l : List Int} {x : Int} (h : x ∈ sorted l) : x ∈ l := (List.mem_mergeSort (le := fun x y => decide (x ≤ y))).1 h
theorem sorted_len (l : List Int) : (sorted l).length = l.length := List.length_mergeSort _
theorem chs_mem {a : CA} {x : Int} (h : x ∈ chs a) : x ∈ a.os ∧ chB a.m x = true := by
  unfold chs at h
  exact List.mem_filter.1 h

set_option maxRecDepth 100000 in
set_option maxHeartbeats 4000000 in
theorem sync_any {F : Nat → Prop} {c d : Nat} {sp : Option Nat} {hp : Int → Nat} {a : CA} (w : World) (h : St F w c d sp hp a) (hl : a.os.length ≤ 1000) (hw : a.x.writes ≤ 900000) (hus : usedO a.s < 900000000) :
    Calls Try.prog 13 #[.pointer (some ⟨c, 0, none⟩)] w fun e w' => e = .returned (.int .i64 (syncR a).1) ∧ St (grow F w w') w' c d sp hp (syncR a).2 ∧ Turn (fun j => F j ∨ sp = some j) w w' := by
  have HH := Lib.hid (changed_any w h hl)
  have HS := Lib.hid h
  have HL := Lib.hid h.lt
  unfold syncR
  have hll : (sorted (chs a)).length ≤ 1000 := by
    rw [sorted_len]
    have := List.length_filter_le (chB a.m) a.os
    unfold chs
    omega
  have HMm := Lib.hid (show ∀ x, x ∈ sorted (chs a) → (a.m x).isSome = true from fun x hx => (h.link.iff x).1 (chs_mem (sorted_mem hx)).1)
  clear h
  generalize sorted (chs a) = l at *
  go_enter Try.func13, Try.ntmps13
  go_wp2_with fail
  refine HH.out.mono ?_
  rintro e w1 ⟨v1, rfl, hr1, ho1, hb1⟩
  obtain ⟨A, cp, rfl⟩ := hr1.sl'
  have HR1 := Lib.hid hr1
  have HO1 := Lib.hid ho1
  have HB1 := Lib.hid hb1
  have hs1 := hb1.size
  have HS1 := Lib.hid (HS.out.turn (S := fun _ => False) (Turn.of_below hb1) (fun _ _ => id) fun _ _ => id)
  clear hr1 ho1 hb1 HH
  go_wp2_with fail
  go_loopw [11] (fun i wr => ∃ k : Nat, k ≤ l.length ∧ i = .int .i64 k ∧ ∃ ak : CA, syncL l a = syncL (l.drop k) ak ∧ Hid (St (grow F w1 wr) wr c d sp hp ak) ∧ ak.x.writes ≤ a.x.writes + k ∧ usedO ak.s ≤ usedO a.s + k ∧ Hid (∀ q, (ak.m q).isSome = (a.m q).isSome) ∧ Hid (Turn (fun j => F j ∨ sp = some j) w1 wr)) (fun i _ => l.length - (intOf i).toNat)
  case atStart => exact ⟨0, Nat.zero_le _, rfl, a, rfl, Lib.hid (HS1.out.same (Turn.refl _ _)), by omega, by omega, Lib.hid fun _ => rfl, Lib.hid (Turn.refl _ _)⟩
  case round =>
    obtain ⟨k, hk, rfl, ak, hsy, hSk, hwk, huk, hmk, hTk⟩ := hrel
    have hsz := hTk.out.size
    have hTw : Hid (Turn (fun j => F j ∨ sp = some j) w wr) := Lib.hid ((Turn.of_below (S := fun j => F j ∨ sp = some j) HB1.out).trans hTk.out fun j _ e => e)
    by_cases hlt : k < l.length
    · obtain ⟨s, hs⟩ : ∃ s, l[k]? = some s := ⟨_, List.getElem?_eq_getElem hlt⟩
      obtain ⟨g, cg, cur, hAe, -⟩ := (HR1.out.shape).resolve_left fun e => by rw [e.2] at hlt; simp at hlt
      have hA : A = some ⟨g, 0, none⟩ := by injection hAe
      subst hA
      have hc1 : wr.cell? ⟨g, k, none⟩ = some (.int .i64 s) := by
        have hR1w : IRow wr _ l := HR1.out.turn hTk.out fun j hj e => by
          have h1 := HO1.out j hj
          rcases e with e | e
          · have := HL.out.1 j e; omega
          · have := (HL.out.2.1 j e).2; omega
        have := hR1w.get (j := k) hlt
        rw [this, List.getD_eq_getElem?_getD, hs]
        rfl
      have him : (ak.m s).isSome = true := by rw [hmk.out]; exact HMm.out s (List.mem_of_getElem? hs)
      have HW := Lib.hid (hSk.out.cwrite s wr him (by omega) (usedO_lt (by omega)))
      obtain ⟨b1, b2, b3, b4⟩ := wrR_bd ak s
      have hdr : l.drop k = s :: l.drop (k + 1) := by
        rw [List.drop_eq_getElem_cons hlt]
        rw [List.getElem?_eq_getElem hlt] at hs
        rw [Option.some.inj hs]
      rw [hdr] at hsy
      have HSy := Lib.hid (show syncL l a = if (wrR ak s).1 = 0 then syncL (l.drop (k + 1)) (wrR ak s).2 else wrR ak s from hsy)
      clear hsy hdr him hAe hs
      generalize hR : wrR ak s = R at *
      clear hR
      obtain ⟨code, an⟩ := R
      simp only at HW b1 b2 b3 b4 HSy
      have HB4 := Lib.hid (show ∀ q, (an.m q).isSome = (a.m q).isSome from fun q => (b4 q).trans (hmk.out q))
      clear b4 hmk
      go_wp2_with fail
      refine HW.out.mono ?_
      rintro e w2 ⟨rfl, hS2, hT2⟩
      have hs2 := hT2.size
      have HS2 := Lib.hid (hS2.chain hsz hs2 (fun j hj => by have := HL.out.1 j hj; omega) (fun g' hg => ⟨(HL.out.2.1 g' hg).1, by have := (HL.out.2.1 g' hg).2; omega⟩))
      have HT2 := Lib.hid (Turn.chain hTk.out hT2)
      clear hS2 hT2 HW hc1
      by_cases hc : code = 0
      · subst hc
        rw [if_pos rfl] at HSy
        have hsy := HSy.out
        go_wp2
        go_roundw
        case rel => exact ⟨k + 1, by omega, by go_num, an, HSy.out, HS2, by omega, by omega, HB4, HT2⟩
        case measure => simp [intOf]; omega
      · rw [if_neg hc] at HSy
        have hcn : (code == 0) = false := by simpa using hc
        have HF := Lib.hid (show St (grow F w w2) w2 c d sp hp an ∧ Turn (fun j => F j ∨ sp = some j) w w2 from
          ⟨HS2.out.mono (fun j hj => hj.imp id fun e => ⟨by omega, e.2⟩) (fun j hj => by
            rcases hj with hj | hj
            · have := HL.out.1 j hj; omega
            · exact hj.2) (fun g' hg e => by
            rcases e with e | e
            · exact (HL.out.2.1 g' hg).1 e
            · have := (HL.out.2.1 g' hg).2; omega), (Turn.of_below (S := fun j => F j ∨ sp = some j) HB1.out).trans HT2.out fun j _ e => e⟩)
        have HE := Lib.hid (show syncL l a = (code, an) from HSy.out)
        clear HSy
        go_wp2
        go_ret
        rw [HE.out]
        exact ⟨rfl, HF.out⟩
    · obtain rfl : k = l.length := by omega
      rw [List.drop_length] at hsy
      have HE := Lib.hid (show syncL l a = (0, ak) from hsy)
      have HF := Lib.hid (show St (grow F w wr) wr c d sp hp ak ∧ Turn (fun j => F j ∨ sp = some j) w wr from
          ⟨hSk.out.mono (fun j hj => hj.imp id fun e => ⟨by omega, e.2⟩) (fun j hj => by
            rcases hj with hj | hj
            · have := HL.out.1 j hj; omega
            · exact hj.2) (fun g' hg e => by
            rcases e with e | e
            · exact (HL.out.2.1 g' hg).1 e
            · have := (HL.out.2.1 g' hg).2; omega), hTw.out⟩)
      clear hsy
      go_wp2
      go_ret
      rw [HE.out]
      exact ⟨rfl, HF.out⟩
end Go.Proofs.Ytnbppfhnagacfaa
