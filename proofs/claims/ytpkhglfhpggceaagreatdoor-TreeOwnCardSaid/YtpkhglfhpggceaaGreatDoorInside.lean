/- What lies inside what: slices.Equal, path.Inside, and the reference's. -/
import Derived.Test.YtpkhglfhpggceaaGreatDoorTexts
namespace Go.Proofs.YtpkhglfhpggceaaGreatDoor
set_option maxRecDepth 100000
set_option maxHeartbeats 16000000
open Go.RowKit

theorem insideB_long {l m : List ByteArray} (h : ¬ l.length < m.length) : insideB l m = false := by unfold insideB; simp [h]
theorem insideB_at {l m : List ByteArray} (h : l.length < m.length) : insideB l m = decide (l = m.take l.length) := by unfold insideB; simp [h]
theorem insideB_self (l : List ByteArray) : insideB l l = false := insideB_long (Nat.lt_irrefl _)
theorem insideB_trans {l m n : List ByteArray} (h : insideB l m = true) (k : insideB m n = true) : insideB l n = true := by
 unfold insideB at *
 simp only [Bool.and_eq_true, decide_eq_true_eq] at *
 refine ⟨Nat.lt_trans h.1 k.1, ?_⟩
 have h2 := h.2
 rw [k.2, List.take_take, Nat.min_eq_left (Nat.le_of_lt h.1)] at h2
 exact h2

theorem equal_any (a b : Value) (l m : List ByteArray) (w : World) {B C : Nat} (ha : Texts B w a l) (hb : Texts C w b m) :
  Calls Tryz.prog 126 #[a, b] w fun e w' => e = .returned (.bool (decide (l = m))) ∧ ∃ n, w' = w.drewN n := by
 obtain ⟨A, c, rfl, hlc, hcm, hA⟩ := ha
 obtain ⟨D, d, rfl, hld, hdm, hB⟩ := hb
 have HA := Lib.hid hA
 have HB := Lib.hid hB
 clear hA hB
 unfold maxLen at hcm hdm
 by_cases hlen : l.length = m.length
 ·rw [← hlen]
  rw [← hlen] at hld
  have HL := Lib.hid hlen
  clear hlen
  go_enter Tryz.func126, Tryz.ntmps126
  go_wp2
  go_loopw [13] (fun i wr => ∃ k : Nat, k ≤ l.length ∧ i = .int .i64 k ∧ (∃ n, wr = w.drewN n) ∧ Hid (l.take k = m.take k)) (fun i _ => l.length - (intOf i).toNat)
  case atStart => exact ⟨0, Nat.zero_le _, rfl, ⟨0, rfl⟩, by unfold Hid; simp⟩
  case round =>
   obtain ⟨k, hk, rfl, ⟨n, rfl⟩, hT⟩ := hrel
   by_cases hlt : k < l.length
   ·have hlt' : k < m.length := by rw [← HL.out]; exact hlt
    obtain ⟨g, o, eA, _, hg, hcA⟩ := HA.out k l[k] (List.getElem?_eq_getElem hlt)
    obtain ⟨g', o', eB, _, hg', hcB⟩ := HB.out k m[k] (List.getElem?_eq_getElem hlt')
    subst eA eB
    generalize hu : l[k] = u at hcA
    generalize hv : m[k] = v at hcB
    have HU := Lib.hid hu
    have HV := Lib.hid hv
    clear hu hv
    by_cases huv : u = v
    ·subst huv
     have ht1 : (u.toList != u.toList) = false := by simp
     go_wp2
     go_quiet (fail)
     go_wp2
     go_roundw
     case rel => exact ⟨k + 1, by omega, by go_num, ⟨_, rfl⟩, by
      unfold Hid; rw [List.take_succ_eq_append_getElem hlt, List.take_succ_eq_append_getElem hlt', hT.out, HU.out, HV.out]⟩
     case measure => simp [intOf]; omega
    ·have ht1 : (u.toList != v.toList) = true := bne_iff_ne.2 fun e => huv (toList_inj.1 e)
     have HUV := Lib.hid huv
     clear huv
     go_wp2
     go_quiet (fail)
     go_wp2
     case roundEnd =>
      have hh : (!(u.toList == v.toList)) = false := by assumption
      simp at hh
      exact absurd (toList_inj.1 hh) HUV.out
     go_ret
     refine ⟨ret_bool ?_, _, World.drewN_drewN _ _ _⟩
     have : ¬ l = m := fun e => HUV.out (by subst e; rw [← HU.out, ← HV.out])
     simp [this]
   ·obtain rfl : k = l.length := by omega
    go_wp2
    go_ret
    refine ⟨ret_bool ?_, _, rfl⟩
    have : l = m := by
     have h1 := hT.out
     have h2 : m.take l.length = m := List.take_of_length_le (by rw [HL.out]; exact Nat.le_refl _)
     rw [h2] at h1
     simpa using h1
    simp [this]
 ·have h1 : ((l.length : Int) != (m.length : Int)) = true := by simp; omega
  have HL := Lib.hid hlen
  clear hlen
  go_enter Tryz.func126, Tryz.ntmps126
  go_wp2
  go_ret
  refine ⟨ret_bool ?_, 0, rfl⟩
  have : ¬ l = m := fun e => HL.out (by rw [e])
  simp [this]

theorem Texts.take {B : Nat} {w : World} {A : Option Addr} {n c k : Nat} {l : List ByteArray} (h : Texts B w (.slice A n c) l) (hk : k ≤ l.length) : Texts B w (.slice A k c) (l.take k) := by
 obtain ⟨A', c', e, hl, hm, hc⟩ := h
 injection e with e1 e2 e3
 subst e1 e3
 have hlen : (l.take k).length = k := by simp; omega
 refine ⟨A, c, by rw [hlen], by omega, hm, fun i u hu => ?_⟩
 rw [List.getElem?_take] at hu
 split at hu
 ·exact hc i u hu
 ·cases hu

theorem inside_any (a b : Value) (l m : List ByteArray) (w : World) {B C : Nat} (ha : Texts B w a l) (hb : Texts C w b m) :
  Calls Tryz.prog 104 #[a, b] w fun e w' => e = .returned (.bool (insideB l m)) ∧ ∃ n, w' = w.drewN n := by
 have HA := Lib.hid ha
 have HB := Lib.hid hb
 obtain ⟨A, c, rfl, hlc, hcm, hA⟩ := ha
 obtain ⟨D, d, rfl, hld, hdm, hB⟩ := hb
 unfold maxLen at hcm hdm
 by_cases hlt : l.length < m.length
 ·obtain ⟨g, o, eA, _, hg, hcA⟩ := hB 0 m[0] (List.getElem?_eq_getElem (by omega))
  subst eA
  have HI := Lib.hid (insideB_at hlt)
  have HT := Lib.hid (HB.out.take (Nat.le_of_lt hlt))
  clear hA hB hcA HB
  have hcl : ¬ d = 0 := by omega
  go_enter Tryz.func104, Tryz.ntmps104
  go_wp2_with fail
  refine (equal_any _ _ _ _ w HA.out HT.out).mono ?_
  rintro e w1 ⟨rfl, n1, rfl⟩
  obtain ⟨x, hx⟩ : ∃ x, insideB l m = x := ⟨_, rfl⟩
  rw [HI.out.symm.trans hx]
  have HX := Lib.hid hx
  clear hx
  cases x
  all_goals go_wp2_with fail
  all_goals go_ret
  all_goals exact ⟨ret_bool HX.out.symm, n1, rfl⟩
 ·have HI := Lib.hid (insideB_long hlt)
  clear hA hB HA HB
  go_enter Tryz.func104, Tryz.ntmps104
  go_wp2_with fail
  go_ret
  exact ⟨ret_bool HI.out.symm, 0, rfl⟩

theorem rinside_any (a b : Value) (l m : List ByteArray) (w : World) {B C : Nat} (ha : Texts B w a l) (hb : Texts C w b m) :
  Calls Tryz.prog 85 #[a, b] w fun e w' => e = .returned (.bool (insideB l m)) ∧ ∃ n, w' = w.drewN n := by
 obtain ⟨A, c, rfl, hlc, hcm, hA⟩ := ha
 obtain ⟨D, d, rfl, hld, hdm, hB⟩ := hb
 have HA := Lib.hid hA
 have HB := Lib.hid hB
 clear hA hB
 unfold maxLen at hcm hdm
 by_cases hlm : l.length < m.length
 ·have HI := Lib.hid (insideB_at hlm)
  go_enter Tryz.func85, Tryz.ntmps85
  go_wp2
  go_loopw [5] (fun i wr => ∃ k : Nat, k ≤ l.length ∧ i = .int .i64 k ∧ (∃ n, wr = w.drewN n) ∧ Hid (l.take k = m.take k)) (fun i _ => l.length - (intOf i).toNat)
  case atStart => exact ⟨0, Nat.zero_le _, rfl, ⟨0, rfl⟩, by unfold Hid; simp⟩
  case round =>
   obtain ⟨k, hk, rfl, ⟨n, rfl⟩, hT⟩ := hrel
   by_cases hlt : k < l.length
   ·have hlt' : k < m.length := by omega
    obtain ⟨g, o, eA, _, hg, hcA⟩ := HA.out k l[k] (List.getElem?_eq_getElem hlt)
    obtain ⟨g', o', eB, _, hg', hcB⟩ := HB.out k m[k] (List.getElem?_eq_getElem hlt')
    subst eA eB
    generalize hu : l[k] = u at hcA
    generalize hv : m[k] = v at hcB
    have HU := Lib.hid hu
    have HV := Lib.hid hv
    clear hu hv
    by_cases huv : u = v
    ·subst huv
     have ht1 : (u.toList != u.toList) = false := by simp
     go_wp2
     go_quiet (fail)
     go_wp2
     go_roundw
     case rel => exact ⟨k + 1, by omega, by go_num, ⟨_, rfl⟩, by
      unfold Hid; rw [List.take_succ_eq_append_getElem hlt, List.take_succ_eq_append_getElem hlt', hT.out, HU.out, HV.out]⟩
     case measure => simp [intOf]; omega
    ·have ht1 : (u.toList != v.toList) = true := bne_iff_ne.2 fun e => huv (toList_inj.1 e)
     have HUV := Lib.hid huv
     clear huv
     go_wp2
     go_quiet (fail)
     go_wp2
     case roundEnd =>
      have hh : (!(u.toList == v.toList)) = false := by assumption
      simp at hh
      exact absurd (toList_inj.1 hh) HUV.out
     go_ret
     refine ⟨ret_bool ?_, _, World.drewN_drewN _ _ _⟩
     rw [HI.out]
     have : ¬ l = m.take l.length := fun e => HUV.out (by
      have h1 : l[k]? = (m.take l.length)[k]? := by rw [← e]
      rw [List.getElem?_eq_getElem hlt, List.getElem?_take, if_pos hlt, List.getElem?_eq_getElem hlt'] at h1
      injection h1 with h1
      rw [← HU.out, ← HV.out, h1])
     simp [this]
   ·obtain rfl : k = l.length := by omega
    go_wp2
    go_ret
    refine ⟨ret_bool ?_, _, rfl⟩
    rw [HI.out]
    have : l = m.take l.length := by
     have h1 := hT.out
     rwa [List.take_length] at h1
    exact (decide_eq_true this).symm
 ·have HI := Lib.hid (insideB_long hlm)
  go_enter Tryz.func85, Tryz.ntmps85
  go_wp2
  go_ret
  exact ⟨ret_bool HI.out.symm, 0, rfl⟩
end Go.Proofs.YtpkhglfhpggceaaGreatDoor
