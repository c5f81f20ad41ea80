/- The reference's Split comes to the same as the package's. -/
import Derived.Test.YtpkhglfhpggceaaGreatDoorSplit
namespace Go.Proofs.YtpkhglfhpggceaaGreatDoor
set_option maxRecDepth 100000
set_option maxHeartbeats 16000000
open Go.RowKit

theorem parts_path {p : ByteArray} {r : List UInt8} (h : p.data.toList = 47 :: r) : parts p = ofList [] :: parts (ofList r) := by
 unfold parts
 rw [h, data_ofList, cut_cons, if_pos rfl]
 rfl
theorem parts_bad {p : ByteArray} (h : ∀ r, p.data.toList ≠ 47 :: r) : (parts p).length < 2 ∨ ∃ u t, parts p = u :: t ∧ ¬ u.toList = [] ∧ 2 ≤ (parts p).length := by
 rcases Nat.lt_or_ge (parts p).length 2 with hl | hl
 ·exact .inl hl
 ·refine .inr ?_
  unfold parts at hl ⊢
  cases hd : p.data.toList with
  | nil => rw [hd] at hl; simp [cut] at hl
  | cons x xs =>
   have hx : ¬ x = 47 := fun e => h xs (by rw [hd, e])
   rw [hd, cut_cons, if_neg hx] at hl
   rw [cut_cons, if_neg hx]
   cases hc : cut xs with
   | nil => exact absurd hc (cut_ne xs)
   | cons a t =>
    rw [hc] at hl
    refine ⟨_, _, rfl, ?_, hl⟩
    rw [ByteArray.toList_eq, data_ofList]
    simp

theorem all_drop1 {u : ByteArray} {l : List ByteArray} (h : ((u :: l).drop 1).all nameOk = true) : l.all nameOk = true := h

theorem rsplit_any (p : ByteArray) (w : World) (hs : p.size ≤ 100000) : Calls Tryz.prog 42 #[.string p] w (PSplitPost p w) := by
 have hC := Lib.hid (bsplit_any p w hs)
 cases hr0 : p.toList == [47] with
 | true =>
  have HF := Lib.hid (show PSplitPost p w (.returned (.tuple #[.slice none 0 0, .int .i64 0])) w from ⟨_, by rw [splitN_root hr0], by rw [splitN_root hr0]; exact Texts.nil _ _, Below.refl _ _⟩)
  go_enter Tryz.func42, Tryz.ntmps42
  go_wp2
  go_ret2
  exact HF.out
 | false =>
  by_cases hp : ∃ r, p.data.toList = 47 :: r
  ·obtain ⟨r, hr⟩ := hp
   have hps := parts_path hr
   have hpl := parts_len p
   have hz := Lib.hid fun u (hu : u ∈ parts p) => show u.size ≤ 9223372036854775807 from by have := parts_size hu; omega
   have HS0 := Lib.hid (show checkL (parts (ofList r)) = 0 → splitN p = (parts (ofList r), 0) from fun h => by rw [splitN_path hr0 hr, if_pos h])
   have HS1 := Lib.hid (show ¬ checkL (parts (ofList r)) = 0 → splitN p = ([], checkL (parts (ofList r))) from fun h => by rw [splitN_path hr0 hr, if_neg h])
   rw [hps] at hC hz hpl
   have hl1 : 1 ≤ (parts (ofList r)).length := by
    unfold parts
    rw [List.length_map]
    exact List.length_pos_iff.2 (cut_ne _)
   clear hps hr
   generalize parts (ofList r) = l at *
   go_enter Tryz.func42, Tryz.ntmps42
   go_wp2_with fail
   refine hC.out.mono ?_
   rintro e w1 ⟨v, rfl, ⟨A, c, rfl, hlc, hcm, hA⟩, hb1⟩
   have HA := Lib.hid hA
   have HB := Lib.hid hb1
   unfold maxLen at hcm
   clear hA hb1 hC
   simp only [List.length_cons] at hlc hpl ⊢
   obtain ⟨g0, o0, eA, hg0, hg1, hc0⟩ := HA.out 0 _ rfl
   subst eA
   have hc0' : w1.cell? ⟨g0, o0, none⟩ = some (.string (ofList [])) := hc0
   have he0 : (!(ofList []).toList.isEmpty) = false := by rw [ByteArray.toList_eq, data_ofList]; rfl
   have hl2 : ¬ ((l.length : Int) + 1 < 2) := by omega
   clear hc0
   go_wp2_with fail
   clear hc0' he0 hl2
   go_loop [5] (fun i => ∃ k : Nat, k ≤ l.length ∧ i = .int .i64 ((k : Int) + 1) ∧ Hid ((l.take k).all nameOk = true)) (fun i => l.length + 1 - (intOf i).toNat)
   case atStart => exact ⟨0, Nat.zero_le _, rfl, by unfold Hid; simp⟩
   case round =>
    obtain ⟨k, hk, rfl, hT⟩ := hrel
    by_cases hlt : k < l.length
    ·obtain ⟨u, hu⟩ : ∃ u, l[k]? = some u := ⟨_, List.getElem?_eq_getElem hlt⟩
     obtain ⟨g, o, eA, _, hg, hc⟩ := HA.out (k + 1) u (by simpa using hu)
     injection eA with eA
     injection eA with e1 e2
     subst e1 e2
     have hc1 : w1.cell? ⟨g0, o0 + (k + 1), none⟩ = some (.string u) := hc
     have hR := Lib.hid fun W => rcheck_any u W (hz.out u (List.mem_cons_of_mem _ (List.mem_of_getElem? hu)))
     have HU := Lib.hid hu
     clear hu hc
     rcases checkN_cases u with ⟨hn, he⟩ | ⟨hn, he⟩
     ·have HN := Lib.hid hn
      have HE := Lib.hid he
      clear hn he
      go_wp2_with fail
      refine (hR.out _).mono ?_
      rintro e w' ⟨rfl, rfl⟩
      rw [HE.out]
      go_wp2_with fail
      go_round
      case rel => exact ⟨k + 1, by omega, by go_num, take_ok HU.out hT.out HN.out⟩
      case measure => simp [intOf]; omega
     ·have hcl := checkL_bad HU.out hn
      have HF := Lib.hid (show splitN p = ([], 45) by rw [HS1.out (by rw [hcl]; decide), hcl])
      have HE := Lib.hid he
      clear hn he hcl
      go_wp2_with fail
      refine (hR.out _).mono ?_
      rintro e w' ⟨rfl, rfl⟩
      rw [HE.out]
      go_wp2_with fail
      go_ret2
      exact ⟨_, by rw [HF.out]; rfl, by rw [HF.out]; exact Texts.nil _ _, HB.out⟩
    ·obtain rfl : k = l.length := by omega
     have hall : l.all nameOk = true := by have h := hT.out; rwa [List.take_length] at h
     by_cases h16 : 16 < l.length
     ·have hcl : checkL l = 3 := by simp [checkL, hall, h16]
      have HF := Lib.hid (show splitN p = ([], 3) by rw [HS1.out (by rw [hcl]; decide), hcl])
      clear hall hcl
      go_wp2_with fail
      go_ret2
      exact ⟨_, by rw [HF.out]; rfl, by rw [HF.out]; exact Texts.nil _ _, HB.out⟩
     ·have hcl : checkL l = 0 := by simp [checkL, hall]; omega
      have HF := Lib.hid (HS0.out hcl)
      clear hall hcl
      have hc2 : ¬ c = 1 := by omega
      have HT := Lib.hid (show Texts w.heap.size w1 (.slice (some ⟨g0, o0 + 1, none⟩) l.length (c - 1)) l from ⟨_, _, rfl, by omega, by unfold maxLen; omega, fun i u hu => by
       obtain ⟨g, o, eA, hB, hg, hcc⟩ := HA.out (i + 1) u (by simpa using hu)
       injection eA with eA
       injection eA with e1 e2
       subst e1 e2
       exact ⟨g0, o0 + 1, rfl, hB, hg, by rw [show o0 + 1 + i = o0 + (i + 1) by omega]; exact hcc⟩⟩)
      go_wp2_with fail
      go_ret2
      exact ⟨_, by rw [HF.out]; rfl, by rw [HF.out]; exact HT.out, HB.out⟩
  ·have hp' : ∀ r, p.data.toList ≠ 47 :: r := fun r h => hp ⟨r, h⟩
   have HF := Lib.hid (splitN_none hr0 hp')
   have hbad := parts_bad hp'
   have hpl := parts_len p
   clear hp hp'
   go_enter Tryz.func42, Tryz.ntmps42
   go_wp2_with fail
   refine hC.out.mono ?_
   rintro e w1 ⟨v, rfl, ⟨A, c, rfl, hlc, hcm, hA⟩, hb1⟩
   have HA := Lib.hid hA
   have HB := Lib.hid hb1
   unfold maxLen at hcm
   clear hA hb1 hC
   rcases hbad with hl | ⟨u, t, hut, hu, hl⟩
   ·have h2 : ((parts p).length : Int) < 2 := by omega
    generalize (parts p).length = n at *
    go_wp2_with fail
    go_ret2
    exact ⟨_, by rw [HF.out]; rfl, by rw [HF.out]; exact Texts.nil _ _, HB.out⟩
   ·obtain ⟨g0, o0, eA, hg0, hg1, hc0⟩ := HA.out 0 u (by rw [hut]; rfl)
    subst eA
    have hc0' : w1.cell? ⟨g0, o0, none⟩ = some (.string u) := hc0
    have h2 : ¬ ((parts p).length : Int) < 2 := by omega
    have he0 : (!u.toList.isEmpty) = true := by simp [hu]
    have hn : (0 : Int) < ((parts p).length : Int) := by omega
    clear hut hu hc0 HA
    generalize (parts p).length = n at *
    go_wp2_with fail
    go_ret2
    exact ⟨_, by rw [HF.out]; rfl, by rw [HF.out]; exact Texts.nil _ _, HB.out⟩
end Go.Proofs.YtpkhglfhpggceaaGreatDoor
