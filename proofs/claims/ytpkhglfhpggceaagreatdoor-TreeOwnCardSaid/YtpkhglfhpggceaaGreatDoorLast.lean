/- Last, of the package and of the reference: the same. -/
import Derived.Test.YtpkhglfhpggceaaGreatDoorRsplit
namespace Go.Proofs.YtpkhglfhpggceaaGreatDoor
set_option maxRecDepth 100000
set_option maxHeartbeats 16000000
open Go.RowKit

def LastPost (p : ByteArray) (w : World) (e : Ending) (w' : World) : Prop :=
 ∃ v, e = .returned (.tuple #[v, .string (lastN p).2.1, .int .i64 (lastN p).2.2]) ∧ Texts w.heap.size w' v (lastN p).1 ∧ Below w.heap.size w w'

theorem lastN_cases (p : ByteArray) : (¬ (splitN p).2 = 0 ∧ lastN p = ([], ⟨#[]⟩, (splitN p).2)) ∨ ((splitN p).2 = 0 ∧ (splitN p).1.length = 0 ∧ lastN p = ([], ⟨#[]⟩, 2)) ∨
  ∃ n u, (splitN p).2 = 0 ∧ (splitN p).1.length = n + 1 ∧ (splitN p).1[n]? = some u ∧ lastN p = ((splitN p).1.take n, u, 0) := by
 unfold lastN
 by_cases h : (splitN p).2 = 0
 ·rw [if_pos h]
  by_cases h0 : (splitN p).1 = []
  ·rw [if_pos h0]
   exact .inr (.inl ⟨h, by rw [h0]; rfl, rfl⟩)
  ·rw [if_neg h0]
   have hl := List.length_pos_iff.2 h0
   refine .inr (.inr ⟨(splitN p).1.length - 1, (splitN p).1[(splitN p).1.length - 1], h, by omega, List.getElem?_eq_getElem (by omega), ?_⟩)
   rw [List.dropLast_eq_take, List.getLastD_eq_getLast?, List.getLast?_eq_getElem?, List.getElem?_eq_getElem (by omega)]
   rfl
 ·rw [if_neg h]
  exact .inl ⟨h, rfl⟩

theorem texts_take {B g o c n : Nat} {w : World} {l : List ByteArray} (hA : ∀ (i : Nat) (u : ByteArray), l[i]? = some u → ∃ g' o', (some (⟨g, o, none⟩ : Addr)) = some ⟨g', o', none⟩ ∧ B ≤ g' ∧ g' < w.heap.size ∧ w.cell? ⟨g', o' + i, none⟩ = some (.string u))
  (hl : l.length = n + 1) (hc : l.length ≤ c) (hm : c ≤ maxLen) : Texts B w (.slice (some ⟨g, o, none⟩) n c) (l.take n) := by
 have hn : (l.take n).length = n := by simp; omega
 refine ⟨_, c, by rw [hn], by omega, hm, fun i u hu => ?_⟩
 have hi : i < n := by
  rcases Nat.lt_or_ge i n with h | h
  ·exact h
  ·rw [List.getElem?_eq_none (by omega)] at hu; cases hu
 rw [List.getElem?_take_of_lt hi] at hu
 exact hA i u hu

theorem plast_any (p : ByteArray) (w : World) (m : Int) (hs : p.size ≤ 100000) (hm : w.cell? ⟨0, 0, none⟩ = some (.int .i64 m)) :
  Calls Tryz.prog 13 #[.string p] w (LastPost p w) := by
 have hC := Lib.hid (psplit_any p w m hs hm)
 have hcases := lastN_cases p
 clear hm
 rcases hcases with ⟨h1, h2⟩ | ⟨h1, h0, h2⟩ | ⟨n, u, h1, h0, hu, h2⟩
 ·have HF := Lib.hid h2
  have ht : ((splitN p).2 != 0) = true := bne_iff_ne.2 h1
  clear h1 h2
  go_enter Tryz.func13, Tryz.ntmps13
  go_wp2_with fail
  refine hC.out.mono ?_
  rintro e w1 ⟨v, rfl, ⟨A, c, rfl, hlc, hcm, hA⟩, hb1⟩
  have HB := Lib.hid hb1
  clear hA hb1 hC
  generalize (splitN p).2 = q at *
  generalize (splitN p).1.length = z at *
  go_wp2_with fail
  go_ret3
  exact ⟨_, by rw [HF.out]; rfl, by rw [HF.out]; exact Texts.nil _ _, HB.out⟩
 ·have HF := Lib.hid h2
  have H0 := Lib.hid h0
  have H1 := Lib.hid h1
  clear h1 h2 h0
  go_enter Tryz.func13, Tryz.ntmps13
  go_wp2_with fail
  refine hC.out.mono ?_
  rintro e w1 ⟨v, rfl, ⟨A, c, rfl, hlc, hcm, hA⟩, hb1⟩
  have HB := Lib.hid hb1
  clear hA hb1 hC
  rw [H1.out, H0.out]
  go_wp2_with fail
  go_ret3
  exact ⟨_, by rw [HF.out]; rfl, by rw [HF.out]; exact Texts.nil _ _, HB.out⟩
 ·have HF := Lib.hid h2
  have H0 := Lib.hid h0
  have H1 := Lib.hid h1
  have HU := Lib.hid hu
  clear h1 h2 h0 hu
  go_enter Tryz.func13, Tryz.ntmps13
  go_wp2_with fail
  refine hC.out.mono ?_
  rintro e w1 ⟨v, rfl, ⟨A, c, rfl, hlc, hcm, hA⟩, hb1⟩
  obtain ⟨g, o, eA, hg0, hg1, hc⟩ := hA n u HU.out
  subst eA
  have HT := Lib.hid (texts_take hA H0.out hlc hcm)
  have HB := Lib.hid hb1
  clear hA hb1 hC
  rw [H0.out] at hlc
  rw [H1.out, H0.out]
  unfold maxLen at hcm
  have i1 : (0 : Int) ≤ (n : Int) := by omega
  have i2 : (n : Int) ≤ (c : Int) := by omega
  have i3 : (n : Int) < ((n + 1 : Nat) : Int) := by omega
  have i4 : IntKind.i64.wrap ((n : Int) + 1 - 1) = (n : Int) := IntWalk.i64_in _ (by omega) |>.trans (by omega)
  go_wp2_with fail
  go_quiet (fail)
  go_wp2
  go_ret3
  exact ⟨_, by rw [HF.out]; rfl, by rw [HF.out]; exact HT.out, ⟨HB.out.os, HB.out.tape, HB.out.output, HB.out.size, HB.out.block⟩⟩

theorem rlast_any (p : ByteArray) (w : World) (hs : p.size ≤ 100000) :
  Calls Tryz.prog 105 #[.string p] w (LastPost p w) := by
 have hC := Lib.hid (rsplit_any p w hs)
 have hcases := lastN_cases p
 rcases hcases with ⟨h1, h2⟩ | ⟨h1, h0, h2⟩ | ⟨n, u, h1, h0, hu, h2⟩
 ·have HF := Lib.hid h2
  have ht : ((splitN p).2 != 0) = true := bne_iff_ne.2 h1
  clear h1 h2
  go_enter Tryz.func105, Tryz.ntmps105
  go_wp2_with fail
  refine hC.out.mono ?_
  rintro e w1 ⟨v, rfl, ⟨A, c, rfl, hlc, hcm, hA⟩, hb1⟩
  have HB := Lib.hid hb1
  clear hA hb1 hC
  generalize (splitN p).2 = q at *
  generalize (splitN p).1.length = z at *
  go_wp2_with fail
  go_ret3
  exact ⟨_, by rw [HF.out]; rfl, by rw [HF.out]; exact Texts.nil _ _, HB.out⟩
 ·have HF := Lib.hid h2
  have H0 := Lib.hid h0
  have H1 := Lib.hid h1
  clear h1 h2 h0
  go_enter Tryz.func105, Tryz.ntmps105
  go_wp2_with fail
  refine hC.out.mono ?_
  rintro e w1 ⟨v, rfl, ⟨A, c, rfl, hlc, hcm, hA⟩, hb1⟩
  have HB := Lib.hid hb1
  clear hA hb1 hC
  rw [H1.out, H0.out]
  go_wp2_with fail
  go_ret3
  exact ⟨_, by rw [HF.out]; rfl, by rw [HF.out]; exact Texts.nil _ _, HB.out⟩
 ·have HF := Lib.hid h2
  have H0 := Lib.hid h0
  have H1 := Lib.hid h1
  have HU := Lib.hid hu
  clear h1 h2 h0 hu
  go_enter Tryz.func105, Tryz.ntmps105
  go_wp2_with fail
  refine hC.out.mono ?_
  rintro e w1 ⟨v, rfl, ⟨A, c, rfl, hlc, hcm, hA⟩, hb1⟩
  obtain ⟨g, o, eA, hg0, hg1, hc⟩ := hA n u HU.out
  subst eA
  have HT := Lib.hid (texts_take hA H0.out hlc hcm)
  have HB := Lib.hid hb1
  clear hA hb1 hC
  rw [H0.out] at hlc
  rw [H1.out, H0.out]
  unfold maxLen at hcm
  have i1 : (0 : Int) ≤ (n : Int) := by omega
  have i2 : (n : Int) ≤ (c : Int) := by omega
  have i3 : (n : Int) < ((n + 1 : Nat) : Int) := by omega
  have i4 : IntKind.i64.wrap ((n : Int) + 1 - 1) = (n : Int) := IntWalk.i64_in _ (by omega) |>.trans (by omega)
  go_wp2_with fail
  go_quiet (fail)
  go_wp2
  go_ret3
  exact ⟨_, by rw [HF.out]; rfl, by rw [HF.out]; exact HT.out, ⟨HB.out.os, HB.out.tape, HB.out.output, HB.out.size, HB.out.block⟩⟩
end Go.Proofs.YtpkhglfhpggceaaGreatDoor
