/- The chapter's examples 'works' answer true. -/
import Derived.Test.YtcjgmkjjogemhaaDoorLast
namespace Go.Proofs.YtcjgmkjjogemhaaDoor
open Go.RowKit

theorem splitN_ab : splitN ⟨#[47, 97, 47, 98]⟩ = ([⟨#[97]⟩, ⟨#[98]⟩], 0) := by
  have e : ((⟨#[47, 97, 47, 98]⟩ : ByteArray).toList == [47]) = false := by rw [ByteArray.toList_eq]; rfl
  rw [splitN_path (r := [97, 47, 98]) e rfl]
  have n1 : nameOk ⟨#[97]⟩ = true := by unfold nameOk; rw [ByteArray.toList_eq]; decide
  have n2 : nameOk ⟨#[98]⟩ = true := by unfold nameOk; rw [ByteArray.toList_eq]; decide
  have hp : parts (ofList [97, 47, 98]) = [⟨#[97]⟩, ⟨#[98]⟩] := by simp [parts, ofList, cut]
  rw [hp]
  have hc : checkL [⟨#[97]⟩, ⟨#[98]⟩] = 0 := by simp [checkL, n1, n2]
  rw [hc, if_pos rfl]
theorem splitN_a : splitN ⟨#[47, 97, 47]⟩ = ([], 45) := by
  have e : ((⟨#[47, 97, 47]⟩ : ByteArray).toList == [47]) = false := by rw [ByteArray.toList_eq]; rfl
  rw [splitN_path (r := [97, 47]) e rfl]
  have n2 : nameOk ⟨#[]⟩ = false := by unfold nameOk; rfl
  have hp : parts (ofList [97, 47]) = [⟨#[97]⟩, ⟨#[]⟩] := by simp [parts, ofList, cut]
  rw [hp]
  have hc : checkL [⟨#[97]⟩, ⟨#[]⟩] = 45 := by simp [checkL, n2]
  rw [hc]; rfl

theorem Texts.lit2 (w : World) (a b : ByteArray) : Texts 0 (w.alloc (.cells #[.string a, .string b] 9)) (.slice (some ⟨w.heap.size, 0, none⟩) 2 2) [a, b] := by
  refine ⟨_, 2, rfl, Nat.le_refl _, by decide, fun i u hu => ⟨w.heap.size, 0, rfl, Nat.zero_le _, by simp, ?_⟩⟩
  rcases i with _ | _ | i
  · simp at hu; subst hu; simp [go_sem]
  · simp at hu; subst hu; simp [go_sem]
  · simp at hu

set_option maxHeartbeats 400000 in
theorem works_any (w : World) (m : Int) (hm : w.cell? ⟨0, 0, none⟩ = some (.int .i64 m)) (hB : 0 < w.heap.size) :
    Calls Tryd.prog 13 #[] w fun e w' => e = .returned (.bool true) ∧ Below w.heap.size w w' := by
  have HM := Lib.hid hm
  clear hm
  go_enter Tryd.func13, Tryd.ntmps13
  go_wp2_with fail
  refine (psplit_any _ w m (by decide) HM.out).mono ?_
  rintro e w1 ⟨v, rfl, hT, hb1⟩
  rw [splitN_ab] at hT ⊢
  have HT := Lib.hid hT
  have HB := Lib.hid hb1
  have HM1 := Lib.hid ((hb1.cell (p := ⟨0, 0, none⟩) hB).trans HM.out)
  clear hT hb1
  go_wp2_with fail
  refine (psplit_any _ w1 m (by decide) HM1.out).mono ?_
  rintro e w2 ⟨v2, rfl, hT2, hb2⟩
  rw [splitN_a] at hT2 ⊢
  have HB2 := Lib.hid (HB.out.trans (hb2.mono HB.out.size))
  have HT2 := Lib.hid (HT.out.below hb2)
  clear hT2 hb2
  go_wp2_with fail
  refine (sameTexts_any v _ _ _ _ (HT2.out.below ((Below.refl _ _).alloc (Nat.le_refl _) _)) (Texts.lit2 w2 _ _)).mono ?_
  rintro e w3 ⟨rfl, n, rfl⟩


  go_wp2_with fail
  go_ret
  have q := HB2.out.alloc HB2.out.size (.cells #[.string ⟨#[97]⟩, .string ⟨#[98]⟩] 9)
  exact ⟨rfl, ⟨q.os, q.tape, q.output, q.size, q.block⟩⟩
end Go.Proofs.YtcjgmkjjogemhaaDoor
