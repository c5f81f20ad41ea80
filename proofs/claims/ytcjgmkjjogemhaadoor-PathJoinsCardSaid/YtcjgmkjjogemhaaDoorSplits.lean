/- The walk of the law PathSplits: it answers true. -/
import Derived.Test.YtcjgmkjjogemhaaDoorWorks
namespace Go.Proofs.YtcjgmkjjogemhaaDoor
open Go.RowKit

theorem cut_size (s : ByteArray) : (s.extract 0 (min (s.size : Int) 400).toNat).size ≤ 400 := by
  rw [ByteArray.size_extract]; omega

set_option maxHeartbeats 1000000 in
theorem splits_any (s : ByteArray) (w : World) (m : Int) (_hs : s.size ≤ 9223372036854775807) (hm : w.cell? ⟨0, 0, none⟩ = some (.int .i64 m)) (hB : 0 < w.heap.size) :
    Calls Tryd.prog 3 #[.string s] w fun e w' => e = .returned (.bool true) ∧ Below w.heap.size w w' := by
  have HM := Lib.hid hm
  have hlo : (0 : Int) ≤ (s.size : Int) := by omega
  have HZ := Lib.hid (cut_size s)
  clear hm
  go_enter Tryd.func3, Tryd.ntmps3
  go_wp2_with fail
  generalize s.extract 0 (min (s.size : Int) 400).toNat = p at *
  refine (psplit_any p w m (by have := HZ.out; omega) HM.out).mono ?_
  rintro e w1 ⟨va, rfl, hT1, hb1⟩
  have HB1 := Lib.hid hb1
  have HT1 := Lib.hid (hT1.mono (B' := 0) (Nat.zero_le _))
  clear hT1 hb1
  go_wp2_with fail
  refine (rsplit_any p w1 (by have := HZ.out; omega)).mono ?_
  rintro e w2 ⟨vb, rfl, hT2, hb2⟩
  have HB2 := Lib.hid (HB1.out.trans (hb2.mono HB1.out.size))
  have HT1b := Lib.hid (HT1.out.below hb2)
  have HT2 := Lib.hid (hT2.mono (B' := 0) (Nat.zero_le _))
  have HM2 := Lib.hid ((HB2.out.cell (p := ⟨0, 0, none⟩) hB).trans HM.out)
  clear hT2 hb2 HT1
  go_wp2_with fail
  refine (plast_any p w2 m (by have := HZ.out; omega) HM2.out).mono ?_
  rintro e w3 ⟨vc, rfl, hT3, hb3⟩
  have HB3 := Lib.hid (HB2.out.trans (hb3.mono HB2.out.size))
  have HT1c := Lib.hid (HT1b.out.below hb3)
  have HT2c := Lib.hid (HT2.out.below hb3)
  have HT3 := Lib.hid (hT3.mono (B' := 0) (Nat.zero_le _))
  clear hT3 hb3 HT1b HT2
  go_wp2_with fail
  refine (rlast_any p w3 (by have := HZ.out; omega)).mono ?_
  rintro e w4 ⟨vd, rfl, hT4, hb4⟩
  have HB4 := Lib.hid (HB3.out.trans (hb4.mono HB3.out.size))
  have HT1d := Lib.hid (HT1c.out.below hb4)
  have HT2d := Lib.hid (HT2c.out.below hb4)
  have HT3d := Lib.hid (HT3.out.below hb4)
  have HT4 := Lib.hid (hT4.mono (B' := 0) (Nat.zero_le _))
  have HM4 := Lib.hid ((HB4.out.cell (p := ⟨0, 0, none⟩) hB).trans HM.out)
  have hB4 : 0 < w4.heap.size := Nat.lt_of_lt_of_le hB HB4.out.size
  clear hT4 hb4 HT1c HT2c HT3
  generalize (lastN p).2.1 = ls at *
  generalize (lastN p).2.2 = le at *
  generalize (splitN p).2 = se at *
  go_wp2_with fail
  refine (sameTexts_any va vb _ _ w4 HT1d.out HT2d.out).mono ?_
  rintro e w5 ⟨rfl, n5, rfl⟩
  rw [decide_eq_true rfl]
  go_wp2_with fail
  refine (sameTexts_any vc vd _ _ _ (HT3d.out.drewN n5) (HT4.out.drewN n5)).mono ?_
  rintro e w6 ⟨rfl, n6, rfl⟩
  rw [decide_eq_true rfl]
  go_wp2_with fail
  refine (works_any _ m (by exact HM4.out) (by exact hB4)).mono ?_
  rintro e w7 ⟨rfl, hb7⟩
  have HB7 := Lib.hid ((show Below w.heap.size w (w4.drewN (n5 + n6)) from ⟨HB4.out.os, HB4.out.tape, HB4.out.output, HB4.out.size, HB4.out.block⟩).trans (hb7.mono HB4.out.size))
  clear hb7
  go_wp2_with fail
  go_ret
  exact ⟨rfl, HB7.out⟩
end Go.Proofs.YtcjgmkjjogemhaaDoor
