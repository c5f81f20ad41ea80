/- The walk of the law PathBack: it answers true. -/
import Derived.Test.YtcjgmkjjogemhaaDoorBackLaw
import Derived.Test.YtcjgmkjjogemhaaDoorInsides
import Derived.Test.YtcjgmkjjogemhaaDoorSplits
namespace Go.Proofs.YtcjgmkjjogemhaaDoor
open Go.RowKit

theorem checkL_none {l : List ByteArray} (h : checkL l = 0) : (joinN l).2 = 0 := by unfold joinN; rw [if_pos h]
theorem checkL_some {l : List ByteArray} (h : ¬ checkL l = 0) : (joinN l).2 = checkL l := by unfold joinN; rw [if_neg h]
theorem joinN_size {l : List ByteArray} (h : checkL l = 0) : (joinN l).1.size ≤ 100000 := by
  unfold joinN
  rw [if_pos h]
  show ByteArray.size (if l = [] then slash else ofList (jt l)) ≤ _
  split
  · decide
  · obtain ⟨ha, hl⟩ := checkL_all h
    have := jt_len ha
    rw [size_ofList]
    omega
theorem split_err {p : ByteArray} (h : ¬ (splitN p).2 = 0) : (splitN p).1 = [] := by
  revert h
  unfold splitN
  split
  · intro h; rfl
  · split
    · split
      · intro h; exact absurd rfl h
      · intro _; rfl
    · intro _; rfl
theorem names_size {l : List ByteArray} (h : checkL l = 0) : ∀ u ∈ l, u.size ≤ 9223372036854775807 := fun u hu => by
  have := (nameOk_size (List.all_eq_true.1 (checkL_all h).1 u hu)).2
  omega

set_option maxHeartbeats 1000000 in
theorem back_any (a : Value) (la : List ByteArray) (s : ByteArray) (w : World) (m : Int) (ha : Texts 0 w a la) (sa : ∀ u ∈ la, u.size ≤ 9223372036854775807) (_hs : s.size ≤ 9223372036854775807)
    (hm : w.cell? ⟨0, 0, none⟩ = some (.int .i64 m)) (hB : 0 < w.heap.size) :
    Calls Tryd.prog 5 #[a, .string s] w fun e w' => e = .returned (.bool true) ∧ Below w.heap.size w w' := by
  have HM := Lib.hid hm
  have hlo : (0 : Int) ≤ (s.size : Int) := by omega
  have hmin : (0 : Int) ≤ min (s.size : Int) 400 := by omega
  have hmin2 : min (s.size : Int) 400 ≤ (s.size : Int) := by omega
  have HZ := Lib.hid (cut_size s)
  have HA := Lib.hid ha
  have SA := Lib.hid sa
  clear hm ha sa
  go_enter Tryd.func5, Tryd.ntmps5
  go_wp2_with fail
  refine (works_any w m HM.out hB).mono ?_
  rintro e w1 ⟨rfl, hb1⟩
  have HB1 := Lib.hid hb1
  have HA1 := Lib.hid (HA.out.below hb1)
  have HK := Lib.hid (few_any a la w1.drew (by exact HA1.out) SA.out)
  clear hb1
  go_wp2_with fail
  go_region_held3 (fun _ => True) (trivial) (first | (go_at_call 14; refine HK.out.mono ?_; rintro e w2 ⟨ra, rfl, ra2, hb2⟩))
  all_goals
    have HB2 := Lib.hid (HB1.out.trans (show Below w.heap.size w1 w2 from ⟨hb2.os, hb2.tape, hb2.output, hb2.size, fun i hi => hb2.block i (Nat.lt_of_lt_of_le hi HB1.out.size)⟩))
    have RA2 := Lib.hid (ra2.texts.mono (B' := 0) (Nat.zero_le _))
    have hls := Lib.hid fun u (hu : u ∈ fewL la) => show u.size ≤ 9223372036854775807 from by have := fewL_size hu; omega
    clear hb2 ra2 HK
    generalize s.extract 0 (min (s.size : Int) 400).toNat = p at *
    generalize fewL la = L at *
    clear hmin hmin2 hlo
    go_wp2_with fail
    refine (pjoin_any ra L w2 RA2.out hls.out).mono ?_
    rintro e w3 ⟨rfl, hb3⟩
    have HB3 := Lib.hid (HB2.out.trans (hb3.mono HB2.out.size))
    have RA3 := Lib.hid (RA2.out.below hb3)
    clear hb3
    by_cases hc : checkL L = 0
    · have HM3 := Lib.hid ((HB3.out.cell (p := ⟨0, 0, none⟩) hB).trans HM.out)
      have hps := psplit_any (joinN L).1 w3 m (joinN_size hc) HM3.out
      unfold PSplitPost at hps
      rw [split_join hc] at hps
      have HP := Lib.hid hps
      rw [checkL_none hc]
      clear hps hc
      generalize (joinN L).1 = j at *
      go_wp2_with fail
      refine HP.out.mono ?_
      rintro e w4 ⟨vj, rfl, hT4, hb4⟩
      have HB4 := Lib.hid (HB3.out.trans (hb4.mono HB3.out.size))
      have RA4 := Lib.hid (RA3.out.below hb4)
      have RJ4 := Lib.hid (hT4.mono (B' := 0) (Nat.zero_le _))
      clear hb4 hT4 HP
      go_wp2_with fail
      refine (sameTexts_any vj ra L L w4 RJ4.out RA4.out).mono ?_
      rintro e w5 ⟨rfl, n5, rfl⟩
      rw [decide_eq_true rfl]
      have HB5 := Lib.hid (show Below w.heap.size w (w4.drewN n5) from ⟨HB4.out.os, HB4.out.tape, HB4.out.output, HB4.out.size, HB4.out.block⟩)
      have HM5 := Lib.hid ((HB5.out.cell (p := ⟨0, 0, none⟩) hB).trans HM.out)
      have hcs := Lib.hid (psplit_any p (w4.drewN n5) m (by have := HZ.out; omega) HM5.out)
      go_wp2_with fail
      refine hcs.out.mono ?_
      rintro e w8 ⟨vm, rfl, hT8, hb8⟩
      have HB8 := Lib.hid (HB5.out.trans (hb8.mono HB5.out.size))
      have HT8 := Lib.hid hT8
      clear hb8 hcs hT8
      by_cases hq : (splitN p).2 = 0
      · obtain ⟨hj1, hj2⟩ := join_split hq
        have HJ := Lib.hid hj1
        have HN := Lib.hid (pjoin_any vm (splitN p).1 w8 HT8.out (names_size hj2))
        rw [hq]
        clear hj1 hj2 hq
        go_wp2_with fail
        refine HN.out.mono ?_
        rintro e w9 ⟨rfl, hb9⟩
        rw [HJ.out]
        have HB9 := Lib.hid (HB8.out.trans (hb9.mono HB8.out.size))
        have ht : (p.toList == p.toList) = true := by simp
        clear hb9
        go_wp2_with fail
        go_ret
        exact ⟨rfl, HB9.out⟩
      · have hT8 := HT8.out
        rw [split_err hq] at hT8
        obtain ⟨A8, c8, rfl, -, -, -⟩ := hT8
        have hq1 : ((splitN p).2 != 0) = true := bne_iff_ne.2 hq
        clear hq HT8
        generalize (splitN p).2 = q at *
        go_wp2_with fail
        go_ret
        exact ⟨rfl, HB8.out⟩
    · rw [checkL_some hc]
      have hc1 : (checkL L == 0) = false := beq_eq_false_iff_ne.2 hc
      clear hc
      generalize (joinN L).1 = j at *
      generalize checkL L = cl at *
      have HM3 := Lib.hid ((HB3.out.cell (p := ⟨0, 0, none⟩) hB).trans HM.out)
      have hcs := Lib.hid (psplit_any p w3 m (by have := HZ.out; omega) HM3.out)
      go_wp2_with fail
      refine hcs.out.mono ?_
      rintro e w8 ⟨vm, rfl, hT8, hb8⟩
      have HB8 := Lib.hid (HB3.out.trans (hb8.mono HB3.out.size))
      have HT8 := Lib.hid hT8
      clear hb8 hcs hT8
      by_cases hq : (splitN p).2 = 0
      · obtain ⟨hj1, hj2⟩ := join_split hq
        have HJ := Lib.hid hj1
        have HN := Lib.hid (pjoin_any vm (splitN p).1 w8 HT8.out (names_size hj2))
        rw [hq]
        clear hj1 hj2 hq
        go_wp2_with fail
        refine HN.out.mono ?_
        rintro e w9 ⟨rfl, hb9⟩
        rw [HJ.out]
        have HB9 := Lib.hid (HB8.out.trans (hb9.mono HB8.out.size))
        have ht : (p.toList == p.toList) = true := by simp
        clear hb9
        go_wp2_with fail
        go_ret
        exact ⟨rfl, HB9.out⟩
      · have hT8 := HT8.out
        rw [split_err hq] at hT8
        obtain ⟨A8, c8, rfl, -, -, -⟩ := hT8
        have hq1 : ((splitN p).2 != 0) = true := bne_iff_ne.2 hq
        clear hq HT8
        generalize (splitN p).2 = q at *
        go_wp2_with fail
        go_ret
        exact ⟨rfl, HB8.out⟩
end Go.Proofs.YtcjgmkjjogemhaaDoor
