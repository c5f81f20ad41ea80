/- The walk of the law PathInside: it answers true. -/
import Derived.Test.YtcjgmkjjogemhaaDoorWorks
import Derived.Test.YtcjgmkjjogemhaaDoorInside
import Derived.Test.YtcjgmkjjogemhaaDoorFew
namespace Go.Proofs.YtcjgmkjjogemhaaDoor
open Go.RowKit

theorem below_drawn {a b c : World} {n : Nat} (h : Below a.heap.size a b) (k : Below (b.drewN n).heap.size (b.drewN n) c) : Below a.heap.size a c :=
  (show Below a.heap.size a (b.drewN n) from ⟨h.os, h.tape, h.output, h.size, h.block⟩).trans (k.mono h.size)

set_option maxHeartbeats 1000000 in
theorem insides_any (a b c : Value) (la lb lc : List ByteArray) (w : World) (m : Int) (ha : Texts 0 w a la) (hb : Texts 0 w b lb) (hc : Texts 0 w c lc)
    (sa : ∀ u ∈ la, u.size ≤ 9223372036854775807) (sb : ∀ u ∈ lb, u.size ≤ 9223372036854775807) (sc : ∀ u ∈ lc, u.size ≤ 9223372036854775807)
    (hm : w.cell? ⟨0, 0, none⟩ = some (.int .i64 m)) (hB : 0 < w.heap.size) :
    Calls Tryd.prog 4 #[a, b, c] w fun e w' => e = .returned (.bool true) ∧ Below w.heap.size w w' := by
  have HM := Lib.hid hm
  have SB := Lib.hid sb
  have SC := Lib.hid sc
  have Hb := Lib.hid hb
  have Hc := Lib.hid hc
  have K1 := Lib.hid (few_any a la w ha sa)
  clear hm sa sb sc ha hb hc
  go_enter Tryd.func4, Tryd.ntmps4
  go_wp2_with fail
  refine K1.out.mono ?_
  rintro e w1 ⟨ra, rfl, ra1, hb1⟩
  have HB1 := Lib.hid hb1
  have TA1 := Lib.hid (ra1.texts.mono (B' := 0) (Nat.zero_le _))
  have Hb1 := Lib.hid (Hb.out.below hb1)
  have Hc1 := Lib.hid (Hc.out.below hb1)
  clear hb1 ra1 Hb Hc K1
  go_wp2_with fail
  refine (few_any b lb w1 (by exact Hb1.out) SB.out).mono ?_
  rintro e w2 ⟨rb, rfl, rb1, hb2⟩
  have HB2 := Lib.hid (HB1.out.trans (hb2.mono HB1.out.size))
  have TA2 := Lib.hid (TA1.out.below hb2)
  have TB2 := Lib.hid (rb1.texts.mono (B' := 0) (Nat.zero_le _))
  have Hc2 := Lib.hid (Hc1.out.below hb2)
  clear hb2 rb1 Hb1 Hc1 TA1
  go_wp2_with fail
  refine (few_any c lc w2 (by exact Hc2.out) SC.out).mono ?_
  rintro e w3 ⟨rc, rfl, rc1, hb3⟩
  have HB3 := Lib.hid (HB2.out.trans (hb3.mono HB2.out.size))
  have TA3 := Lib.hid (TA2.out.below hb3)
  have TB3 := Lib.hid (TB2.out.below hb3)
  have TC3 := Lib.hid (rc1.texts.mono (B' := 0) (Nat.zero_le _))
  clear hb3 rc1 Hc2 TA2 TB2 HB1 HB2
  go_wp2_with fail
  refine (few_again ra la w3 (by exact TA3.out)).mono ?_
  rintro e w4 ⟨sa, rfl, sa1, hb4⟩
  have HB4 := Lib.hid (HB3.out.trans (hb4.mono HB3.out.size))
  have TA4 := Lib.hid (TA3.out.below hb4)
  have TB4 := Lib.hid (TB3.out.below hb4)
  have TC4 := Lib.hid (TC3.out.below hb4)
  have UA4 := Lib.hid (sa1.texts.mono (B' := 0) (Nat.zero_le _))
  clear hb4 sa1 TA3 TB3 TC3 HB3
  go_wp2_with fail
  refine (few_again rb lb w4 (by exact TB4.out)).mono ?_
  rintro e w5 ⟨sb, rfl, sb1, hb5⟩
  have HB5 := Lib.hid (HB4.out.trans (hb5.mono HB4.out.size))
  have TA5 := Lib.hid (TA4.out.below hb5)
  have TB5 := Lib.hid (TB4.out.below hb5)
  have TC5 := Lib.hid (TC4.out.below hb5)
  have UA5 := Lib.hid (UA4.out.below hb5)
  have UB5 := Lib.hid (sb1.texts.mono (B' := 0) (Nat.zero_le _))
  clear hb5 sb1 TA4 TB4 TC4 HB4 UA4
  have HM5 := Lib.hid ((HB5.out.cell (p := ⟨0, 0, none⟩) hB).trans HM.out)
  have hB5 : 0 < w5.heap.size := Nat.lt_of_lt_of_le hB HB5.out.size
  have HT := Lib.hid (fun h k => insideB_trans (l := fewL la) (m := fewL lb) (n := fewL lc) h k)
  have HS := Lib.hid (insideB_self (fewL la))
  generalize fewL la = A at *
  generalize fewL lb = B at *
  generalize fewL lc = C at *
  go_wp2_with fail
  refine (inside_any sa sb A B w5 (by exact UA5.out) (by exact UB5.out)).mono ?_
  rintro e w6 ⟨rfl, n6, rfl⟩
  go_wp2_with fail
  refine (rinside_any ra rb A B _ (by exact TA5.out) (by exact TB5.out)).mono ?_
  rintro e w7 ⟨rfl, n7, rfl⟩
  have t1 : (insideB A B != insideB A B) = false := by simp
  go_wp2_with fail
  refine (inside_any ra ra A A _ (by exact TA5.out) (by exact TA5.out)).mono ?_
  rintro e w8 ⟨rfl, n8, rfl⟩
  rw [HS.out]
  go_wp2_with fail
  refine (inside_any ra rb A B _ (by exact TA5.out) (by exact TB5.out)).mono ?_
  rintro e w9 ⟨rfl, n9, rfl⟩
  clear t1 HS
  obtain ⟨x, hx⟩ : ∃ x, insideB A B = x := ⟨_, rfl⟩
  rw [hx]
  cases x with
  | false =>
    clear hx HT
    go_wp2_with fail
    refine (works_any _ m (by exact HM5.out) (by exact hB5)).mono ?_
    rintro e w10 ⟨rfl, hb10⟩
    have HF := Lib.hid (below_drawn HB5.out hb10)
    clear hb10
    go_wp2_with fail
    go_ret
    exact ⟨rfl, HF.out⟩
  | true =>
    go_wp2_with fail
    refine (inside_any rb rc B C _ (by exact TB5.out) (by exact TC5.out)).mono ?_
    rintro e w10 ⟨rfl, n10, rfl⟩
    obtain ⟨y, hy⟩ : ∃ y, insideB B C = y := ⟨_, rfl⟩
    rw [hy]
    cases y with
    | false =>
      clear hx hy HT
      go_wp2_with fail
      refine (works_any _ m (by exact HM5.out) (by exact hB5)).mono ?_
      rintro e w11 ⟨rfl, hb10⟩
      have HF := Lib.hid (below_drawn HB5.out hb10)
      clear hb10
      go_wp2_with fail
      go_ret
      exact ⟨rfl, HF.out⟩
    | true =>
      have HZ := Lib.hid (HT.out hx hy)
      clear hx hy HT
      go_wp2_with fail
      refine (inside_any ra rc A C _ (by exact TA5.out) (by exact TC5.out)).mono ?_
      rintro e w11 ⟨rfl, n11, rfl⟩
      rw [HZ.out]
      go_wp2_with fail
      refine (works_any _ m (by exact HM5.out) (by exact hB5)).mono ?_
      rintro e w12 ⟨rfl, hb10⟩
      have HF := Lib.hid (below_drawn HB5.out hb10)
      clear hb10
      go_wp2_with fail
      go_ret
      exact ⟨rfl, HF.out⟩
end Go.Proofs.YtcjgmkjjogemhaaDoor
