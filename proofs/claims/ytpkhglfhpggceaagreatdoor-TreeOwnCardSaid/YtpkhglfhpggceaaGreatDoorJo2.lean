/- TreeOwn, the walk (printed by genown.py). TreeOwn answers true for every input, and its arguments read behind the call as they read before: its card. -/
import Derived.Test.YtpkhglfhpggceaaGreatDoorJo1
import Derived.Test.YtpkhglfhpggceaaGreatDoorJc5
namespace Go.Proofs.YtpkhglfhpggceaaGreatDoor
set_option maxRecDepth 100000
set_option maxHeartbeats 16000000
open Go.RowKit Go.Proofs.YtpkhglfhpggceaaGreatDoorW.PrintLast
set_option linter.unusedVariables false
set_option linter.unusedSimpArgs false
theorem Pair.base {w0 w1 w' : World} {t y c : Nat} {a b : TS} (h : Pair w1 t y c a b w') (hb : Below w0.heap.size w0 w1) : Pair w0 t y c a b w' := by
 obtain ⟨F1, F2, h1, h2, h3, h4, h5⟩ := h
 exact ⟨F1, F2, h1, h2, fun j hj => ⟨Nat.le_trans hb.size (h3 j hj).1, (h3 j hj).2⟩, fun j hj => Nat.le_trans hb.size (h4 j hj), hb.trans (h5.mono hb.size)⟩
theorem split_root : splitN ⟨#[47]⟩ = ([], 0) := splitN_root (by rw [ByteArray.toList_eq]; rfl)
theorem own_any (A : Option Addr) (n cc : Nat) (l : List OpT) (A' : Option Addr) (n' cc' : Nat) (l' : List OpT) (w : World) (hA : ActsR w A n l) (hnc : n ≤ cc) (hcc : cc ≤ maxLen) (hA' : ActsR w A' n' l') (hnc' : n' ≤ cc') (hcc' : cc' ≤ maxLen)
  (hx : ∃ m, w.cell? ⟨0, 0, none⟩ = some (.int .i64 m)) :
  Calls Tryz.prog 4 #[.slice A n cc, .slice A' n' cc'] w fun r w' => r = .returned (.bool true) ∧ Below w.heap.size w w' := by
 have HA := Lib.hid hA
 have HA' := Lib.hid hA'
 have HX := Lib.hid hx
 have hw0 : 0 < w.heap.size := by obtain ⟨m, hm⟩ := hx; exact mx_lt hm
 unfold maxLen at hcc hcc'
 clear hA hA' hx
 go_enter Tryz.func4, Tryz.ntmps4
 go_wp2_with fail
 refine (works_any w HX.out).mono ?_
 rintro e wa ⟨rfl, hba⟩
 have HBA := Lib.hid hba
 have HN := Lib.hid (tnew_any wa (mx_turn (S := fun _ => False) HX.out (Turn.of_below hba) id))
 clear hba
 go_wp2_with fail
 refine HN.out.mono ?_
 rintro e w1 ⟨t, rfl, hst, hb1⟩
 have HS1 := Lib.hid hst
 have HB1 := Lib.hid hb1
 have HRN := Lib.hid (rtnew_any w1 (Nat.lt_of_lt_of_le hw0 (Nat.le_trans HBA.out.size hb1.size)))
 clear hst hb1 HN
 go_wp2_with fail
 refine HRN.out.mono ?_
 rintro e w2 ⟨y, rfl, hst, hb2⟩
 have HP := Lib.hid ((Pair.start HS1.out HB1.out hst hb2).base HBA.out)
 have HI := Lib.hid ts0_inv
 clear hst hb2 HS1 HB1 HRN HBA
 generalize ts0 = a0 at *
 go_wp2_with fail
 go_loopw [7] (fun i wr => ∃ k : Nat, k ≤ n ∧ k ≤ 20 ∧ i = .int .i64 k ∧ ∃ a, Hid (Inv a (1 + 2 * k)) ∧ Hid (Pair w t y (1 + 2 * k) a a wr)) (fun i _ => n - (intOf i).toNat)
 case atStart => exact ⟨0, Nat.zero_le _, by omega, rfl, a0, HI, HP⟩
 case round =>
 clear HI HP
 rename World => wr
 obtain ⟨k, hk, hk20, rfl, a, hI, hP⟩ := hrel
 by_cases hlt : k < n ∧ k < 20
 ·obtain ⟨hlt, hlt2⟩ := hlt
  obtain ⟨o, g, x, A2, c2, rfl, ⟨hz1, hz2, hz3⟩, ho, hW⟩ := HA.out.at_ hlt
  have HRd := Lib.hid hW
  have hi1 : (0 : Int) ≤ (k : Int) := by omega
  have hi2 : (k : Int) < (n : Int) := by omega
  have hi3 : (k : Int) < 20 := by omega
  have hsz1 : (fewT o).path.size ≤ 1000 := Nat.le_trans (briefT_size _) (by omega)
  have hsz2 : (fewT o).to.size ≤ 1000 := Nat.le_trans (briefT_size _) (by omega)
  have HI2 := Lib.hid (hI.out.doT (o := fewT o))
  have HG := Lib.hid hI.out.1
  have HP0 := Lib.hid hP.out
  have HFW := Lib.hid (fun W (hb : Below w.heap.size w W) => few_any o A2 c2 W (HRd.out W hb).1 hz1 hz2 hz3)
  obtain ⟨hbs, x0, x1, x2, x3, x4, x5, x6, x7⟩ := HRd.out wr HP0.out.bel
  clear hW ho hI hP hbs
  go_wp2_with fail
  refine (HFW.out _ HP0.out.bel).mono ?_
  rintro e w3 ⟨A3, c3, rfl, hby, hown, hb3⟩
  have HD7 := Lib.hid (HP0.out.do7 HG.out (by omega) (fewT o) hsz1 hsz2 hb3 hby hown)
  clear hby hown hb3 x0 x1 x2 x3 x4 x5 x6 x7 HP0
  go_wp2_with fail
  refine HD7.out.mono ?_
  rintro e w4 ⟨v4, rfl, hP4⟩
  have HP4 := Lib.hid hP4
  obtain ⟨hbs, x0, x1, x2, x3, x4, x5, x6, x7⟩ := HRd.out w4 hP4.bel
  clear hP4 HD7 hbs
  go_wp2_with fail
  refine (HFW.out _ HP4.out.bel).mono ?_
  rintro e w5 ⟨A5, c5, rfl, hby, hown, hb5⟩
  have HD9 := Lib.hid (HP4.out.rdo9 HG.out (by omega) (fewT o) hsz1 hsz2 hb5 hby)
  clear hby hown hb5 x0 x1 x2 x3 x4 x5 x6 x7 HP4
  go_wp2_with fail
  refine HD9.out.mono ?_
  rintro e w6 ⟨v6, rfl, hP6⟩
  have HP6 := Lib.hid hP6
  clear hP6 HD9
  go_wp2
  go_roundw
  case rel =>
   have e : 1 + 2 * (k + 1) = 1 + 2 * k + 2 := by omega
   exact ⟨k + 1, by omega, by omega, by go_num, a.doT (fewT o), (by rw [e]; exact HI2), (by rw [e]; exact HP6)⟩
  case measure => simp [intOf]; omega
 have HI := Lib.hid hI.out
 have HP := Lib.hid hP.out
 have hkc : 1 + 2 * k ≤ 41 := by omega
 have hend : (¬ (k : Int) < (n : Int)) ∨ ((k : Int) < (n : Int) ∧ ¬ (k : Int) < 20) := by omega
 generalize 1 + 2 * k = c at *
 clear hI hP hlt hk hk20
 have HCP := Lib.hid (HP.out.copied HI.out.1 (by omega))
 obtain hend | ⟨hend, hend2⟩ := hend
 all_goals
  go_wp2_with fail
  refine HCP.out.mono ?_
  rintro e wb ⟨t2, rfl, htr⟩
  have HT := Lib.hid (show Trip w t y t2 (c + 2 * 0) (2 * c) a a a wb from htr)
  have HG := Lib.hid (HI.out.1.mono (show c ≤ 2 * c by omega))
  have HI0 := Lib.hid (show Inv a (c + 2 * 0) from HI.out)
  clear htr HCP HP HI
  have hlast := HG.out.few
  go_wp2_with fail
  go_loopw [9] (fun i wq => ∃ k2 : Nat, k2 ≤ n' ∧ k2 ≤ 20 ∧ i = .int .i64 k2 ∧ ∃ a2, Hid (Inv a2 (c + 2 * k2)) ∧ Hid (Trip w t y t2 (c + 2 * k2) (2 * c) a2 a a wq)) (fun i _ => n' - (intOf i).toNat)
  case atStart => exact ⟨0, Nat.zero_le _, by omega, rfl, a, HI0, HT⟩
  case round =>
  clear HI0 HT
  rename World => wq
  obtain ⟨k2, hk, hk20, rfl, a2, hI, hP⟩ := hrel
  by_cases hlt : k2 < n' ∧ k2 < 20
  ·obtain ⟨hlt, hlt2⟩ := hlt
   obtain ⟨o, g, x, A2, c2, rfl, ⟨hz1, hz2, hz3⟩, ho, hW⟩ := HA'.out.at_ hlt
   have HRd := Lib.hid hW
   have hi1 : (0 : Int) ≤ (k2 : Int) := by omega
   have hi2 : (k2 : Int) < (n' : Int) := by omega
   have hi3 : (k2 : Int) < 20 := by omega
   have hsz1 : (fewT o).path.size ≤ 1000 := Nat.le_trans (briefT_size _) (by omega)
   have hsz2 : (fewT o).to.size ≤ 1000 := Nat.le_trans (briefT_size _) (by omega)
   have HI2 := Lib.hid (hI.out.doT (o := fewT o))
   have HG2 := Lib.hid hI.out.1
   have HP0 := Lib.hid hP.out
   have HFW := Lib.hid (fun W (hb : Below w.heap.size w W) => few_any o A2 c2 W (HRd.out W hb).1 hz1 hz2 hz3)
   obtain ⟨hbs, x0, x1, x2, x3, x4, x5, x6, x7⟩ := HRd.out wq HP0.out.bel
   clear hW ho hI hP hbs
   go_wp2_with fail
   refine (HFW.out _ HP0.out.bel).mono ?_
   rintro e w3 ⟨A3, c3, rfl, hby, hown, hb3⟩
   have HD7 := Lib.hid (HP0.out.do7 HG2.out (by omega) (fewT o) hsz1 hsz2 hb3 hby hown)
   clear hby hown hb3 x0 x1 x2 x3 x4 x5 x6 x7 HP0
   go_wp2_with fail
   refine HD7.out.mono ?_
   rintro e w4 ⟨v4, rfl, hP4⟩
   have HP4 := Lib.hid hP4
   clear hP4 HD7
   go_wp2
   go_roundw
   case rel =>
    have e : c + 2 * (k2 + 1) = c + 2 * k2 + 2 := by omega
    exact ⟨k2 + 1, by omega, by omega, by go_num, a2.doT (fewT o), (by rw [e]; exact HI2), (by rw [e]; exact HP4)⟩
   case measure => simp [intOf]; omega
  have HP := Lib.hid hP.out.pair
  have hend3 : (¬ (k2 : Int) < (n' : Int)) ∨ ((k2 : Int) < (n' : Int) ∧ ¬ (k2 : Int) < 20) := by omega
  clear hI hP hlt hk hk20
  obtain hend3 | ⟨hend3, hend4⟩ := hend3
  all_goals
   have hl9 : a.last + 1 ≤ 1000 := by omega
   obtain ⟨g9, cap9, hfit, hlen⟩ := HP.out.rlen
   obtain ⟨fb, hyc, hru⟩ := HP.out.rused
   have HLEN := Lib.hid hlen
   have HYC := Lib.hid hyc
   have HRU := Lib.hid hru
   have HTp := Lib.hid (fun W (hb : Below wq.heap.size wq W) => HP.out.below hb)
   have HSM := Lib.hid (fun W (hb : Below wq.heap.size wq W) (k : Nat) (hk : k ≤ 1000000) => (HP.out.below hb).same HG.out (by omega) k hk)
   have HBW := Lib.hid HP.out.bel
   have HMX := Lib.hid HP.out.mx
   clear hlen hyc hru hfit HP
   generalize a.last + 1 = n9 at *
   go_wp2_with fail
   go_loopw [10] (fun i wz => ∃ k3 : Nat, k3 ≤ n9 + 1 ∧ i = .int .i64 (k3 : Nat) ∧ Hid (Below wq.heap.size wq wz)) (fun i _ => n9 + 1 - (intOf i).toNat)
   case atStart => exact ⟨0, Nat.zero_le _, rfl, Lib.hid (Below.refl _ _)⟩
   case round =>
   rename World => wz
   obtain ⟨k3, hk3, rfl, hb⟩ := hrel
   have y0 := HLEN.out wz hb.out
   by_cases hlt : k3 < n9 + 1
   ·have hi : (k3 : Int) < (n9 : Int) + 1 := by omega
    have HS9 := Lib.hid (HSM.out wz hb.out k3 (by omega))
    go_wp2_with fail
    refine HS9.out.mono ?_
    rintro e wy ⟨rfl, hby⟩
    have HBY := Lib.hid (hb.out.trans (hby.mono hb.out.size))
    clear hby HS9 y0
    go_wp2
    go_roundw
    case rel => exact ⟨k3 + 1, by omega, by go_num, HBY⟩
    case measure => simp [intOf]; omega
   ·obtain rfl : k3 = n9 + 1 := by omega
    have hi : ¬ (((n9 + 1 : Nat) : Nat) : Int) < (n9 : Int) + 1 := by omega
    have hi2 : ¬ (n9 : Int) + 1 < (n9 : Int) + 1 := by omega
    clear hlt HSM
    go_wp2_with fail
    refine (twalk_nil ⟨#[47]⟩ _).mono ?_
    rintro e z1 ⟨rfl, hz⟩
    have HB1 := Lib.hid (hb.out.trans (hz.mono hb.out.size))
    clear hz hb y0
    go_wp2_with fail
    refine (tnode_nil 1 _).mono ?_
    rintro e z2 ⟨rfl, hz⟩
    have HB2 := Lib.hid (HB1.out.trans (hz.mono HB1.out.size))
    clear hz HB1
    go_upto_region 23 with (fail)
    have HB3 := Lib.hid (HB2.out.alloc HB2.out.size (.cells #[.int .i64 0, .int .i64 0, .slice none 0 0, .slice none 0 0] 48))
    generalize z2.alloc (.cells #[.int .i64 0, .int .i64 0, .slice none 0 0, .slice none 0 0] 48) = z3 at *
    clear HB2
    go_wp2_with fail
    refine (tdo_nil _).mono ?_
    rintro e z4 ⟨rfl, hz⟩
    have HB4 := Lib.hid (HB3.out.trans (hz.mono HB3.out.size))
    clear hz HB3
    go_upto_region 24 with (fail)
    have HB5 := Lib.hid (HB4.out.alloc HB4.out.size (.cells #[.int .i64 1, .int .i64 0, .slice none 0 0, .slice none 0 0, .int .i64 0, .int .i64 0, .int .i64 0] 33))
    have HX5 := Lib.hid (Blk.new z4 33 #[.int .i64 1, .int .i64 0, .slice none 0 0, .slice none 0 0, .int .i64 0, .int .i64 0, .int .i64 0])
    generalize z4.alloc (.cells #[.int .i64 1, .int .i64 0, .slice none 0 0, .slice none 0 0, .int .i64 0, .int .i64 0, .int .i64 0] 33) = z5 at *
    generalize z4.heap.size = ab at *
    clear HB4
    obtain ⟨m5, hm5⟩ := mx_turn (S := fun _ => False) HMX.out (Turn.of_below HB5.out) id
    have HSP := Lib.hid (psplit_any ⟨#[47]⟩ z5 m5 (by decide) hm5)
    clear hm5
    go_wp2_with fail
    refine HSP.out.mono ?_
    rintro e z6 ⟨vs, rfl, htx, hz⟩
    rw [split_root]
    have HB6 := Lib.hid (HB5.out.trans (hz.mono HB5.out.size))
    have HX6 := Lib.hid (HX5.out.below hz HX5.out.lt)
    have HYC := Lib.hid (fun W (hb : Below z6.heap.size z6 W) => HYC.out W (HB6.out.trans (hb.mono HB6.out.size)))
    have HRU := Lib.hid (fun W (hb : Below z6.heap.size z6 W) => HRU.out W (HB6.out.trans (hb.mono HB6.out.size)))
    have HTp := Lib.hid (fun W (hb : Below z6.heap.size z6 W) => HTp.out W (HB6.out.trans (hb.mono HB6.out.size)))
    have HAB : Hid (∀ W, Below z6.heap.size z6 W → W.cell? ⟨ab, 0, none⟩ = some (.int .i64 1)) := Lib.hid fun W hb => (HX6.out.below hb HX6.out.lt).cell 0
    clear hz htx HSP HB5 HX5 HX6
    go_upto_region 25 with (fail)
    have hB : Below z6.heap.size z6 z6.drew := drew_below'
    refine start_ (n := 46) (S := fun w' => w'.cell? ⟨y, 1, none⟩ = some (.pointer (some ⟨fb, 0, none⟩)) ∧ w'.cell? ⟨ab, 0, none⟩ = some (.int .i64 1)) (ds := []) (bs 46 0) (by kernel_rfl) rfl rfl ⟨(HYC.out _ hB), (HAB.out _ hB)⟩ (fun hHeld => ?_)
    refine py_ 0 99 (bs 46 1) rfl rfl (by kernel_rfl) (fun _ _ _ h => h) (by rfl) (fun w' => by go_simp; with_reducible rfl) (by simp only [Act.put, sA, sZ, sS, i64_w, i32_w]; rfl) ?_
    refine py_ 3 102 (bs 46 9) rfl rfl (by kernel_rfl) (fun _ _ _ h => h) (by rfl) (fun w' => by go_simp; with_reducible rfl) (by simp only [Act.put, sA, sZ, sS, i64_w, i32_w]; rfl) ?_
    refine py_ 4 103 (bs 46 25) rfl rfl (by kernel_rfl) (fun _ _ _ h => h) (by rfl) (fun w' => by go_simp; with_reducible rfl) (by simp only [Act.put, sA, sZ, sS, i64_w, i32_w]; rfl) ?_
    refine py_ 5 104 (bs 46 57) rfl rfl (by kernel_rfl) (fun _ _ _ h => h) (by rfl) (fun w' => by go_simp; with_reducible rfl) (by simp only [Act.put, sA, sZ, sS, i64_w, i32_w]; rfl) ?_
    refine ty_ 6 105 (bs 46 121) rfl rfl (by kernel_rfl) (fun _ _ _ h => h) (by rfl) (by rintro w' ⟨s0, s1⟩; go_simp; with_reducible rfl) hHeld (by simp only [Act.put, sA, sZ, sS, i64_w, i32_w]; rfl) ?_
    refine one_ (i := 1) (N := some 100) (bs 46 123) rfl rfl (by kernel_rfl) (by decide) (fun K hK => ?_)
    refine goes_ Tryz.func20 (by kernel_rfl) rfl #[.pointer (some ⟨t2, 0, none⟩)] (by rfl) rfl rfl (by simp only [List.map_toArray, List.map_cons, List.map_nil]; rfl) ?_
    with_reducible refine (((HTp.out _ hB).opened)).mono ?_
    rintro e u1 ⟨tb, T1, rfl, htb, hus, hbx⟩
    refine ⟨_, rfl, ?_⟩
    have hB := hB.trans (hbx.mono hB.size)
    clear hbx
    refine hK.out _ _ ⟨(HYC.out _ hB), (HAB.out _ hB)⟩ (fun hHeld => ?_)
    clear hK K
    refine norm_ (a' := ?_) ?_ ?_
    rotate_left
    ·show Act.put _ (some 100) _ = _
     simp only [Act.put, sA, sZ, sS, i64_w, i32_w]
     rfl
    refine one_ (i := 2) (N := some 101) (bs 46 127) rfl rfl (by kernel_rfl) (by decide) (fun K hK => ?_)
    refine goes_ Tryz.func21 (by kernel_rfl) rfl #[.pointer (some ⟨tb, 0, none⟩)] (by rfl) rfl rfl (by simp only [List.map_toArray, List.map_cons, List.map_nil]; rfl) ?_
    with_reducible refine ((used_q htb hus)).mono ?_
    rintro e u2 ⟨v1, rfl, hv1, hbx⟩
    refine ⟨_, rfl, ?_⟩
    have hB := hB.trans (hbx.mono hB.size)
    clear hbx
    clear htb hus
    refine hK.out _ _ ⟨(HYC.out _ hB), (HAB.out _ hB)⟩ (fun hHeld => ?_)
    clear hK K
    refine norm_ (a' := ?_) ?_ ?_
    rotate_left
    ·show Act.put _ (some 101) _ = _
     simp only [Act.put, sA, sZ, sS, i64_w, i32_w]
     rfl
    refine one_ (i := 7) (N := some 106) (bs 46 255) rfl rfl (by kernel_rfl) (by decide) (fun K hK => ?_)
    refine goes_ Tryz.func22 (by kernel_rfl) rfl #[.pointer (some ⟨fb, 0, none⟩)] (by rfl) rfl rfl (by simp only [List.map_toArray, List.map_cons, List.map_nil]; rfl) ?_
    with_reducible refine ((HRU.out _ hB)).mono ?_
    rintro e u3 ⟨v2, rfl, hv2, hbx⟩
    refine ⟨_, rfl, ?_⟩
    have hv1 := hv1.below hbx
    have hB := hB.trans (hbx.mono hB.size)
    clear hbx
    refine hK.out _ _ ⟨(HYC.out _ hB), (HAB.out _ hB)⟩ (fun hHeld => ?_)
    clear hK K
    refine norm_ (a' := ?_) ?_ ?_
    rotate_left
    ·show Act.put _ (some 106) _ = _
     simp only [Act.put, sA, sZ, sS, i64_w, i32_w]
     rfl
    refine one_ (i := 8) (N := some 107) (bs 46 511) rfl rfl (by kernel_rfl) (by decide) (fun K hK => ?_)
    refine goes_ Tryz.func19 (by kernel_rfl) rfl #[v1, v2] (by rfl) rfl rfl (by simp only [List.map_toArray, List.map_cons, List.map_nil]; rfl) ?_
    with_reducible refine ((same_q hv1 hv2)).mono ?_
    rintro e u4 ⟨rfl, hbx⟩
    refine ⟨_, rfl, ?_⟩
    have hB := hB.trans (hbx.mono hB.size)
    clear hbx
    clear hv1 hv2
    refine hK.out _ _ ⟨(HYC.out _ hB), (HAB.out _ hB)⟩ (fun hHeld => ?_)
    clear hK K
    refine norm_ (a' := ?_) ?_ ?_
    rotate_left
    ·show Act.put _ (some 107) _ = _
     simp only [Act.put, sA, sZ, sS, i64_w, i32_w]
     rfl
    refine py_ 9 108 (bs 46 1023) rfl rfl (by kernel_rfl) (fun _ _ _ h => h) (by rfl) (fun w' => by go_simp; with_reducible rfl) (by simp only [Act.put, sA, sZ, sS, i64_w, i32_w]; rfl) ?_
    refine py_ 10 109 (bs 46 2047) rfl rfl (by kernel_rfl) (fun _ _ _ h => h) (by rfl) (fun w' => by go_simp; with_reducible rfl) (by simp only [Act.put, sA, sZ, sS, i64_w, i32_w]; rfl) ?_
    refine py_ 11 110 (bs 46 4095) rfl rfl (by kernel_rfl) (fun _ _ _ h => h) (by rfl) (fun w' => by go_simp; with_reducible rfl) (by simp only [Act.put, sA, sZ, sS, i64_w, i32_w]; rfl) ?_
    refine py_ 12 111 (bs 46 8191) rfl rfl (by kernel_rfl) (fun _ _ _ h => h) (by rfl) (fun w' => by go_simp; with_reducible rfl) (by simp only [Act.put, sA, sZ, sS, i64_w, i32_w]; rfl) ?_
    refine py_ 13 112 (bs 46 16383) rfl rfl (by kernel_rfl) (fun _ _ _ h => h) (by rfl) (fun w' => by go_simp; with_reducible rfl) (by simp only [Act.put, sA, sZ, sS, i64_w, i32_w]; rfl) ?_
    refine py_ 14 113 (bs 46 32767) rfl rfl (by kernel_rfl) (fun _ _ _ h => h) (by rfl) (fun w' => by go_simp; with_reducible rfl) (by simp only [Act.put, sA, sZ, sS, i64_w, i32_w]; rfl) ?_
    refine py_ 15 114 (bs 46 65535) rfl rfl (by kernel_rfl) (fun _ _ _ h => h) (by rfl) (fun w' => by go_simp; with_reducible rfl) (by simp only [Act.put, sA, sZ, sS, i64_w, i32_w]; rfl) ?_
    refine py_ 16 115 (bs 46 131071) rfl rfl (by kernel_rfl) (fun _ _ _ h => h) (by rfl) (fun w' => by go_simp; with_reducible rfl) (by simp only [Act.put, sA, sZ, sS, i64_w, i32_w]; rfl) ?_
    refine py_ 17 116 (bs 46 262143) rfl rfl (by kernel_rfl) (fun _ _ _ h => h) (by rfl) (fun w' => by go_simp; with_reducible rfl) (by simp only [Act.put, sA, sZ, sS, i64_w, i32_w]; rfl) ?_
    refine py_ 18 117 (bs 46 524287) rfl rfl (by kernel_rfl) (fun _ _ _ h => h) (by rfl) (fun w' => by go_simp; with_reducible rfl) (by simp only [Act.put, sA, sZ, sS, i64_w, i32_w]; rfl) ?_
    refine py_ 19 118 (bs 46 1048575) rfl rfl (by kernel_rfl) (fun _ _ _ h => h) (by rfl) (fun w' => by go_simp; with_reducible rfl) (by simp only [Act.put, sA, sZ, sS, i64_w, i32_w]; rfl) ?_
    refine py_ 21 120 (bs 46 3145727) rfl rfl (by kernel_rfl) (fun _ _ _ h => h) (by rfl) (fun w' => by go_simp; with_reducible rfl) (by simp only [Act.put, sA, sZ, sS, i64_w, i32_w]; rfl) ?_
    refine ty_ 20 119 (bs 46 4194303) rfl rfl (by kernel_rfl) (fun _ _ _ h => h) (by rfl) (by rintro w' ⟨s0, s1⟩; go_simp; with_reducible rfl) hHeld (by simp only [Act.put, sA, sZ, sS, i64_w, i32_w]; rfl) ?_
    refine py_ 22 121 (bs 46 8388607) rfl rfl (by kernel_rfl) (fun _ _ _ h => h) (by rfl) (fun w' => by go_simp; with_reducible rfl) (by simp only [Act.put, sA, sZ, sS, i64_w, i32_w]; rfl) ?_
    refine py_ 23 122 (bs 46 16777215) rfl rfl (by kernel_rfl) (fun _ _ _ h => h) (by rfl) (fun w' => by go_simp; with_reducible rfl) (by simp only [Act.put, sA, sZ, sS, i64_w, i32_w]; rfl) ?_
    refine py_ 24 123 (bs 46 33554431) rfl rfl (by kernel_rfl) (fun _ _ _ h => h) (by rfl) (fun w' => by go_simp; with_reducible rfl) (by simp only [Act.put, sA, sZ, sS, i64_w, i32_w]; rfl) ?_
    refine py_ 25 124 (bs 46 67108863) rfl rfl (by kernel_rfl) (fun _ _ _ h => h) (by rfl) (fun w' => by go_simp; with_reducible rfl) (by simp only [Act.put, sA, sZ, sS, i64_w, i32_w]; rfl) ?_
    refine one_ (i := 26) (N := some 125) (bs 46 134217727) rfl rfl (by kernel_rfl) (by decide) (fun K hK => ?_)
    refine goes_ Tryz.func23 (by kernel_rfl) rfl #[.pointer none] (by rfl) rfl rfl (by simp only [List.map_toArray, List.map_cons, List.map_nil]; rfl) ?_
    with_reducible refine ((tpaths_nil _)).mono ?_
    rintro e u5 ⟨rfl, hbx⟩
    refine ⟨_, rfl, ?_⟩
    have hB := hB.trans (hbx.mono hB.size)
    clear hbx
    refine hK.out _ _ ⟨(HYC.out _ hB), (HAB.out _ hB)⟩ (fun hHeld => ?_)
    clear hK K
    refine norm_ (a' := ?_) ?_ ?_
    rotate_left
    ·show Act.put _ (some 125) _ = _
     simp only [Act.put, sA, sZ, sS, i64_w, i32_w]
     rfl
    refine py_ 27 126 (bs 46 268435455) rfl rfl (by kernel_rfl) (fun _ _ _ h => h) (by rfl) (fun w' => by go_simp; with_reducible rfl) (by simp only [Act.put, sA, sZ, sS, i64_w, i32_w]; rfl) ?_
    refine py_ 28 127 (bs 46 536870911) rfl rfl (by kernel_rfl) (fun _ _ _ h => h) (by rfl) (fun w' => by go_simp; with_reducible rfl) (by simp only [Act.put, sA, sZ, sS, i64_w, i32_w]; rfl) ?_
    refine py_ 29 128 (bs 46 1073741823) rfl rfl (by kernel_rfl) (fun _ _ _ h => h) (by rfl) (fun w' => by go_simp; with_reducible rfl) (by simp only [Act.put, sA, sZ, sS, i64_w, i32_w]; rfl) ?_
    refine py_ 30 129 (bs 46 2147483647) rfl rfl (by kernel_rfl) (fun _ _ _ h => h) (by rfl) (fun w' => by go_simp; with_reducible rfl) (by simp only [Act.put, sA, sZ, sS, i64_w, i32_w]; rfl) ?_
    refine py_ 31 130 (bs 46 4294967295) rfl rfl (by kernel_rfl) (fun _ _ _ h => h) (by rfl) (fun w' => by go_simp; with_reducible rfl) (by simp only [Act.put, sA, sZ, sS, i64_w, i32_w]; rfl) ?_
    refine one_ (i := 32) (N := some 131) (bs 46 8589934591) rfl rfl (by kernel_rfl) (by decide) (fun K hK => ?_)
    refine goes_ Tryz.func17 (by kernel_rfl) rfl #[.pointer none] (by rfl) rfl rfl (by simp only [List.map_toArray, List.map_cons, List.map_nil]; rfl) ?_
    with_reducible refine ((tcopy_nil _)).mono ?_
    rintro e u6 ⟨rfl, hbx⟩
    refine ⟨_, rfl, ?_⟩
    have hB := hB.trans (hbx.mono hB.size)
    clear hbx
    refine hK.out _ _ ⟨(HYC.out _ hB), (HAB.out _ hB)⟩ (fun hHeld => ?_)
    clear hK K
    refine norm_ (a' := ?_) ?_ ?_
    rotate_left
    ·show Act.put _ (some 131) _ = _
     simp only [Act.put, sA, sZ, sS, i64_w, i32_w]
     rfl
    refine py_ 33 132 (bs 46 17179869183) rfl rfl (by kernel_rfl) (fun _ _ _ h => h) (by rfl) (fun w' => by go_simp; with_reducible rfl) (by simp only [Act.put, sA, sZ, sS, i64_w, i32_w]; rfl) ?_
    refine py_ 34 133 (bs 46 34359738367) rfl rfl (by kernel_rfl) (fun _ _ _ h => h) (by rfl) (fun w' => by go_simp; with_reducible rfl) (by simp only [Act.put, sA, sZ, sS, i64_w, i32_w]; rfl) ?_
    refine py_ 35 134 (bs 46 68719476735) rfl rfl (by kernel_rfl) (fun _ _ _ h => h) (by rfl) (fun w' => by go_simp; with_reducible rfl) (by simp only [Act.put, sA, sZ, sS, i64_w, i32_w]; rfl) ?_
    refine py_ 36 135 (bs 46 137438953471) rfl rfl (by kernel_rfl) (fun _ _ _ h => h) (by rfl) (fun w' => by go_simp; with_reducible rfl) (by simp only [Act.put, sA, sZ, sS, i64_w, i32_w]; rfl) ?_
    refine py_ 38 137 (bs 46 412316860415) rfl rfl (by kernel_rfl) (fun _ _ _ h => h) (by rfl) (fun w' => by go_simp; with_reducible rfl) (by simp only [Act.put, sA, sZ, sS, i64_w, i32_w]; rfl) ?_
    refine one_ (i := 37) (N := some 136) (bs 46 549755813887) rfl rfl (by kernel_rfl) (by decide) (fun K hK => ?_)
    refine goes_ Tryz.func20 (by kernel_rfl) rfl #[.pointer none] (by rfl) rfl rfl (by simp only [List.map_toArray, List.map_cons, List.map_nil]; rfl) ?_
    with_reducible refine ((topen_nil _)).mono ?_
    rintro e u7 ⟨rfl, hbx⟩
    refine ⟨_, rfl, ?_⟩
    have hB := hB.trans (hbx.mono hB.size)
    clear hbx
    refine hK.out _ _ ⟨(HYC.out _ hB), (HAB.out _ hB)⟩ (fun hHeld => ?_)
    clear hK K
    refine norm_ (a' := ?_) ?_ ?_
    rotate_left
    ·show Act.put _ (some 136) _ = _
     simp only [Act.put, sA, sZ, sS, i64_w, i32_w]
     rfl
    refine py_ 39 138 (bs 46 1099511627775) rfl rfl (by kernel_rfl) (fun _ _ _ h => h) (by rfl) (fun w' => by go_simp; with_reducible rfl) (by simp only [Act.put, sA, sZ, sS, i64_w, i32_w]; rfl) ?_
    refine py_ 40 139 (bs 46 2199023255551) rfl rfl (by kernel_rfl) (fun _ _ _ h => h) (by rfl) (fun w' => by go_simp; with_reducible rfl) (by simp only [Act.put, sA, sZ, sS, i64_w, i32_w]; rfl) ?_
    refine py_ 41 140 (bs 46 4398046511103) rfl rfl (by kernel_rfl) (fun _ _ _ h => h) (by rfl) (fun w' => by go_simp; with_reducible rfl) (by simp only [Act.put, sA, sZ, sS, i64_w, i32_w]; rfl) ?_
    refine py_ 42 141 (bs 46 8796093022207) rfl rfl (by kernel_rfl) (fun _ _ _ h => h) (by rfl) (fun w' => by go_simp; with_reducible rfl) (by simp only [Act.put, sA, sZ, sS, i64_w, i32_w]; rfl) ?_
    refine py_ 43 142 (bs 46 17592186044415) rfl rfl (by kernel_rfl) (fun _ _ _ h => h) (by rfl) (fun w' => by go_simp; with_reducible rfl) (by simp only [Act.put, sA, sZ, sS, i64_w, i32_w]; rfl) ?_
    refine py_ 44 143 (bs 46 35184372088831) rfl rfl (by kernel_rfl) (fun _ _ _ h => h) (by rfl) (fun w' => by go_simp; with_reducible rfl) (by simp only [Act.put, sA, sZ, sS, i64_w, i32_w]; rfl) ?_
    refine py_ 45 4 (bs 46 70368744177663) rfl rfl (by kernel_rfl) (fun _ _ _ h => h) (by rfl) (fun w' => by go_simp; with_reducible rfl) (by simp only [Act.put, sA, sZ, sS, i64_w, i32_w]; rfl) ?_
    refine done_ (by kernel_rfl) ?_
    have HF := Lib.hid (HBW.out.trans ((HB6.out.trans (hB.mono HB6.out.size)).mono HBW.out.size))
    clear hB hHeld
    go_wp2
    go_ret
    exact ⟨by simp, HF.out⟩
end Go.Proofs.YtpkhglfhpggceaaGreatDoor
namespace Go.Proofs.YtpkhglfhpggceaaGreatDoor.treeOwn
set_option maxRecDepth 100000
set_option maxHeartbeats 16000000
open Go.ChangeShapes Go.WideShapes Go.ChangeAt Go.RowKit
set_option linter.unusedVariables false
theorem laid_met (os : Os) : laidMet Tryz.prog Rows.treeOwnRow.laid ((laidWorld os).forCall (fun _ _ => 0) ⟨#[], #[.slice none 0 0, .slice none 0 0], []⟩).memory :=
 laidMet_of_run' 8 (by kernel_rfl) (by kernel_rfl)
theorem reads (os : Os) {H : Type} (enc : TypeId × Value → H) : ∃ places, DataW.whole enc Tryz.prog ((laidWorld os).forCall (fun _ _ => 0) ⟨#[], #[.slice none 0 0, .slice none 0 0], []⟩).memory Tryz.f4.params.toList Rows.treeOwnSpec.vars false #[Value.slice none 0 0, .slice none 0 0].toList 8 = some ([.nil, .nil], [], places) :=
 ⟨[], by kernel_rfl⟩
theorem lifted (os : Os) (started : os.Started) (H : Type) (enc : TypeId × Value → H) (F : Stop.Interp) :
  ReturnsInHanded {} Tryz.checked os 4 .any ((OpenSpec.ofChange Rows.treeOwnSpec).preRow enc Tryz.prog Tryz.f4 Rows.treeOwnRow.domain false Rows.treeOwnRow.laid) (((OpenSpec.ofChange Rows.treeOwnSpec).at F).post enc Tryz.prog Tryz.f4 false true false false) := by
 obtain ⟨places, hx⟩ := reads os enc
 refine returnsInHanded_of_row (C := Tryz.checked) (s := OpenSpec.ofChange Rows.treeOwnSpec) own started (by kernel_rfl) Tryz.func4
  (witness_row_at (enc := enc) (C := Tryz.checked) false (laidWorld os) #[.slice none 0 0, .slice none 0 0] rfl (by kernel_rfl) (by kernel_rfl) (by kernel_rfl)
   (OpenSpec.preRow_of_cond 8 hx (by kernel_rfl) (fun k hk => by cases hk) (by kernel_rfl) (laid_met os))) ?_
 intro W base args ds gs before hval0 hW _ _ hsz hL hS _
 have hval : ∀ (j : Nat) t v, Tryz.f4.params[j]? = some t → args[j]? = some v → Value.okWide Tryz.prog W .any base t v := hval0
 have hS' : W.ShapedOpen Tryz.prog := hS
 have hm := maxLen_cell hS'
 have hW' := hW
 obtain ⟨p, q, hA0, hV, rfl, hfz, hnd⟩ := hW
 have hA : DataW.TrodAll enc Tryz.prog W 0 (fun _ => true) true Tryz.f4.params.toList args.toList ds p := hA0
 have hwt : (DataW.weightsEach Tryz.prog (Tryz.f4.params.toList ++ (OpenSpec.ofChange Rows.treeOwnSpec).bare.plain.varTypes Tryz.prog) (ds ++ gs)).all (· ≤ reachBytes) = true := hsz
 rw [Tryz.params4] at hA hval hwt
 obtain ⟨v0, vs0, d0, ds0, p0, q0, hargs, rfl, rfl, h0, r0⟩ := trodAll_cons hA
 obtain ⟨v1, vs1, d1, ds1, p1, q1, hargs1, rfl, rfl, h1, r1⟩ := trodAll_cons r0
 obtain ⟨rfl, rfl, rfl⟩ := trodAll_nil r1
 obtain rfl : args = #[v0, v1] := by cases args; simp_all
 obtain ⟨rfl, rfl⟩ := trodVars_none hV
 have k0 := h0
 have k1 := h1
 have lt0 : ∀ x ∈ p0, x.block < W.heap.size := by obtain ⟨n, hn⟩ := k0; exact DataW.trod_lt n _ _ _ hn
 have lt1 : ∀ x ∈ p1, x.block < W.heap.size := by obtain ⟨n, hn⟩ := k1; exact DataW.trod_lt n _ _ _ hn
 have hw0 : ∀ n ∈ d0.weights Tryz.prog 22, n ≤ reachBytes := fun n hn => by
  have := List.all_eq_true.1 hwt n (DataW.weights_mem_each (j := 0) (t := 22) (d := d0) rfl rfl n hn)
  simpa using this
 obtain ⟨A0, n0, c0, l0, rfl, ha0, hn0, hc0⟩ := acts_open (hval 0 22 v0 rfl rfl) h0 hw0
 have hw1 : ∀ n ∈ d1.weights Tryz.prog 22, n ≤ reachBytes := fun n hn => by
  have := List.all_eq_true.1 hwt n (DataW.weights_mem_each (j := 1) (t := 22) (d := d1) rfl rfl n hn)
  simpa using this
 obtain ⟨A1, n1, c1, l1, rfl, ha1, hn1, hc1⟩ := acts_open (hval 1 22 v1 rfl rfl) h1 hw1
 clear hA0 hval0
 refine (own_any A0 n0 c0 l0 A1 n1 c1 l1 W ha0 hn0 hc0 ha1 hn1 hc1 hm).mono fun e W' ⟨he, bel⟩ => ?_
 subst he
 exact ⟨_, rfl, _, _, _, [], _, [], hW', trodAll_mk1 (shut_bool Tryz.underlying4 _),
  (trodAll_cons_mk (Below.trod laidOut (by kernel_rfl) (of_decide_eq_true (by kernel_rfl)) k0 bel lt0) (trodAll_cons_mk (Below.trod laidOut (by kernel_rfl) (of_decide_eq_true (by kernel_rfl)) k1 bel lt1) trodAll_mk0)), rfl, bel.frame _, fun h => by cases h⟩
theorem said : Rows.TreeOwnSaid :=
 OpenClaim.holds_of_cond 4 Tryz.f4 rfl rfl rfl rfl rfl rfl rfl ⟨rfl, rfl, rfl, rfl, rfl⟩ rfl rfl rfl rfl rfl (by kernel_rfl) Tryz.func4 (by kernel_rfl)
  (of_decide_eq_true (by kernel_rfl)) (by unfold Func.isWrapper; first | (rw [if_pos (by decide +kernel)]; kernel_rfl) | (rw [if_neg (by decide +kernel)]; exact ⟨rfl, rfl⟩))
  (fun os started H enc _ F => by rw [OpenClaim.pre_eq_preRow]; exact lifted os started H enc F)
theorem plain (f : FuncId) (fn : Func) (hf : Tryz.pinned.checked.prog.funcNamed "scupper/scupperlaw25.TreeOwn" = some f) (hfn : Tryz.pinned.checked.prog.funcs[f]? = some fn) :
  true = Tryz.pinned.checked.prog.looks [] ∧ ∀ (j : Nat) t, fn.params[j]? = some t → Tryz.pinned.checked.prog.wantsStandIn t = false := by
 obtain rfl : f = 4 := Option.some.inj ((show Tryz.prog.funcNamed "scupper/scupperlaw25.TreeOwn" = some 4 by kernel_rfl).symm.trans hf) |>.symm
 obtain rfl : fn = Tryz.f4 := (Option.some.inj (Tryz.func4.symm.trans hfn)).symm
 refine ⟨by kernel_rfl, fun j t ht => ?_⟩
 rw [Tryz.params4] at ht
 obtain rfl : t = 22 := by simpa using Array.mem_of_getElem? ht
 exact (show Tryz.prog.wantsStandIn 22 = false by kernel_rfl)
theorem card : Rows.TreeOwnCardSaid :=
 Claim7.holds_tied_plain_at .later [] _ _ _ _ said (fun _ h => by cases h) (by kernel_rfl) (fun _ h => by cases h) treeOwn_row_tie rfl ⟨rfl, rfl⟩ (by kernel_rfl) rfl plain (by kernel_rfl)
#print axioms card
end Go.Proofs.YtpkhglfhpggceaaGreatDoor.treeOwn
