/- The walk of the law PathLast: it answers true. -/
import Derived.Test.YtcjgmkjjogemhaaDoorBack
import Derived.Laws.AppendOwnNone
namespace Go.Proofs.YtcjgmkjjogemhaaDoor
open Go.RowKit

def LastPost2 (p : ByteArray) (w : World) (e : Ending) (w' : World) : Prop :=
  ∃ v, e = .returned (.tuple #[v, .string (lastN p).2.1, .int .i64 (lastN p).2.2]) ∧ Texts w.heap.size w' v (lastN p).1 ∧ Below w.heap.size w w' ∧ ((lastN p).2.2 = 0 → ∃ ad n c, v = .slice (some ad) n c)

set_option maxHeartbeats 400000 in
theorem plast2_any (p : ByteArray) (w : World) (m : Int) (hs : p.size ≤ 100000) (hm : w.cell? ⟨0, 0, none⟩ = some (.int .i64 m)) :
    Calls Tryd.prog 10 #[.string p] w (LastPost2 p w) := by
  have hC := Lib.hid (psplit_any p w m hs hm)
  have hcases := lastN_cases p
  clear hm
  rcases hcases with ⟨h1, h2⟩ | ⟨h1, h0, h2⟩ | ⟨n, u, h1, h0, hu, h2⟩
  · have HF := Lib.hid h2
    have ht : ((splitN p).2 != 0) = true := bne_iff_ne.2 h1
    have HQ := Lib.hid h1
    clear h1 h2
    go_enter Tryd.func10, Tryd.ntmps10
    go_wp2_with fail
    refine hC.out.mono ?_
    rintro e w1 ⟨v, rfl, ⟨A, c, rfl, hlc, hcm, hA⟩, hb1⟩
    have HB := Lib.hid hb1
    clear hA hb1 hC
    generalize (splitN p).2 = q at *
    generalize (splitN p).1.length = z at *
    go_wp2_with fail
    go_ret3
    exact ⟨_, by rw [HF.out]; rfl, by rw [HF.out]; exact Texts.nil _ _, HB.out, fun h => by rw [HF.out] at h; exact absurd h HQ.out⟩
  · have HF := Lib.hid h2
    have H0 := Lib.hid h0
    have H1 := Lib.hid h1
    clear h1 h2 h0
    go_enter Tryd.func10, Tryd.ntmps10
    go_wp2_with fail
    refine hC.out.mono ?_
    rintro e w1 ⟨v, rfl, ⟨A, c, rfl, hlc, hcm, hA⟩, hb1⟩
    have HB := Lib.hid hb1
    clear hA hb1 hC
    rw [H1.out, H0.out]
    go_wp2_with fail
    go_ret3
    exact ⟨_, by rw [HF.out]; rfl, by rw [HF.out]; exact Texts.nil _ _, HB.out, fun h => by rw [HF.out] at h; exact absurd h (by decide)⟩
  · have HF := Lib.hid h2
    have H0 := Lib.hid h0
    have H1 := Lib.hid h1
    have HU := Lib.hid hu
    clear h1 h2 h0 hu
    go_enter Tryd.func10, Tryd.ntmps10
    go_wp2_with fail
    refine hC.out.mono ?_
    rintro e w1 ⟨v, rfl, ⟨A, c, rfl, hlc, hcm, hA⟩, hb1⟩
    obtain ⟨g, o, eA, hg0, hg1, hc⟩ := hA n u HU.out
    subst eA
    have HT := Lib.hid (texts_take hA H0.out hlc hcm)
    have HB := Lib.hid hb1
    clear hA hb1 hC
    rw [H0.out] at hlc
    rw [H1.out, H0.out]
    unfold maxLen at hcm
    have i1 : (0 : Int) ≤ (n : Int) := by omega
    have i2 : (n : Int) ≤ (c : Int) := by omega
    have i3 : (n : Int) < ((n + 1 : Nat) : Int) := by omega
    have i4 : IntKind.i64.wrap ((n : Int) + 1 - 1) = (n : Int) := IntWalk.i64_in _ (by omega) |>.trans (by omega)
    go_wp2_with fail
    go_quiet (fail)
    go_wp2
    go_ret3
    exact ⟨_, by rw [HF.out]; rfl, by rw [HF.out]; exact HT.out, ⟨HB.out.os, HB.out.tape, HB.out.output, HB.out.size, HB.out.block⟩, fun _ => ⟨_, _, _, rfl⟩⟩


theorem lastN_ok {p : ByteArray} (h : (lastN p).2.2 = 0) : joinN ((lastN p).1 ++ [(lastN p).2.1]) = (p, 0) ∧ (∀ u ∈ (lastN p).1 ++ [(lastN p).2.1], u.size ≤ 9223372036854775807) ∧ (lastN p).1.length ≤ 16 := by
  rcases lastN_cases p with ⟨h1, h2⟩ | ⟨h1, h0, h2⟩ | ⟨n, u, h1, h0, hu, h2⟩
  · rw [h2] at h; exact absurd h h1
  · rw [h2] at h; exact absurd h (by decide)
  · obtain ⟨hj, hc⟩ := join_split h1
    have e : (lastN p).1 ++ [(lastN p).2.1] = (splitN p).1 := by
      rw [h2]
      show (splitN p).1.take n ++ [u] = _
      have := List.take_add_one (l := (splitN p).1) (i := n)
      rw [hu, List.take_of_length_le (by omega)] at this
      exact this.symm
    rw [e]
    refine ⟨hj, names_size hc, ?_⟩
    have := (checkL_all hc).2
    rw [h2]
    show ((splitN p).1.take n).length ≤ 16
    simp; omega

set_option maxHeartbeats 1000000 in
theorem lasts_any (s : ByteArray) (w : World) (m : Int) (_hs : s.size ≤ 9223372036854775807) (hm : w.cell? ⟨0, 0, none⟩ = some (.int .i64 m)) (hB : 0 < w.heap.size) :
    Calls Tryd.prog 6 #[.string s] w fun e w' => e = .returned (.bool true) ∧ Below w.heap.size w w' := by
  obtain ⟨i0, hi0, hz0, hz1, hz2⟩ := info_parts info9
  have HM := Lib.hid hm
  have hlo : (0 : Int) ≤ (s.size : Int) := by omega
  have HZ := Lib.hid (cut_size s)
  clear hm
  go_enter Tryd.func6, Tryd.ntmps6
  go_wp2_with fail
  generalize s.extract 0 (min (s.size : Int) 400).toNat = p at *
  refine (plast2_any p w m (by have := HZ.out; omega) HM.out).mono ?_
  rintro e w1 ⟨va, rfl, hT1, hb1, hA1⟩
  have HB1 := Lib.hid hb1
  have HT1 := Lib.hid (hT1.mono (B' := 0) (Nat.zero_le _))
  have HA1 := Lib.hid hA1
  clear hT1 hb1 hA1
  go_wp2_with fail
  refine (rlast_any p w1 (by have := HZ.out; omega)).mono ?_
  rintro e w2 ⟨vb, rfl, hT2, hb2⟩
  have HB2 := Lib.hid (HB1.out.trans (hb2.mono HB1.out.size))
  have HT1b := Lib.hid (HT1.out.below hb2)
  have HT2 := Lib.hid (hT2.mono (B' := 0) (Nat.zero_le _))
  have HM2 := Lib.hid ((HB2.out.cell (p := ⟨0, 0, none⟩) hB).trans HM.out)
  have hB2 : 0 < w2.heap.size := Nat.lt_of_lt_of_le hB HB2.out.size
  have HK := Lib.hid (fun h => lastN_ok (p := p) h)
  clear hT2 hb2 HT1 HB1
  generalize (lastN p).1 = l at *
  generalize (lastN p).2.1 = u at *
  generalize (lastN p).2.2 = q at *
  have t1 : (u.toList != u.toList) = false := by simp
  have t2 : (q != q) = false := by simp
  go_wp2_with fail
  refine (sameTexts_any va vb l l w2 HT1b.out HT2.out).mono ?_
  rintro e w3 ⟨rfl, n3, rfl⟩
  rw [decide_eq_true rfl]
  by_cases hq : q = 0
  · obtain ⟨ad, n, c, rfl⟩ := HA1.out hq
    obtain ⟨hj, hsz, hln⟩ := HK.out hq
    obtain ⟨A, c', e1, hlc, hcm, hA⟩ := HT1b.out
    injection e1 with e1 e2 e3
    subst e1 e2 e3
    have HN := Lib.hid fun (o : Obj) (j : Nat) (x : Value) (hx : (l.map Value.string)[j]? = some x) => show ((w2.drewN n3).alloc o).cell? (ad.add j) = some x from by
      rw [List.getElem?_map] at hx
      obtain ⟨y, hy, rfl⟩ := Option.map_eq_some_iff.1 hx
      obtain ⟨g, off, eA, _, hg, hc⟩ := hA j y hy
      injection eA with eA
      subst eA
      have e1 : (⟨g, off, none⟩ : Addr).add j = ⟨g, off + j, none⟩ := by unfold Addr.add; split <;> simp_all
      rw [e1]
      exact (((Below.refl w2.heap.size (w2.drewN n3)).alloc (Nat.le_refl _) o).cell (p := ⟨g, off + j, none⟩) hg).trans hc
    have HJ := Lib.hid hj
    have HS := Lib.hid hsz
    subst hq
    clear hA hj hsz HK HA1 HT2 HT1b
    go_wp2_with (at_builtin; refine wpList_append_own _ rfl (.tmp 46) (.tmp 47) 22 rfl w2.heap.size 9 i0 (.string ByteArray.empty) 1 16 Tryd.underlying22 hi0 hz0 hz1 hz2 rfl (by decide) _ _ _ rfl (World.ownsRow_made (base := w2.heap.size) (w2.drewN n3) #[] 0 (Nat.le_refl _) (Nat.zero_le _) rfl) ad l.length c (l.map Value.string) rfl ?d0 ?d1 ?d2 ?d3 ?d4 ?d5 ?_)
    case d0 => simp
    case d1 => exact HN.out _
    case d2 => intro x hx; obtain ⟨y, _, rfl⟩ := List.mem_map.1 hx; simp [Value.oneCell']
    case d3 => simp only [maxLen]; omega
    case d4 => omega
    case d5 => simp
    intro v' w4 hown4 hgrow4 _
    have HO4 := Lib.hid hown4
    have hb4 : Below w2.heap.size (w2.drewN n3) w4 := ((Below.refl w2.heap.size (w2.drewN n3)).alloc (Nat.le_refl _) _).grown hgrow4 (by simp) (fun j hj => by cases hj; exact Nat.le_refl _)
    have HB4 := Lib.hid hb4
    clear hown4 hgrow4 hb4
    go_wp2_with (at_builtin; refine wpList_append_own _ rfl (.tmp 48) (.tmp 50) 22 rfl w2.heap.size 9 i0 (.string ByteArray.empty) 1 16 Tryd.underlying22 hi0 hz0 hz1 hz2 rfl (by decide) _ _ _ rfl (HO4.out.alloc _) ⟨w4.heap.size, 0, none⟩ 1 1 [.string u] rfl rfl ?f1 ?f2 ?f3 ?f4 ?f5 ?_)
    case f1 => exact one_new _ _ _
    case f2 => simp [Value.oneCell']
    case f3 => simp only [maxLen]; omega
    case f4 => omega
    case f5 => have := HB4.out.size; simp at this ⊢; omega
    intro v2 w5 hown5 hgrow5 _
    have hT5 : Texts w2.heap.size w5 v2 (l ++ [u]) := Texts.of_own (e := 9) (n := 0 + l.length + 1) (by simpa using hown5)
    have hb5 : Below w2.heap.size (w2.drewN n3) w5 := (HB4.out.alloc HB4.out.size _).grown hgrow5 (by have := HB4.out.size; simp at this ⊢; omega) (fun j hj => (HO4.out.lt j hj).1)
    have HB5 := Lib.hid (below_drawn HB2.out hb5)
    have HT5 := Lib.hid hT5
    clear hown5 hgrow5 hT5 hb5 HO4 HB4 HN
    go_wp2_with fail
    refine (pjoin_any v2 (l ++ [u]) w5 HT5.out HS.out).mono ?_
    rintro e w6 ⟨rfl, hb6⟩
    rw [HJ.out]
    have HB6 := Lib.hid (HB5.out.trans (hb6.mono HB5.out.size))
    have HM6 := Lib.hid ((HB6.out.cell (p := ⟨0, 0, none⟩) hB).trans HM.out)
    have hB6 : 0 < w6.heap.size := Nat.lt_of_lt_of_le hB HB6.out.size
    have t5 : (p.toList == p.toList) = true := by simp
    clear hb6 t1 t2
    go_wp2_with fail
    refine (works_any _ m (by exact HM6.out) (by exact hB6)).mono ?_
    rintro e w7 ⟨rfl, hb7⟩
    have HB7 := Lib.hid (HB6.out.trans (hb7.mono HB6.out.size))
    clear hb7
    go_wp2_with fail
    go_ret
    exact ⟨rfl, HB7.out⟩
  · have hq1 : (q != 0) = true := bne_iff_ne.2 hq
    clear hq
    go_wp2_with fail
    refine (works_any _ m (by exact HM2.out) (by exact hB2)).mono ?_
    rintro e w10 ⟨rfl, hb10⟩
    have HF := Lib.hid (below_drawn HB2.out hb10)
    clear hb10
    go_wp2_with fail
    go_ret
    exact ⟨rfl, HF.out⟩
end Go.Proofs.YtcjgmkjjogemhaaDoor
