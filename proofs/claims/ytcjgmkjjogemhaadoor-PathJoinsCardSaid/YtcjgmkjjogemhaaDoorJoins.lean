/- The walk of the law PathJoins: it answers true. -/
import Derived.Test.YtcjgmkjjogemhaaDoorBack
import Derived.Laws.AppendOwnNone
namespace Go.Proofs.YtcjgmkjjogemhaaDoor
open Go.RowKit

theorem Built.form {B : Nat} {w : World} {v : Value} {l : List ByteArray} (h : Built B w v l) : (v = .slice none 0 0 ∧ l = []) ∨ ∃ g cap, v = .slice (some ⟨g, 0, none⟩) l.length cap := by
  rcases h.2 with ⟨hv, h0⟩ | ⟨g, cap, cur, hv, _⟩
  · exact .inl ⟨hv, List.eq_nil_of_length_eq_zero h0⟩
  · exact .inr ⟨g, cap, hv⟩
theorem Texts.news {B : Nat} {w w' : World} {ad : Addr} {n c : Nat} {l : List ByteArray} (h : Texts B w (.slice (some ad) n c) l) (hb : Below w.heap.size w w') :
    ∀ (j : Nat) (x : Value), (l.map Value.string)[j]? = some x → w'.cell? (ad.add j) = some x := by
  obtain ⟨A, c', e1, hlc, hcm, hA⟩ := h
  injection e1 with e1 e2 e3
  subst e1 e2 e3
  intro j x hx
  rw [List.getElem?_map] at hx
  obtain ⟨y, hy, rfl⟩ := Option.map_eq_some_iff.1 hx
  obtain ⟨g, off, eA, _, hg, hc⟩ := hA j y hy
  injection eA with eA
  subst eA
  have e1 : (⟨g, off, none⟩ : Addr).add j = ⟨g, off + j, none⟩ := by unfold Addr.add; split <;> simp_all
  rw [e1]
  exact (hb.cell (p := ⟨g, off + j, none⟩) hg).trans hc
theorem strings_one {l : List ByteArray} : ∀ x ∈ l.map Value.string, x.oneCell' = true := by
  intro x hx
  obtain ⟨y, _, rfl⟩ := List.mem_map.1 hx
  simp [Value.oneCell']
theorem insideB_app (A B : List ByteArray) : insideB A (A ++ B) = decide (0 < B.length) := by
  unfold insideB
  rw [List.length_append, List.take_left]
  simp

/-- An operation under a guard that holds: as without one. -/
theorem wpList_wanted {P : Program} {ops : Array Oper} {Q : Exit → Act → World → Prop} {a : Act} {w : World} {rest : List Oper} {o : Oper} (hw : Region.wanted o (yielded ops a.tmps) = true)
    (h : ∀ K : Act → World → Prop, (∀ a w, wpList P ops Q rest a w → K a w) → o.wp P a w K Q) : wpList P ops Q (o :: rest) a w :=
  wpList_step fun K hK => by rw [hw]; simp only [if_true]; exact h K hK
theorem wp_append_own_none {P : Program} {w : World} {o : Oper} {a : Act} {K : Act → World → Prop} {Q : Exit → Act → World → Prop} (s x : Operand) (t : TypeId)
    (ho : o.op = .call { callee := .builtin .append, args := #[s, x], argTypes := #[t, t] })
    (base : Nat) (e : TypeId) (i : TypeInfo) (size : Nat) (ht : P.underlying t = some (.slice e)) (hi : P.info? e = some i)
    (v : Value) (n : Nat) (xs : List Value) (hs : a.eval s = v) (hown : w.ownsRow base e size v n xs) (hx : a.eval x = .slice none 0 0) (h : K (a.put o.dst v) w) : o.wp P a w K Q := by
  have hrun := run_append_owned_none (P := P) (w := w) base t o.type e i size ht hi v n xs hown
  unfold Oper.wp
  simp [execOp, ho, resolve, invoke, builtin, hs, hx, hrun, Result.andThen]
  exact h

set_option maxHeartbeats 1000000 in
theorem joins_any (a b : Value) (la lb : List ByteArray) (w : World) (m : Int) (ha : Texts 0 w a la) (hb : Texts 0 w b lb)
    (sa : ∀ u ∈ la, u.size ≤ 9223372036854775807) (sb : ∀ u ∈ lb, u.size ≤ 9223372036854775807)
    (hm : w.cell? ⟨0, 0, none⟩ = some (.int .i64 m)) (hB : 0 < w.heap.size) :
    Calls Tryd.prog 7 #[a, b] w fun e w' => e = .returned (.bool true) ∧ Below w.heap.size w w' := by
  obtain ⟨i0, hi0, hz0, hz1, hz2⟩ := info_parts info9
  have HM := Lib.hid hm
  have SB := Lib.hid sb
  have Hb := Lib.hid hb
  have K1 := Lib.hid (few_any a la w ha sa)
  clear hm sa sb ha hb
  go_enter Tryd.func7, Tryd.ntmps7
  go_wp2_with fail
  refine K1.out.mono ?_
  rintro e w1 ⟨ra, rfl, ra1, hb1⟩
  have HB1 := Lib.hid hb1
  have TA1 := Lib.hid (ra1.texts.mono (B' := 0) (Nat.zero_le _))
  have Hb1 := Lib.hid (Hb.out.below hb1)
  clear hb1 ra1 Hb K1
  go_wp2_with fail
  refine (few_any b lb w1 (by exact Hb1.out) SB.out).mono ?_
  rintro e w2 ⟨rb, rfl, rb1, hb2⟩
  have HB2 := Lib.hid (HB1.out.trans (hb2.mono HB1.out.size))
  have TA2 := Lib.hid (TA1.out.below hb2)
  have TB2 := Lib.hid (rb1.texts.mono (B' := 0) (Nat.zero_le _))
  have HFB := Lib.hid rb1.form
  clear hb2 rb1 Hb1 TA1 HB1
  go_wp2_with fail
  refine (few_again ra la w2 (by exact TA2.out)).mono ?_
  rintro e w3 ⟨sa, rfl, sa1, hb3⟩
  have HB3 := Lib.hid (HB2.out.trans (hb3.mono HB2.out.size))
  have TA3 := Lib.hid (TA2.out.below hb3)
  have TB3 := Lib.hid (TB2.out.below hb3)
  have SA3 := Lib.hid sa1.texts
  have hls := Lib.hid fun u (hu : u ∈ fewL la) => show u.size ≤ 9223372036854775807 from by have := fewL_size hu; omega
  have hla := fewL_len la
  have hlb := fewL_len lb
  clear hb3 sa1 TA2 TB2 HB2
  go_wp2_with fail
  refine (pjoin_any sa (fewL la) w3 SA3.out hls.out).mono ?_
  rintro e w4 ⟨rfl, hb4⟩
  have HB4 := Lib.hid (HB3.out.trans (hb4.mono HB3.out.size))
  have TA4 := Lib.hid (TA3.out.below hb4)
  have TB4 := Lib.hid (TB3.out.below hb4)
  have HJ := Lib.hid (rjoin_any ra (fewL la) w4 TA4.out hls.out (by omega))
  clear hb4 TA3 TB3 HB3 SA3
  generalize (joinN (fewL la)).1 = js at *
  generalize (joinN (fewL la)).2 = jq at *
  have t1 : (js.toList == js.toList) = true := by simp
  have t2 : (jq == jq) = true := by simp
  go_wp2_with fail
  refine HJ.out.mono ?_
  rintro e w' ⟨rfl, rfl⟩
  clear HJ
  go_wp2_with fail
  refine (few_again ra la _ (by exact TA4.out)).mono ?_
  rintro e w5 ⟨sa2, rfl, sa2b, hb5⟩
  have HB5 := Lib.hid (HB4.out.trans (hb5.mono HB4.out.size))
  have TA5 := Lib.hid (TA4.out.below hb5)
  have TB5 := Lib.hid (TB4.out.below hb5)
  have SA5 := Lib.hid (sa2b.texts.mono (B' := 0) (Nat.zero_le _))
  clear hb5 sa2b TA4 TB4 HB4
  go_wp2_with fail
  refine (few_again rb lb w5 (by exact TB5.out)).mono ?_
  rintro e w6 ⟨sb2, rfl, sb2b, hb6⟩
  have HB6 := Lib.hid (HB5.out.trans (hb6.mono HB5.out.size))
  have TA6 := Lib.hid (TA5.out.below hb6)
  have TB6 := Lib.hid (TB5.out.below hb6)
  have SA6 := Lib.hid (SA5.out.below hb6)
  have SB6 := Lib.hid (sb2b.texts.mono (B' := 0) (Nat.zero_le _))
  clear hb6 sb2b TA5 TB5 HB5 SA5
  go_wp2_with fail
  refine (inside_any sa2 sb2 _ _ w6 SA6.out SB6.out).mono ?_
  rintro e w7 ⟨rfl, n7, rfl⟩
  go_wp2_with fail
  refine (rinside_any ra rb _ _ _ (by exact TA6.out) (by exact TB6.out)).mono ?_
  rintro e w8 ⟨rfl, n8, rfl⟩
  generalize insideB (fewL la) (fewL lb) = x at *
  have t3 : (x == x) = true := by simp
  clear SA6 SB6
  go_wp2_with fail
  refine (few_again ra la _ (by exact TA6.out)).mono ?_
  rintro e w9 ⟨sa3, rfl, sa3b, hb9⟩
  have HB9 := Lib.hid (below_drawn HB6.out hb9)
  have TA9 := Lib.hid (TA6.out.below (show Below w6.heap.size w6 w9 from ⟨hb9.os, hb9.tape, hb9.output, hb9.size, hb9.block⟩))
  have TB9 := Lib.hid (TB6.out.below (show Below w6.heap.size w6 w9 from ⟨hb9.os, hb9.tape, hb9.output, hb9.size, hb9.block⟩))
  have SA9 := Lib.hid (sa3b.texts.mono (B' := 0) (Nat.zero_le _))
  clear hb9 sa3b TA6 TB6 HB6
  go_wp2_with fail
  refine (few_again ra la _ (by exact TA9.out)).mono ?_
  rintro e w10 ⟨sa4, rfl, sa4b, hb10⟩
  have HB10 := Lib.hid (HB9.out.trans (hb10.mono HB9.out.size))
  have TB10 := Lib.hid (TB9.out.below hb10)
  have SA10 := Lib.hid (SA9.out.below hb10)
  have HO := Lib.hid sa4b
  have hw9 := HB9.out.size
  have hw10 := hb10.size
  have HX := Lib.hid hb10
  clear hb10 sa4b TB9 HB9 TA9
  rcases HFB.out with ⟨rfl, hnil⟩ | ⟨g, cap, rfl⟩
  · have HI := Lib.hid (insideB_self (fewL la))
    clear hnil HFB TB10 SA9 HX
    go_wp2_with (at_builtin; (refine wpList_wanted (by rfl) fun K hK => wp_append_own_none (.tmp 47) (.tmp 48) 22 rfl w9.heap.size 9 i0 1 Tryd.underlying22 hi0 _ _ _ rfl HO.out rfl (hK _ _ ?_)))
    have HT := Lib.hid HO.out.texts
    clear HO
    go_wp2_with fail
    refine (inside_any sa3 sa4 _ _ w10 SA10.out HT.out).mono ?_
    rintro e w11 ⟨rfl, n11, rfl⟩
    rw [HI.out]
    go_wp2_with fail
    refine (works_any _ m (by exact (HB10.out.cell (p := ⟨0, 0, none⟩) hB).trans HM.out) (by exact Nat.lt_of_lt_of_le hB HB10.out.size)).mono ?_
    rintro e w12 ⟨rfl, hb12⟩
    have HF := Lib.hid (below_drawn HB10.out hb12)
    clear hb12
    go_wp2_with fail
    go_ret
    exact ⟨rfl, HF.out⟩
  · have HN := Lib.hid (TB10.out.news (Below.refl _ _))
    clear HFB
    go_wp2_with (at_builtin; (refine wpList_wanted (by rfl) fun K hK => wp_append_own _ (.tmp 47) (.tmp 48) 22 rfl w9.heap.size 9 i0 (.string ByteArray.empty) 1 16 Tryd.underlying22 hi0 hz0 hz1 hz2 rfl (by decide) _ _ _ rfl HO.out ⟨g, 0, none⟩ (fewL lb).length cap ((fewL lb).map Value.string) rfl ?f0 ?f1 ?f2 ?f3 ?f4 ?f5 (fun v2 w11 hown hgrow hnil => hK _ _ ?f6)))
    case f0 => simp
    case f1 => exact HN.out
    case f2 => exact strings_one
    case f3 => simp only [maxLen]; omega
    case f4 => omega
    case f5 => exact hw10
    have HT := Lib.hid (show Texts w9.heap.size w11 v2 (fewL la ++ fewL lb) from Texts.of_own (e := 9) (n := (fewL la).length + (fewL lb).length) (by rw [List.map_append]; exact hown))
    have HB11 := Lib.hid (HB10.out.grown hgrow (by omega) (fun j hj => by have := (HO.out.lt j hj).1; omega))
    have SA11 := Lib.hid (SA9.out.below (HX.out.grown hgrow hw10 (fun j hj => (HO.out.lt j hj).1)))
    clear hown hgrow hnil HN HX SA9 SA10 HO TB10 HB10
    rcases Nat.eq_zero_or_pos (fewL lb).length with hz | hz
    · have HI := Lib.hid (show insideB (fewL la) (fewL la ++ fewL lb) = false by rw [insideB_app, hz]; rfl)
      rw [hz]
      clear hz
      go_wp2_with fail
      refine (inside_any sa3 v2 _ _ w11 SA11.out HT.out).mono ?_
      rintro e w12 ⟨rfl, n12, rfl⟩
      rw [HI.out]
      go_wp2_with fail
      refine (works_any _ m (by exact (HB11.out.cell (p := ⟨0, 0, none⟩) hB).trans HM.out) (by exact Nat.lt_of_lt_of_le hB HB11.out.size)).mono ?_
      rintro e w13 ⟨rfl, hb13⟩
      have HF := Lib.hid (below_drawn HB11.out hb13)
      clear hb13
      go_wp2_with fail
      go_ret
      exact ⟨rfl, HF.out⟩
    · have HI := Lib.hid (show insideB (fewL la) (fewL la ++ fewL lb) = true by rw [insideB_app]; exact decide_eq_true hz)
      have hz2 : (0 : Int) < ((fewL lb).length : Int) := by omega
      generalize (fewL lb).length = z at *
      clear hz
      go_wp2_with fail
      refine (inside_any sa3 v2 _ _ w11 SA11.out HT.out).mono ?_
      rintro e w12 ⟨rfl, n12, rfl⟩
      rw [HI.out]
      go_wp2_with fail
      refine (works_any _ m (by exact (HB11.out.cell (p := ⟨0, 0, none⟩) hB).trans HM.out) (by exact Nat.lt_of_lt_of_le hB HB11.out.size)).mono ?_
      rintro e w13 ⟨rfl, hb13⟩
      have HF := Lib.hid (below_drawn HB11.out hb13)
      clear hb13
      go_wp2_with fail
      go_ret
      exact ⟨rfl, HF.out⟩
end Go.Proofs.YtcjgmkjjogemhaaDoor
