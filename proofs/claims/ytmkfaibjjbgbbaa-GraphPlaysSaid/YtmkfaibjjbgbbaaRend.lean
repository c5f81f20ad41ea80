/- Settle, SettleAll of package scupperref14; a patch is the same as itself. -/
import Derived.Test.YtmkfaibjjbgbbaaRof
import Derived.Laws.BytesArg
namespace Go.Proofs.Ytmkfaibjjbgbbaa
open Go.RowKit
set_option linter.unusedVariables false

theorem below_drawnN (w : World) (n : Nat) : Below w.heap.size w (w.drewN n) := ⟨rfl, rfl, rfl, Nat.le_refl _, fun _ _ => rfl⟩
theorem sameInts_same (a b : Value) (l : List Int) (w : World) (ha : Arr w 3 a (ints l)) (hb : Arr w 3 b (ints l)) : Calls Try.prog 39 #[a, b] w fun e w' => e = .returned (.bool true) ∧ Below w.heap.size w w' :=
  (sameInts_any a b l l w ha hb).mono fun e w' ⟨h1, n, h2⟩ => ⟨by rw [h1]; simp, by rw [h2]; exact below_drawnN w n⟩
theorem bytes_str {w : World} {v : Value} {l : List Int} (h : Arr w 5 v (bytes l)) : (convert 27 9 v).run Try.prog w = .ok (.string (strOfNums l)) w := by
  rcases h with ⟨rfl, e⟩ | ⟨g, o, c, cs, rfl, h2, h3, h4, h5⟩
  · obtain rfl : l = [] := by
      cases l with
      | nil => rfl
      | cons a l => cases e
    exact run_convert_bytes_nil w 27 5 Try.underlying27 Try.underlying5 0 0 9 Try.underlying9
  · refine run_convert_bytes_arg w 27 5 Try.underlying27 Try.underlying5 g o _ c l (bytes_len l).symm (fun i hi => ?_) 9 Try.underlying9
    rw [bytes_len] at hi
    refine (h4.cell (o + i)).trans (h5 i _ ?_)
    simp [bytes, hi]

set_option maxHeartbeats 2000000 in
theorem same_any (v u : Value) (p : Pt) (w : World) (hp : PtV w v p) (hq : PtV w u p) : Calls Try.prog 72 #[v, u] w fun e w' => e = .returned (.bool true) ∧ Below w.heap.size w w' := by
  obtain ⟨vd, vn, rfl, hd, hn⟩ := hp
  obtain ⟨ud, un, rfl, kd, kn⟩ := hq
  obtain ⟨A, c, rfl, -, -⟩ := hd.len
  obtain ⟨B, d, rfl, -, -⟩ := hn.len
  obtain ⟨D, i, rfl, -, -⟩ := kd.len
  obtain ⟨E, j, rfl, -, -⟩ := kn.len
  have HD := Lib.hid hd
  have HN := Lib.hid hn
  have KD := Lib.hid kd
  have KN := Lib.hid kn
  clear hd hn kd kn
  unfold Pt.val
  go_enter Try.func72, Try.ntmps72
  go_upto_region 1 with (fail)
  obtain ⟨w2, hw2⟩ : ∃ w2, w2 = (w.alloc (.cells #[.int .i64 p.id, .int .i64 p.sec, .int .i64 p.off, .slice A (bytes p.data).length c, .int .i64 p.kind, .slice B (ints p.needs).length d, .int .i64 p.owner, .int .i64 p.child, .bool p.written] 30)).alloc (.cells #[.int .i64 p.id, .int .i64 p.sec, .int .i64 p.off, .slice D (bytes p.data).length i, .int .i64 p.kind, .slice E (ints p.needs).length j, .int .i64 p.owner, .int .i64 p.child, .bool p.written] 30) := ⟨_, rfl⟩
  rw [← hw2]
  have hX1 : Blk w2 w.heap.size 30 #[.int .i64 p.id, .int .i64 p.sec, .int .i64 p.off, .slice A (bytes p.data).length c, .int .i64 p.kind, .slice B (ints p.needs).length d, .int .i64 p.owner, .int .i64 p.child, .bool p.written] := by rw [hw2]; exact (Blk.new _ _ _).alloc _
  have hX2 : Blk w2 (w.heap.size + 1) 30 #[.int .i64 p.id, .int .i64 p.sec, .int .i64 p.off, .slice D (bytes p.data).length i, .int .i64 p.kind, .slice E (ints p.needs).length j, .int .i64 p.owner, .int .i64 p.child, .bool p.written] := by
    rw [hw2]
    have := Blk.new (w.alloc (.cells #[.int .i64 p.id, .int .i64 p.sec, .int .i64 p.off, .slice A (bytes p.data).length c, .int .i64 p.kind, .slice B (ints p.needs).length d, .int .i64 p.owner, .int .i64 p.child, .bool p.written] 30)) 30 #[.int .i64 p.id, .int .i64 p.sec, .int .i64 p.off, .slice D (bytes p.data).length i, .int .i64 p.kind, .slice E (ints p.needs).length j, .int .i64 p.owner, .int .i64 p.child, .bool p.written]
    simpa using this
  have hb2 : Below w.heap.size w w2 := by rw [hw2]; exact ((Below.refl _ _).alloc (Nat.le_refl _) _).alloc (by simp) _
  have hv1 := bytes_str (HD.out.below hb2)
  have hv2 := bytes_str (KD.out.below hb2)
  have HSm := Lib.hid (sameInts_same _ _ _ w2 (HN.out.below hb2) (KN.out.below hb2))
  have HX1 := Lib.hid hX1
  have HX2 := Lib.hid hX2
  have HB2 := Lib.hid hb2
  clear hw2
  have c := hX1.cell
  have c0 := c 0
  have c1 := c 1
  have c2 := c 2
  have c3 := c 3
  have c4 := c 4
  have c5 := c 5
  have c6 := c 6
  have c7 := c 7
  have c8 := c 8
  simp at c0 c1 c2 c3 c4 c5 c6 c7 c8
  have d := hX2.cell
  have d0 := d 0
  have d1 := d 1
  have d2 := d 2
  have d3 := d 3
  have d4 := d 4
  have d5 := d 5
  have d6 := d 6
  have d7 := d 7
  have d8 := d 8
  simp at d0 d1 d2 d3 d4 d5 d6 d7 d8
  clear c d hX1 hX2 hb2
  go_wp2_with fail
  refine HSm.out.mono ?_
  rintro e w3 ⟨rfl, hb3⟩
  have x6 := (HX1.out.below hb3 HX1.out.lt).cell 6
  have x7 := (HX1.out.below hb3 HX1.out.lt).cell 7
  have x8 := (HX1.out.below hb3 HX1.out.lt).cell 8
  have y6 := (HX2.out.below hb3 HX2.out.lt).cell 6
  have y7 := (HX2.out.below hb3 HX2.out.lt).cell 7
  have y8 := (HX2.out.below hb3 HX2.out.lt).cell 8
  simp at x6 x7 x8 y6 y7 y8
  have HB3 := Lib.hid (HB2.out.trans (hb3.mono HB2.out.size))
  clear hb3 hv1 hv2 HSm c0 c1 c2 c3 c4 c5 c6 c7 c8 d0 d1 d2 d3 d4 d5 d6 d7 d8
  go_wp2
  go_ret
  exact ⟨by first | rfl | simp, HB3.out⟩

/-- Settle: of a sector that can't be, nothing. -/
def setOf (x : G) (s : Int) : G := if s < 0 then x else settleG x (setQ s)
theorem rsettleAll_any (b : Nat) (x : G) (w : World) (h : RG w b x) (hxl : x.l.length ≤ 1000) :
    Calls Try.prog 66 #[.pointer (some ⟨b, 0, none⟩)] w fun e w' => e = .returned (.int .i64 (x.l.length - (settleG x (setQ (-1))).l.length : Int)) ∧ RG w' b (settleG x (setQ (-1))) ∧ Turn (fun j => j = b) w w' := by
  have HK := Lib.hid (rsettle_any b x (-1) w h hxl)
  clear h
  go_enter Try.func66, Try.ntmps66
  go_wp2_with fail
  refine HK.out.mono ?_
  rintro e w1 ⟨rfl, hg, ht⟩
  have HG := Lib.hid hg
  have HT := Lib.hid ht
  clear hg ht HK
  go_wp2_with fail
  go_ret
  exact ⟨rfl, HG.out, HT.out⟩
theorem rsettleOf_any (b : Nat) (x : G) (s : Int) (w : World) (h : RG w b x) (hxl : x.l.length ≤ 1000) :
    Calls Try.prog 65 #[.pointer (some ⟨b, 0, none⟩), .int .i64 s] w fun e w' => e = .returned (.int .i64 (x.l.length - (setOf x s).l.length : Int)) ∧ RG w' b (setOf x s) ∧ Turn (fun j => j = b) w w' := by
  by_cases hs : s < 0
  · have HF := Lib.hid (show setOf x s = x from by unfold setOf; rw [if_pos hs])
    have HG := Lib.hid h
    clear h
    go_enter Try.func65, Try.ntmps65
    go_wp2
    go_ret
    exact ⟨by rw [HF.out]; simp, by rw [HF.out]; exact HG.out, Turn.refl _ _⟩
  · have HF := Lib.hid (show setOf x s = settleG x (setQ s) from by unfold setOf; rw [if_neg hs])
    have hK := rsettle_any b x s w h hxl
    rw [← HF.out] at hK
    have HK := Lib.hid hK
    clear h hK
    go_enter Try.func65, Try.ntmps65
    go_wp2_with fail
    refine HK.out.mono ?_
    rintro e w1 ⟨rfl, hg, ht⟩
    have HG := Lib.hid hg
    have HT := Lib.hid ht
    clear hg ht HK HF
    go_wp2_with fail
    go_ret
    exact ⟨rfl, HG.out, HT.out⟩

/-! What package graph's Settle and SettleAll answer is the same. -/
theorem settle_count (x : G) (q : Pt → Bool) : ((idsOf x fun p => p.written && q p).length : Int) = (x.l.length : Int) - ((settleG x q).l.length : Int) := by
  have key : ∀ (f : Pt → Bool) (l : List Pt), (l.filter f).length + (l.filter fun p => !f p).length = l.length := by
    intro f l
    induction l with
    | nil => rfl
    | cons p l ih =>
      rw [List.filter_cons, List.filter_cons]
      cases f p with
      | true => simp only [if_true, Bool.not_true, Bool.false_eq_true, if_false, List.length_cons]; omega
      | false => simp only [if_true, Bool.not_false, Bool.false_eq_true, if_false, List.length_cons]; omega
  have h := key (fun p => p.written && q p) x.l
  have e1 : (idsOf x fun p => p.written && q p).length = (x.l.filter fun p => p.written && q p).length := by unfold idsOf; rw [List.length_map]
  have e2 : (settleG x q).l.length = (x.l.filter fun p => !(p.written && q p)).length := rfl
  omega
theorem settle_all_eq (x : G) : settleG x (setQ (-1)) = settleG x fun _ => true := by
  unfold settleG setQ
  simp
theorem settle_of_eq {x : G} (hx : ∀ p ∈ x.l, 0 ≤ p.sec) (s : Int) : setOf x s = settleG x fun p => decide (p.sec = s) := by
  unfold setOf settleG setQ
  by_cases hs : s < 0
  · rw [if_pos hs]
    have : x.l.filter (fun p => !(p.written && decide (p.sec = s))) = x.l := List.filter_eq_self.2 fun p hp => by
      have := hx p hp
      have h2 : ¬ p.sec = s := by omega
      simp [h2]
    rw [this]
  · rw [if_neg hs]
    simp [hs]
theorem Arr.two (w : World) (t : TypeId) (v u : Value) : Arr (w.alloc (.cells #[v, u] t)) t (.slice (some ⟨w.heap.size, 0, none⟩) 2 2) [v, u] := by
  refine .inr ⟨w.heap.size, 0, 2, #[v, u], rfl, Nat.le_refl _, by decide, Blk.new _ _ _, fun i u hu => ?_⟩
  rcases i with _ | _ | i
  · simpa using hu
  · simpa using hu
  · simp at hu
end Go.Proofs.Ytmkfaibjjbgbbaa
