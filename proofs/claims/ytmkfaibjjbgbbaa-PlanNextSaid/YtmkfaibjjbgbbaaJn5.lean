/- Settle, SettleAll of package scupperref14; a patch is the same as itself. The reference's plan: has, Next. -/
import Derived.Test.YtmkfaibjjbgbbaaJn4
import Derived.Laws.BytesArg
import Derived.Test.YtmkfaibjjbgbbaaJn3
import Derived.Test.YtmkfaibjjbgbbaaPlanE
import Derived.Test.YtmkfaibjjbgbbaaJn1
namespace Go.Proofs.Ytmkfaibjjbgbbaa
open Go.RowKit
set_option linter.unusedVariables false

theorem below_drawnN (w : World) (n : Nat) : Below w.heap.size w (w.drewN n) := ⟨rfl, rfl, rfl, Nat.le_refl _, fun _ _ => rfl⟩
theorem sameInts_same (a b : Value) (l : List Int) (w : World) (ha : Arr w 3 a (ints l)) (hb : Arr w 3 b (ints l)) : Calls Try.prog 39 #[a, b] w fun e w' => e = .returned (.bool true) ∧ Below w.heap.size w w' :=
  (sameInts_any a b l l w ha hb).mono fun e w' ⟨h1, n, h2⟩ => ⟨by rw [h1]; simp, by rw [h2]; exact below_drawnN w n⟩
theorem bytes_str {w : World} {v : Value} {l : List Int} (h : Arr w 5 v (bytes l)) : (convert 27 9 v).run Try.prog w = .ok (.string (strOfNums l)) w := by
  rcases h with ⟨rfl, e⟩ | ⟨g, o, c, cs, rfl, h2, h3, h4, h5⟩
  · obtain rfl : l = [] := by
      cases l with
      | nil => rfl
      | cons a l => cases e
    exact run_convert_bytes_nil w 27 5 Try.underlying27 Try.underlying5 0 0 9 Try.underlying9
  · refine run_convert_bytes_arg w 27 5 Try.underlying27 Try.underlying5 g o _ c l (bytes_len l).symm (fun i hi => ?_) 9 Try.underlying9
    rw [bytes_len] at hi
    refine (h4.cell (o + i)).trans (h5 i _ ?_)
    simp [bytes, hi]

set_option maxHeartbeats 2000000 in
theorem same_any (v u : Value) (p : Pt) (w : World) (hp : PtV w v p) (hq : PtV w u p) : Calls Try.prog 72 #[v, u] w fun e w' => e = .returned (.bool true) ∧ Below w.heap.size w w' := by
  obtain ⟨vd, vn, rfl, hd, hn⟩ := hp
  obtain ⟨ud, un, rfl, kd, kn⟩ := hq
  obtain ⟨A, c, rfl, -, -⟩ := hd.len
  obtain ⟨B, d, rfl, -, -⟩ := hn.len
  obtain ⟨D, i, rfl, -, -⟩ := kd.len
  obtain ⟨E, j, rfl, -, -⟩ := kn.len
  have HD := Lib.hid hd
  have HN := Lib.hid hn
  have KD := Lib.hid kd
  have KN := Lib.hid kn
  clear hd hn kd kn
  unfold Pt.val
  go_enter Try.func72, Try.ntmps72
  go_upto_region 1 with (fail)
  obtain ⟨w2, hw2⟩ : ∃ w2, w2 = (w.alloc (.cells #[.int .i64 p.id, .int .i64 p.sec, .int .i64 p.off, .slice A (bytes p.data).length c, .int .i64 p.kind, .slice B (ints p.needs).length d, .int .i64 p.owner, .int .i64 p.child, .bool p.written] 30)).alloc (.cells #[.int .i64 p.id, .int .i64 p.sec, .int .i64 p.off, .slice D (bytes p.data).length i, .int .i64 p.kind, .slice E (ints p.needs).length j, .int .i64 p.owner, .int .i64 p.child, .bool p.written] 30) := ⟨_, rfl⟩
  rw [← hw2]
  have hX1 : Blk w2 w.heap.size 30 #[.int .i64 p.id, .int .i64 p.sec, .int .i64 p.off, .slice A (bytes p.data).length c, .int .i64 p.kind, .slice B (ints p.needs).length d, .int .i64 p.owner, .int .i64 p.child, .bool p.written] := by rw [hw2]; exact (Blk.new _ _ _).alloc _
  have hX2 : Blk w2 (w.heap.size + 1) 30 #[.int .i64 p.id, .int .i64 p.sec, .int .i64 p.off, .slice D (bytes p.data).length i, .int .i64 p.kind, .slice E (ints p.needs).length j, .int .i64 p.owner, .int .i64 p.child, .bool p.written] := by
    rw [hw2]
    have := Blk.new (w.alloc (.cells #[.int .i64 p.id, .int .i64 p.sec, .int .i64 p.off, .slice A (bytes p.data).length c, .int .i64 p.kind, .slice B (ints p.needs).length d, .int .i64 p.owner, .int .i64 p.child, .bool p.written] 30)) 30 #[.int .i64 p.id, .int .i64 p.sec, .int .i64 p.off, .slice D (bytes p.data).length i, .int .i64 p.kind, .slice E (ints p.needs).length j, .int .i64 p.owner, .int .i64 p.child, .bool p.written]
    simpa using this
  have hb2 : Below w.heap.size w w2 := by rw [hw2]; exact ((Below.refl _ _).alloc (Nat.le_refl _) _).alloc (by simp) _
  have hv1 := bytes_str (HD.out.below hb2)
  have hv2 := bytes_str (KD.out.below hb2)
  have HSm := Lib.hid (sameInts_same _ _ _ w2 (HN.out.below hb2) (KN.out.below hb2))
  have HX1 := Lib.hid hX1
  have HX2 := Lib.hid hX2
  have HB2 := Lib.hid hb2
  clear hw2
  have c := hX1.cell
  have c0 := c 0
  have c1 := c 1
  have c2 := c 2
  have c3 := c 3
  have c4 := c 4
  have c5 := c 5
  have c6 := c 6
  have c7 := c 7
  have c8 := c 8
  simp at c0 c1 c2 c3 c4 c5 c6 c7 c8
  have d := hX2.cell
  have d0 := d 0
  have d1 := d 1
  have d2 := d 2
  have d3 := d 3
  have d4 := d 4
  have d5 := d 5
  have d6 := d 6
  have d7 := d 7
  have d8 := d 8
  simp at d0 d1 d2 d3 d4 d5 d6 d7 d8
  clear c d hX1 hX2 hb2
  go_wp2_with fail
  refine HSm.out.mono ?_
  rintro e w3 ⟨rfl, hb3⟩
  have x6 := (HX1.out.below hb3 HX1.out.lt).cell 6
  have x7 := (HX1.out.below hb3 HX1.out.lt).cell 7
  have x8 := (HX1.out.below hb3 HX1.out.lt).cell 8
  have y6 := (HX2.out.below hb3 HX2.out.lt).cell 6
  have y7 := (HX2.out.below hb3 HX2.out.lt).cell 7
  have y8 := (HX2.out.below hb3 HX2.out.lt).cell 8
  simp at x6 x7 x8 y6 y7 y8
  have HB3 := Lib.hid (HB2.out.trans (hb3.mono HB2.out.size))
  clear hb3 hv1 hv2 HSm c0 c1 c2 c3 c4 c5 c6 c7 c8 d0 d1 d2 d3 d4 d5 d6 d7 d8
  go_wp2
  go_ret
  exact ⟨by first | rfl | simp, HB3.out⟩

/-- Settle: of a sector that can't be, nothing. -/
def setOf (x : G) (s : Int) : G := if s < 0 then x else settleG x (setQ s)
theorem rsettleAll_any (b : Nat) (x : G) (w : World) (h : RG w b x) (hxl : x.l.length ≤ 1000) :
    Calls Try.prog 66 #[.pointer (some ⟨b, 0, none⟩)] w fun e w' => e = .returned (.int .i64 (x.l.length - (settleG x (setQ (-1))).l.length : Int)) ∧ RG w' b (settleG x (setQ (-1))) ∧ Turn (fun j => j = b) w w' := by
  have HK := Lib.hid (rsettle_any b x (-1) w h hxl)
  clear h
  go_enter Try.func66, Try.ntmps66
  go_wp2_with fail
  refine HK.out.mono ?_
  rintro e w1 ⟨rfl, hg, ht⟩
  have HG := Lib.hid hg
  have HT := Lib.hid ht
  clear hg ht HK
  go_wp2_with fail
  go_ret
  exact ⟨rfl, HG.out, HT.out⟩
theorem rsettleOf_any (b : Nat) (x : G) (s : Int) (w : World) (h : RG w b x) (hxl : x.l.length ≤ 1000) :
    Calls Try.prog 65 #[.pointer (some ⟨b, 0, none⟩), .int .i64 s] w fun e w' => e = .returned (.int .i64 (x.l.length - (setOf x s).l.length : Int)) ∧ RG w' b (setOf x s) ∧ Turn (fun j => j = b) w w' := by
  by_cases hs : s < 0
  · have HF := Lib.hid (show setOf x s = x from by unfold setOf; rw [if_pos hs])
    have HG := Lib.hid h
    clear h
    go_enter Try.func65, Try.ntmps65
    go_wp2
    go_ret
    exact ⟨by rw [HF.out]; simp, by rw [HF.out]; exact HG.out, Turn.refl _ _⟩
  · have HF := Lib.hid (show setOf x s = settleG x (setQ s) from by unfold setOf; rw [if_neg hs])
    have hK := rsettle_any b x s w h hxl
    rw [← HF.out] at hK
    have HK := Lib.hid hK
    clear h hK
    go_enter Try.func65, Try.ntmps65
    go_wp2_with fail
    refine HK.out.mono ?_
    rintro e w1 ⟨rfl, hg, ht⟩
    have HG := Lib.hid hg
    have HT := Lib.hid ht
    clear hg ht HK HF
    go_wp2_with fail
    go_ret
    exact ⟨rfl, HG.out, HT.out⟩

/-! What package graph's Settle and SettleAll answer is the same. -/
theorem settle_count (x : G) (q : Pt → Bool) : ((idsOf x fun p => p.written && q p).length : Int) = (x.l.length : Int) - ((settleG x q).l.length : Int) := by
  have key : ∀ (f : Pt → Bool) (l : List Pt), (l.filter f).length + (l.filter fun p => !f p).length = l.length := by
    intro f l
    induction l with
    | nil => rfl
    | cons p l ih =>
      rw [List.filter_cons, List.filter_cons]
      cases f p with
      | true => simp only [if_true, Bool.not_true, Bool.false_eq_true, if_false, List.length_cons]; omega
      | false => simp only [if_true, Bool.not_false, Bool.false_eq_true, if_false, List.length_cons]; omega
  have h := key (fun p => p.written && q p) x.l
  have e1 : (idsOf x fun p => p.written && q p).length = (x.l.filter fun p => p.written && q p).length := by unfold idsOf; rw [List.length_map]
  have e2 : (settleG x q).l.length = (x.l.filter fun p => !(p.written && q p)).length := rfl
  omega
theorem settle_all_eq (x : G) : settleG x (setQ (-1)) = settleG x fun _ => true := by
  unfold settleG setQ
  simp
theorem settle_of_eq {x : G} (hx : ∀ p ∈ x.l, 0 ≤ p.sec) (s : Int) : setOf x s = settleG x fun p => decide (p.sec = s) := by
  unfold setOf settleG setQ
  by_cases hs : s < 0
  · rw [if_pos hs]
    have : x.l.filter (fun p => !(p.written && decide (p.sec = s))) = x.l := List.filter_eq_self.2 fun p hp => by
      have := hx p hp
      have h2 : ¬ p.sec = s := by omega
      simp [h2]
    rw [this]
  · rw [if_neg hs]
    simp [hs]
theorem Arr.two (w : World) (t : TypeId) (v u : Value) : Arr (w.alloc (.cells #[v, u] t)) t (.slice (some ⟨w.heap.size, 0, none⟩) 2 2) [v, u] := by
  refine .inr ⟨w.heap.size, 0, 2, #[v, u], rfl, Nat.le_refl _, by decide, Blk.new _ _ _, fun i u hu => ?_⟩
  rcases i with _ | _ | i
  · simpa using hu
  · simpa using hu
  · simp at hu
end Go.Proofs.Ytmkfaibjjbgbbaa
namespace Go.Proofs.Ytmkfaibjjbgbbaa
open Go.RowKit
set_option linter.unusedVariables false
attribute [local go_sem ↓] Go.wp_at_zero Go.wp_at_succ

theorem mem_at {l : List Int} {y : Int} {k : Nat} (h : l[k]? = some y) : decide (y ∈ l) = true := decide_eq_true (List.mem_of_getElem? h)
theorem mem_no {l : List Int} {y : Int} (h : ∀ (k : Nat) (z : Int), k < l.length → l[k]? = some z → z ≠ y) : decide (y ∈ l) = false := by
  refine decide_eq_false fun hm => ?_
  obtain ⟨k, hk⟩ := List.mem_iff_getElem?.1 hm
  exact h k y (by
    rcases Nat.lt_or_ge k l.length with h | h
    · exact h
    · rw [List.getElem?_eq_none h] at hk; cases hk) hk rfl
theorem rhas_any (v : Value) (l : List Int) (y : Int) (w : World) (hv : Arr w 3 v (ints l)) : Calls Try.prog 82 #[v, .int .i64 y] w fun e w' => e = .returned (.bool (decide (y ∈ l))) ∧ w' = w := by
  obtain ⟨A, c, rfl, h1, h2⟩ := hv.len
  have HA := Lib.hid hv.at
  rw [ints_len] at h1 ⊢
  unfold maxLen at h2
  clear hv
  go_enter Try.func82, Try.ntmps82
  go_wp2
  go_loopw [5] (fun i wr => ∃ k : Nat, k ≤ l.length ∧ i = .int .i64 k ∧ wr = w ∧ Hid (∀ (j : Nat) (z : Int), j < k → l[j]? = some z → z ≠ y)) (fun i _ => l.length - (intOf i).toNat)
  case atStart => exact ⟨0, Nat.zero_le _, rfl, rfl, fun j p hj => by omega⟩
  case round =>
    obtain ⟨k, hk, rfl, rfl, hT⟩ := hrel
    by_cases hlt : k < l.length
    · obtain ⟨z, hz⟩ : ∃ z, l[k]? = some z := ⟨_, List.getElem?_eq_getElem hlt⟩
      obtain ⟨gb, o, cs, rfl, hbk, hcs⟩ := HA.out k z hz
      have hc1 : wr.cell? ⟨gb, o + k, none⟩ = some (.int .i64 z) := (hbk.cell (o + k)).trans hcs
      have HZ := Lib.hid hz
      clear hbk hcs hz
      by_cases hzy : z = y
      · have ht : (z == y) = true := by simp [hzy]
        have HF := Lib.hid (show decide (y ∈ l) = true from by rw [← hzy]; exact mem_at HZ.out)
        clear hzy
        go_wp2
        go_ret
        exact ⟨by rw [HF.out]; rfl, rfl⟩
      · have ht : (z == y) = false := by simp [hzy]
        have HI := Lib.hid hzy
        clear hzy
        go_wp2
        go_roundw
        case rel => exact ⟨k + 1, by omega, by go_num, by first | trivial | rfl, fun j q hj hq => by
          rcases Nat.lt_or_ge j k with h | h
          · exact hT.out j q h hq
          · obtain rfl : j = k := by omega
            rw [HZ.out] at hq
            rw [← Option.some.inj hq]
            exact HI.out⟩
        case measure => simp [intOf]; omega
    · obtain rfl : k = l.length := by omega
      have HF := Lib.hid (mem_no (y := y) (l := l) hT.out)
      go_wp2
      go_ret
      exact ⟨by rw [HF.out]; rfl, rfl⟩

/-- An append of something to a row of the call's own, within a region: the result's shape is written out. -/
theorem step_append_onto {P : Program} {w : World} {ops : Array Oper} {o : Oper} {a : Act} {K : Act → World → Prop} {Q : Exit → Act → World → Prop} {E : Prop} (hgd : o.guard = none) (s x : Operand) (t : TypeId)
    (ho : o.op = .call { callee := .builtin .append, args := #[s, x], argTypes := #[t, t] })
    (base : Nat) (e : TypeId) (i : TypeInfo) (z : Value) (size bytes : Nat) (ht : P.underlying t = some (.slice e)) (hi : P.info? e = some i) (hz : i.zero = some z)
    (hsize : i.size = size) (hby : i.bytes = bytes) (hzs : z.cells.size = size) (hsz : 0 < size)
    (v : Value) (n : Nat) (xs : List Value) (hs : a.eval s = v) (hown : w.ownsRow base e size v n xs)
    (ad : Addr) (m c : Nat) (news : List Value) (hx : a.eval x = .slice (some ad) m c) (hl : news.length = m * size) (hnews : ∀ j u, news[j]? = some u → w.cell? (ad.add j) = some u) (h1 : ∀ u ∈ news, u.oneCell' = true)
    (nm : Nat) (hnm : n + m = nm) (hm : 0 < m) (h63 : n + m ≤ maxLen) (hbytes : (n + m) * bytes ≤ 140737488355328) (hbase : base ≤ w.heap.size)
    (h : ∀ g cap w', w'.ownsRow base e size (.slice (some ⟨g, 0, none⟩) nm cap) nm (xs ++ news) → w.grownBy w' v.ownBlock → (v.ownBlock = some g ∨ g = w.heap.size) → g < w'.heap.size → K (a.put o.dst (.slice (some ⟨g, 0, none⟩) nm cap)) w') :
    if Region.wanted o (yielded ops a.tmps) = true then Oper.wp P o a w K Q else E := by
  subst hnm
  have hw : Region.wanted o (yielded ops a.tmps) = true := by simp [Region.wanted, hgd]
  rw [if_pos hw]
  obtain ⟨v', w', hr, h2, h3, h4, h5⟩ := run_append_own_at (P := P) w base t o.type e i z size bytes ht hi hz hsize hby hzs hsz v n xs hown ad m c news hl hnews h1 h63 hbytes hbase
  rcases h2.2 with ⟨hv, h0⟩ | ⟨g, cap, cur, hv, hrest⟩
  · omega
  · subst hv
    unfold Oper.wp execOp
    simp only [ho, resolve, invoke, builtin, Sem.run_bind, Sem.run_pure, Result.andThen_ok, List.map_toArray, List.map_cons, List.map_nil, hs, hx, hr]
    refine h g cap w' h2 h3 ?_ (World.ownsRow.lt h2 g rfl).2
    rcases h5 with h5 | h5
    · exact .inl h5.symm
    · exact .inr (Option.some.inj h5)
theorem any_on {L : List Int} {q : Int → Bool} {k : Nat} {y : Int} (h : L[k]? = some y) : (L.take (k + 1)).any q = ((L.take k).any q || q y) := by
  rw [List.take_add_one, h, List.any_append]
  simp
theorem alone_is (x : G) (s : Int) : aloneB x s = (idsOf x fun p => p.written).all fun k => decide (secOf x k = s) := by
  unfold aloneB
  rw [List.not_any_eq_all_not]
  congr 1
  funext k
  simp
theorem allw_on {L : List Int} {q : Int → Bool} {k : Nat} {y : Int} (h : L[k]? = some y) : (L.take (k + 1)).all q = ((L.take k).all q && q y) := by
  rw [List.take_add_one, h, List.all_append]
  simp
theorem Blk.arrs {w w' : World} {v : Value} {xs : List Value} {S : Nat → Prop} {t : TypeId} (h : Arr w 3 v xs) (hT : Turn S w w') (hS : ∀ j, S j → ∃ cs, Blk w j t cs) (ht : (3 : TypeId) ≠ t) : Arr w' 3 v xs :=
  h.turn hT fun g cs k e => by obtain ⟨cs', h'⟩ := hS g e; exact k.ne_ h' ht rfl
theorem Built.turnB {B : Nat} {w w' : World} {v : Value} {l : List Int} {r : Nat} {t : TypeId} {cs : Array Value} (h : Built B w v l) (hT : Turn (fun j => j = r) w w') (hr : Blk w r t cs) (ht : (3 : TypeId) ≠ t) : Built B w' v l :=
  owns_keep h fun g hg => hT.block g (World.ownsRow.lt h g hg).2 fun e => by
    rcases h.2 with ⟨hv, h0⟩ | ⟨g', cap, cur, hv, hb, hg', _⟩
    · rw [hv] at hg; cases hg
    · rw [hv] at hg
      obtain rfl : g' = g := Option.some.inj hg
      subst e
      exact Blk.ne_ (w := w) (g := g') (t := 3) (cs := cur) (g' := g') (t' := t) (cs' := cs) hg' hr ht rfl
theorem RG.turnB {w w' : World} {b : Nat} {x : G} {r : Nat} {cs : Array Value} (h : RG w b x) (hT : Turn (fun j => j = r) w w') (hr : Blk w r 66 cs) : RG w' b x :=
  h.turn hT fun j t cs' e hb => by
    subst e
    have : t = 66 := by
      by_cases ht : t = 66
      · exact ht
      · exact absurd rfl (hb.ne_ hr ht)
    subst this
    exact ⟨by decide, by decide, by decide, by decide⟩

theorem readyG_len' (x : G) (s : Int) : (readyG x s).length ≤ x.l.length := by
  have h1 := rdy_len (x := x) (openL x s) ([], [])
  have h2 := List.length_filter_le (openQ s) x.l
  have e : (readyG x s).length = (rdy x (openL x s)).1.length := by unfold readyG; rw [List.length_map]
  have e2 : rdy x (openL x s) = (openL x s).foldl (rdyStep x) ([], []) := rfl
  rw [← e2] at h1
  simp at h1
  unfold openL at h1
  rw [e]
  unfold openL
  omega

set_option maxHeartbeats 8000000 in
set_option maxRecDepth 100000 in
theorem rnext_any (b : Nat) (x : G) (v : Value) (ids : List Int) (w : World) (h : RG w b x) (hF : Fine x) (hv : Row w v (ints ids)) :
    Calls Try.prog 38 #[.pointer (some ⟨b, 0, none⟩), v] w fun e w' => ∃ sv, e = .returned (.tuple #[batV sv ((planNext x ids).map (·.2) |>.getD false), .bool (planNext x ids).isSome]) ∧ Arr w' 3 sv (ints ((planNext x ids).map (·.1) |>.getD [])) ∧ Below w.heap.size w w' := by
  obtain ⟨i0, hi0, hz0, hz1, hz2⟩ := info_parts info3
  have HFn := Lib.hid hF
  have hxl := hF.len
  have HPN := Lib.hid (show planNext x ids = if neededG x ids = [] then none else some (planSecs x (neededG x ids), decide ((planSecs x (neededG x ids)).length = 1) && aloneB x ((planSecs x (neededG x ids)).headD 0)) from rfl)
  obtain ⟨w1, hw1⟩ : ∃ w1, w1 = w.alloc (.cells #[.slice none 0 0, .bool false] 66) := ⟨_, rfl⟩
  have hb1 : Below w.heap.size w w1 := by rw [hw1]; exact (Below.refl _ _).alloc (Nat.le_refl _) _
  have hX1 : Blk w1 w.heap.size 66 #[.slice none 0 0, .bool false] := by rw [hw1]; exact Blk.new _ _ _
  have HX1 := Lib.hid hX1
  have HB1 := Lib.hid hb1
  have HR1 := Lib.hid (h.below hb1)
  have hbl := h.lt
  have HNd := Lib.hid (rneededR_any b x v ids w1 (h.below hb1) hF (hv.below hb1))
  have hs1 : w.heap.size < w1.heap.size := hX1.lt
  have hN0 : (neededG x ids).length ≤ 1000 := by
    unfold neededG
    rw [List.length_map]
    exact Nat.le_trans (neededL_len _ _) hF.len
  generalize neededG x ids = N at *
  generalize planNext x ids = pn at *
  clear h hF hv hX1 hb1
  go_enter Try.func38, Try.ntmps38
  go_wp2_with fail
  rw [← hw1]
  clear hw1
  refine HNd.out.mono ?_
  rintro e w2 ⟨r2, rfl, hr, hb⟩
  have HX2 := Lib.hid (HX1.out.below hb hs1)
  have HB2 := Lib.hid (HB1.out.trans (hb.mono HB1.out.size))
  have HR2 := Lib.hid (HR1.out.below hb)
  have HN2 := Lib.hid hr.arr
  obtain ⟨A2, c2, rfl, -, -⟩ := hr.arr.len
  rw [ints_len] at HN2 ⊢
  have hs2 := hb.size
  have e0 := HX2.out.frozen 0
  have e1 := HX2.out.frozen 1
  have c0 := HX2.out.cell 0
  have c1 := HX2.out.cell 1
  simp at c0 c1
  have l2 : w.heap.size < w2.heap.size := HX2.out.lt
  clear hr hb HNd HX1 HB1 HR1
  by_cases hN : N = []
  · have HF := Lib.hid (show pn = none from by rw [HPN.out, if_pos hN])
    subst hN
    go_wp2
    have F := (HX2.out.set_ 0 (.slice none 0 0)).set_ 1 (.bool false)
    have T := (((Turn.refl (fun j => j = w.heap.size) w2).setCell (p := ⟨w.heap.size, 0, none⟩) (fun _ => rfl) (.slice none 0 0)).setCell (p := ⟨w.heap.size, 1, none⟩) (fun _ => rfl) (.bool false))
    have hbl := HB2.out.trans (T.below (B := w.heap.size) HB2.out.size (fun i hi e => by omega))
    have z0 := F.cell 0
    have z1 := F.cell 1
    generalize ((w2.setCell ⟨w.heap.size, 0, none⟩ (.slice none 0 0)).setCell ⟨w.heap.size, 1, none⟩ (.bool false)) = X at *
    simp at z0 z1
    exact bodyPost_ret (v := .tuple #[batV (.slice none 0 0) false, .bool false]) (by simp [results, Try.results38, go_sem, batV, z0, z1]) rfl ⟨.slice none 0 0, by rw [HF.out]; rfl, by rw [HF.out]; exact Arr.nil _ _, hbl⟩
  · have hNl : ((N.length : Int) == 0) = false := by
      have : N.length ≠ 0 := fun e => hN (List.eq_nil_of_length_eq_zero e)
      simp
      omega
    have HF := Lib.hid (show pn = some (planSecs x N, decide ((planSecs x N).length = 1) && aloneB x ((planSecs x N).headD 0)) from by rw [HPN.out, if_neg hN])
    have HSp := Lib.hid (show planSecs x N = (secsG x).filter fun s => (readyG x s).any fun id => decide (id ∈ N) from rfl)
    generalize planSecs x N = PS at *
    clear hN
    go_wp2_with fail
    obtain ⟨w3, hw3⟩ : ∃ w3, w3 = w2.alloc (.cells #[.slice none 0 0, .bool false] 66) := ⟨_, rfl⟩
    rw [← hw3]
    obtain ⟨r1, hr1⟩ : ∃ r1, r1 = w2.heap.size := ⟨_, rfl⟩
    rw [← hr1]
    have hb3 : Below w2.heap.size w2 w3 := by rw [hw3]; exact (Below.refl _ _).alloc (Nat.le_refl _) _
    have HY3 := Lib.hid (show Blk w3 r1 66 #[.slice none 0 0, .bool false] from by rw [hw3, hr1]; exact Blk.new _ _ _)
    have HX3 := Lib.hid (HX2.out.below hb3 l2)
    have HB3 := Lib.hid (HB2.out.trans (hb3.mono HB2.out.size))
    have HR3 := Lib.hid (HR2.out.below hb3)
    have HN3 := Lib.hid (HN2.out.below hb3)
    have hr1w : w.heap.size < r1 := by omega
    have hr1l : r1 < w3.heap.size := HY3.out.lt
    clear hw3 hr1 hb3 HX2 HB2 HR2 HN2 e0 e1 c0 c1 l2 hs2 hNl
    refine (rsectors_any b x w3 HR3.out hxl).mono ?_
    rintro e w4 ⟨r4, rfl, hr, hb⟩
    have HY4 := Lib.hid (HY3.out.below hb hr1l)
    have HX4 := Lib.hid (HX3.out.below hb HX3.out.lt)
    have HB4 := Lib.hid (HB3.out.trans (hb.mono HB3.out.size))
    have HR4 := Lib.hid (HR3.out.below hb)
    have HN4 := Lib.hid (HN3.out.below hb)
    have HS4 := Lib.hid hr.arr
    obtain ⟨A4, c4, rfl, h41, h42⟩ := hr.arr.len
    have HS4a := Lib.hid (HS4.out.at)
    rw [ints_len] at HS4 h41 ⊢
    unfold maxLen at h42
    have hSl : (secsG x).length ≤ 1000 := Nat.le_trans (secsG_len x) hxl
    have hs4 := hb.size
    clear hr hb HY3 HX3 HB3 HR3 HN3
    have HQn := Lib.hid fun (s : Int) => show (fun s => (readyG x s).any fun id => decide (id ∈ N)) s = (readyG x s).any fun id => decide (id ∈ N) from rfl
    generalize (fun s => (readyG x s).any fun id => decide (id ∈ N)) = Q at *
    generalize secsG x = S at *
    go_wp2_with fail
    go_loopw [9] (fun i wr => ∃ (k : Nat) (sv : Value), k ≤ S.length ∧ i = .int .i64 k ∧ Blk wr r1 66 #[sv, .bool false] ∧ Built w4.heap.size wr sv ((S.take k).filter Q) ∧ Turn (fun j => j = r1) w4 wr) (fun i _ => S.length - (intOf i).toNat)
    case atStart => exact ⟨0, _, Nat.zero_le _, rfl, HY4.out, World.ownsRow_nil _ _ _ _, Turn.refl _ _⟩
    case round =>
      rename World => wo
      obtain ⟨k, sv, hk, rfl, hY, hO, hT⟩ := hrel
      have HY := Lib.hid hY
      have HO := Lib.hid hO
      have HT := Lib.hid hT
      have hszT := hT.size
      have hX := HX4.out.turn hT (show ¬ w.heap.size = r1 by omega)
      have HX := Lib.hid hX
      have HR := Lib.hid (HR4.out.turnB hT HY4.out)
      have HN := Lib.hid (Blk.arrs HN4.out hT (fun j e => by rw [e]; exact ⟨_, HY4.out⟩) (by decide))
      have hr1o : r1 < wo.heap.size := hY.lt
      by_cases hlt : k < S.length
      · obtain ⟨s, hs⟩ : ∃ s, S[k]? = some s := ⟨_, List.getElem?_eq_getElem hlt⟩
        obtain ⟨gb, o, cs, rfl, hbk, hcs⟩ := HS4a.out k s hs
        have hgb : gb ≠ r1 := hbk.ne_ HY4.out (by decide)
        have hbk' := hbk.turn hT hgb
        have hc1 : wo.cell? ⟨gb, o + k, none⟩ = some (.int .i64 s) := (hbk'.cell (o + k)).trans hcs
        have HBk := Lib.hid hbk'
        have HCs := Lib.hid hcs
        have hfl := List.length_filter_le Q (S.take k)
        rw [List.length_take] at hfl
        have HOn := Lib.hid (filter_on (q := Q) hs)
        have HQs := Lib.hid (HQn.out s)
        have hk0 : (0 : Int) ≤ (k : Int) := by omega
        have hk1 : (k : Int) < (S.length : Int) := by omega
        clear hY hO hT hX hs hbk hbk' hcs
        go_wp2_with fail
        refine (rready_any b x s wo HR.out HFn.out).mono ?_
        rintro e w5 ⟨r5, rfl, hr, hb⟩
        have HR5 := Lib.hid (HR.out.below hb)
        have HN5 := Lib.hid (HN.out.below hb)
        obtain ⟨A5, c5, rfl, h51, h52, h53⟩ := hr.arr.ints_at
        have HRd5 := Lib.hid h53
        unfold maxLen at h52
        have HY5 := Lib.hid (HY.out.below hb hr1o)
        have HX5 := Lib.hid (HX.out.below hb HX.out.lt)
        have HO5 := Lib.hid (Built.below HO.out hb)
        have HBk5 := Lib.hid (HBk.out.below hb HBk.out.lt)
        have HT5 := Lib.hid (HT.out.trans (Turn.of_below (S := fun _ => False) hb) (fun i hi e => e.elim))
        have hs5 := hb.size
        have hrl := readyG_len' x s
        clear hr hb h53 HR HN HY HX HO HBk HT hc1
        generalize readyG x s = RS at *
        go_wp2_with fail
        go_loopw [11, 12] (fun v i W => ∃ (j : Nat) (cc : Bool), j ≤ RS.length ∧ v = .bool cc ∧ i = .int .i64 j ∧ W = w5 ∧ Hid (cc = (RS.take j).any fun id => decide (id ∈ N))) (fun _ i _ => RS.length - (intOf i).toNat)
        case atStart => exact ⟨0, false, Nat.zero_le _, rfl, rfl, rfl, by unfold Hid; simp⟩
        case round =>
          obtain ⟨j, cc, hj, rfl, rfl, hWe, hcc⟩ := hrel
          have hWe2 : w5 = wr := hWe.symm
          subst hWe2
          clear hWe
          by_cases hlt2 : j < RS.length
          · obtain ⟨y, hy⟩ : ∃ y, RS[j]? = some y := ⟨_, List.getElem?_eq_getElem hlt2⟩
            obtain ⟨gb2, o2, rfl, hgb2, hcy⟩ := HRd5.out j y hy
            have hon := any_on (q := fun id => decide (id ∈ N)) hy
            cases cc with
            | true =>
              have HNx := Lib.hid (show true = (RS.take (j + 1)).any fun id => decide (id ∈ N) from by rw [hon, ← hcc.out]; rfl)
              clear hon hy
              go_wp2
              go_roundw
              case rel => exact ⟨j + 1, true, by omega, rfl, by go_num, by first | trivial | rfl, HNx.out⟩
              case measure => simp [intOf]; omega
            | false =>
              have hh := rhas_any (.slice A2 N.length c2) N y w5 HN5.out
              have hnx : decide (y ∈ N) = (RS.take (j + 1)).any fun id => decide (id ∈ N) := by rw [hon, ← hcc.out]; rfl
              generalize decide (y ∈ N) = dd at hh hnx
              have HH := Lib.hid hh
              have HNx := Lib.hid hnx
              clear hon hy hh hnx
              go_wp2_with fail
              refine HH.out.mono ?_
              rintro e w7 ⟨rfl, hw7⟩
              subst hw7
              go_wp2
              go_roundw
              case rel => exact ⟨j + 1, dd, by omega, rfl, by go_num, by first | trivial | rfl, HNx.out⟩
              case measure => simp [intOf]; omega
          · obtain rfl : j = RS.length := by omega
            have hcq : cc = Q s := by rw [hcc.out, List.take_length, HQs.out]
            have HCq := Lib.hid hcq
            clear hcq hcc hj hlt2
            cases cc with
            | false =>
              have HL1 := Lib.hid (show (S.take (k + 1)).filter Q = (S.take k).filter Q from by rw [HOn.out, ← HCq.out]; simp)
              rw [← HL1.out] at HO5
              go_wp2
              go_roundw
              case rel => exact ⟨k + 1, sv, by omega, by go_num, HY5.out, HO5.out, HT5.out⟩
              case measure => simp [intOf]; omega
            | true =>
              have HL1 := Lib.hid (show (S.take (k + 1)).filter Q = (S.take k).filter Q ++ [s] from by rw [HOn.out, ← HCq.out]; rfl)
              generalize (S.take k).filter Q = L at *
              obtain ⟨AV, mV, cV, rfl⟩ := owns_shape HO5.out
              have hc0 := HY5.out.cell 0
              simp at hc0
              have hcs5 : w5.cell? ⟨gb, o + k, none⟩ = some (.int .i64 s) := (HBk5.out.cell (o + k)).trans HCs.out
              have hr15 : r1 < w5.heap.size := HY5.out.lt
              go_wp2_with fail
              go_region_law (first
                | (refine step_append_onto rfl (.tmp 56) (.tmp 61) 28 rfl w4.heap.size 3 i0 (.int .i64 0) 1 8 Try.underlying28 hi0 hz0 hz1 hz2 (by rfl) (by decide) (.slice AV mV cV) L.length (ints L) (by rfl) (World.ownsRow.alloc (show w5.drew.ownsRow w4.heap.size 3 1 (.slice AV mV cV) L.length (ints L) from HO5.out) _) ⟨w5.heap.size, 0, none⟩ 1 1 (ints [s]) (by rfl) (by rfl) (one_new w5.drew 3 (.int .i64 s)) ints_one (L.length + 1) rfl (by decide) (by simp only [maxLen]; omega) (by omega) (by simp; omega) ?_
                   intro g6 cap6 w6 hown6 hgrow6 hat6 hlt6
                   have hs6 := hgrow6.size
                   have hne6 : (Value.slice AV mV cV).ownBlock ≠ some r1 := fun e => by have := (HO5.out.own _ e).1; omega
                   have hY6 := ((HY5.out.drew).alloc (.cells #[.int .i64 s] 3)).grown hgrow6 (fun e => hne6 e.symm)
                   have hc6 := hY6.cell 0
                   have hf6 := hY6.frozen 0
                   have hl6 : r1 < w6.heap.size := hY6.lt))
              all_goals
                have hY7 := hY6.set_ 0 (.slice (some ⟨g6, 0, none⟩) (L.length + 1) cap6)
                have hT6 : Turn (fun j => j = r1) w4 w6 := ((HT5.out.drew).alloc (.cells #[.int .i64 s] 3)).grown hgrow6 (fun j hj hl => by have := (HO5.out.own j hj).1; omega)
                have HT7 := Lib.hid (hT6.setCell (p := ⟨r1, 0, none⟩) (fun _ => rfl) (.slice (some ⟨g6, 0, none⟩) (L.length + 1) cap6))
                have hT7' : Turn (fun j => j = r1) w6 (w6.setCell ⟨r1, 0, none⟩ (.slice (some ⟨g6, 0, none⟩) (L.length + 1) cap6)) := (Turn.refl (fun j => j = r1) w6).setCell (p := ⟨r1, 0, none⟩) (fun _ => rfl) _
                have hB6 : Built w4.heap.size w6 (.slice (some ⟨g6, 0, none⟩) (L.length + 1) cap6) (L ++ [s]) := by
                  unfold Built ints
                  rw [List.map_append, List.length_append]
                  exact hown6
                have HO7 := Lib.hid (hB6.turnB hT7' hY6 (by decide))
                rw [← HL1.out] at HO7
                have HY7 := Lib.hid hY7
                clear hown6 hgrow6 hat6 hY6 hY7 hT6 hT7' hB6 hc6 hf6 hc0 hcs5
                go_wp2
                go_roundw
                case rel => exact ⟨k + 1, _, by omega, by go_num, HY7.out, HO7.out, HT7.out⟩
                case measure => simp [intOf]; omega
      · obtain rfl : k = S.length := by omega
        have HPS := Lib.hid (show (S.take S.length).filter Q = PS from by rw [List.take_length, HSp.out])
        rw [HPS.out] at HO
        clear hO hT hX hY
        obtain ⟨fb, hfb⟩ : ∃ fb, fb = ((PS.length : Int) == 1) := ⟨_, rfl⟩
        have HFb := Lib.hid hfb
        have ht : ((PS.length : Int) == 1) = fb := hfb.symm
        clear hfb
        obtain ⟨AV, cV, rfl, hv1, hv2⟩ := HO.out.arr.len
        rw [ints_len] at HO HY hv1
        unfold maxLen at hv2
        have hc0 := HY.out.cell 0
        have hc1 := HY.out.cell 1
        have hf1 := HY.out.frozen 1
        simp at hc0 hc1
        go_wp2_with fail
        obtain ⟨w5, hw5⟩ : ∃ w5, w5 = wo.setCell ⟨r1, 1, none⟩ (.bool fb) := ⟨_, rfl⟩
        rw [← hw5]
        have hT5 : Turn (fun j => j = r1) wo w5 := by rw [hw5]; exact (Turn.refl (fun j => j = r1) wo).setCell (p := ⟨r1, 1, none⟩) (fun _ => rfl) _
        have HY5 := Lib.hid (show Blk w5 r1 66 #[.slice AV PS.length cV, .bool fb] from by rw [hw5]; exact HY.out.set_ 1 (.bool fb))
        have HO5 := Lib.hid (HO.out.turnB hT5 HY.out (by decide))
        have HR5 := Lib.hid (HR.out.turnB hT5 HY.out)
        have HX5 := Lib.hid (HX.out.turn hT5 (show ¬ w.heap.size = r1 by omega))
        have HT5 := Lib.hid (HT.out.trans hT5 (fun i hi e => e))
        clear hw5 hT5 hc0 hc1 hf1 ht HY HO HR HX HT HN
        refine (rwritten_any b x w5 HR5.out hxl).mono ?_
        rintro e w6 ⟨r6, rfl, hr, hb⟩
        have HY6 := Lib.hid (HY5.out.below hb HY5.out.lt)
        have HX6 := Lib.hid (HX5.out.below hb HX5.out.lt)
        have HO6 := Lib.hid (Built.below HO5.out hb)
        have HR6 := Lib.hid (HR5.out.below hb)
        have HT6 := Lib.hid (HT5.out.trans (Turn.of_below (S := fun _ => False) hb) (fun i hi e => e.elim))
        obtain ⟨A6, c6, rfl, h61, h62, h63⟩ := hr.arr.ints_at
        have HW6 := Lib.hid h63
        have HWa := Lib.hid hr.arr
        unfold maxLen at h62
        have hWl : (idsOf x fun p => p.written).length ≤ 1000 := by
          unfold idsOf
          rw [List.length_map]
          exact Nat.le_trans (List.length_filter_le _ _) hxl
        have HMem := Lib.hid fun (y : Int) (h : y ∈ idsOf x fun p => p.written) => show ∃ p ∈ x.l, p.id = y from by
          unfold idsOf at h
          obtain ⟨p, hp, e⟩ := List.mem_map.1 h
          exact ⟨p, (List.mem_filter.1 hp).1, e⟩
        have HAl := Lib.hid (alone_is x (PS.headD 0))
        clear hr hb h63 HY5 HX5 HO5 HR5 HT5
        generalize (idsOf x fun p => p.written) = WL at *
        have hr16 : r1 < w6.heap.size := HY6.out.lt
        go_wp2_with fail
        go_loopw [14] (fun i wr => ∃ (j : Nat) (fj : Bool), j ≤ WL.length ∧ i = .int .i64 j ∧ Blk wr r1 66 #[.slice AV PS.length cV, .bool fj] ∧ Turn (fun j => j = r1) w6 wr ∧ Hid (fj = (fb && (WL.take j).all fun k => decide (secOf x k = PS.headD 0)))) (fun i _ => WL.length - (intOf i).toNat)
        case atStart => exact ⟨0, fb, Nat.zero_le _, rfl, HY6.out, Turn.refl _ _, by unfold Hid; simp⟩
        case round =>
          clear hr1o
          rename World => wp
          obtain ⟨j, fj, hj, rfl, hY, hT, hfj⟩ := hrel
          have HY := Lib.hid hY
          have HT := Lib.hid hT
          have HR := Lib.hid (HR6.out.turnB hT HY6.out)
          have HO := Lib.hid (HO6.out.turnB hT HY6.out (by decide))
          have HX := Lib.hid (HX6.out.turn hT (show ¬ w.heap.size = r1 by omega))
          have hszT := hT.size
          have hc1 := hY.cell 1
          simp at hc1
          by_cases hgo : j < WL.length ∧ fj = true
          · obtain ⟨hlt, rfl⟩ := hgo
            obtain ⟨y, hy⟩ : ∃ y, WL[j]? = some y := ⟨_, List.getElem?_eq_getElem hlt⟩
            obtain ⟨gb, o, rfl, hgb, hcy⟩ := HW6.out j y hy
            have hgb1 : gb ≠ r1 := by
              rcases HWa.out with ⟨e1, _⟩ | ⟨g', o', c', cs', e1, _, _, hbk, _⟩
              · cases e1
              · injection e1 with e1
                injection e1 with e1
                injection e1 with e1
                subst e1
                exact hbk.ne_ HY6.out (by decide)
            have hcy' : wp.cell? ⟨gb, o + j, none⟩ = some (.int .i64 y) := (World.cell?_of_block (a := ⟨gb, o + j, none⟩) (hT.block gb hgb hgb1)).trans hcy
            obtain ⟨p0, hp0, he0⟩ := HMem.out y (List.mem_of_getElem? hy)
            have hon := allw_on (q := fun k => decide (secOf x k = PS.headD 0)) hy
            have hbt : fb = true ∧ (WL.take j).all (fun k => decide (secOf x k = PS.headD 0)) = true := by
              have := hfj.out.symm
              rwa [Bool.and_eq_true] at this
            obtain ⟨rfl, hall⟩ := hbt
            obtain ⟨s0, rfl⟩ : ∃ s0, PS = [s0] := by
              have h1 := HFb.out.symm
              have h2 : PS.length = 1 := by
                have : (PS.length : Int) = 1 := by simpa using h1
                omega
              match PS, h2 with
              | [a], _ => exact ⟨a, rfl⟩
            rcases findI_ref x y with ⟨hf1, hf2⟩ | ⟨kk, p, hf1, hf2, hf3, hf4⟩
            · exact absurd he0 (find_none hf1 p0 hp0)
            have hpf := HFn.out.all p (List.mem_of_getElem? hf2)
            have HGet := Lib.hid (rget_some b x y kk p wp HR.out hf4 hf2 (by have := hpf.1.1.2.2; omega) (by have := hpf.2.2.2; omega) hxl)
            have HNx := Lib.hid (show (p.sec == s0) = (true && (WL.take (j + 1)).all fun k => decide (secOf x k = [s0].headD 0)) from by
              rw [hon, hall]
              have e : secOf x y = p.sec := by unfold secOf; rw [hf1]
              rw [e]
              rfl)
            obtain ⟨gs, cs', e, hgs1, hgs2⟩ := World.ownsRow.form HO.out (by simp)
            injection e with e1 e2 e3
            subst e1 e3
            clear e2
            have hcs0 : wp.cell? ⟨gs, 0, none⟩ = some (.int .i64 s0) := World.ownsRow.cellAt HO.out 0 (by simp)
            have hgs1' : gs ≠ r1 := by
              have h := (HO.out.own gs rfl)
              intro e
              have := hr1l
              have h4 := h.1
              have := hs4
              omega
            have hr1p : r1 < wp.heap.size := hY.lt
            clear hY hT hy hcy hp0 he0 hon hall hf1 hf2 hf3 hf4 hpf hfj
            go_wp2_with fail
            refine HGet.out.mono ?_
            rintro e w8 ⟨r8, rfl, ⟨vd, vn, rfl, hd, hn⟩, hb8⟩
            obtain ⟨E1, q1, rfl, -, -⟩ := hd.len
            obtain ⟨E2, q2, rfl, -, -⟩ := hn.len
            have HY8 := Lib.hid (HY.out.below hb8 hr1p)
            have HT8 := Lib.hid (HT.out.trans (Turn.of_below (S := fun _ => False) hb8) (fun i hi e => e.elim))
            have hcs8 : w8.cell? ⟨gs, 0, none⟩ = some (.int .i64 s0) := (hb8.cell (p := ⟨gs, 0, none⟩) hgs2).trans hcs0
            have hs8 := hb8.size
            clear hb8 hd hn HGet HY HT HR HO HX hcs0 hc1 hcy'
            unfold Pt.val
            go_wp2_with fail
            obtain ⟨w9, hw9⟩ : ∃ w9, w9 = w8.alloc (.cells #[.int .i64 p.id, .int .i64 p.sec, .int .i64 p.off, .slice E1 (bytes p.data).length q1, .int .i64 p.kind, .slice E2 (ints p.needs).length q2, .int .i64 p.owner, .int .i64 p.child, .bool p.written] 30) := ⟨_, rfl⟩
            rw [← hw9]
            have hX9 : Blk w9 w8.heap.size 30 #[.int .i64 p.id, .int .i64 p.sec, .int .i64 p.off, .slice E1 (bytes p.data).length q1, .int .i64 p.kind, .slice E2 (ints p.needs).length q2, .int .i64 p.owner, .int .i64 p.child, .bool p.written] := by rw [hw9]; exact Blk.new _ _ _
            have hb9 : Below w8.heap.size w8 w9 := by rw [hw9]; exact (Below.refl _ _).alloc (Nat.le_refl _) _
            obtain ⟨b9, hb9e⟩ : ∃ b9, b9 = w8.heap.size := ⟨_, rfl⟩
            rw [← hb9e] at hX9 ⊢
            have HY9 := Lib.hid (HY8.out.below hb9 (by omega))
            have HT9 := Lib.hid (HT8.out.trans (Turn.of_below (S := fun _ => False) hb9) (fun i hi e => e.elim))
            have hcs9 : w9.cell? ⟨gs, 0, none⟩ = some (.int .i64 s0) := (hb9.cell (p := ⟨gs, 0, none⟩) (show gs < w8.heap.size by omega)).trans hcs8
            have hne9 : b9 ≠ r1 := by omega
            have y1 := hX9.cell 1
            have z0 := HY9.out.cell 0
            have z1 := HY9.out.cell 1
            have zf := HY9.out.frozen 1
            have zl : r1 < w9.heap.size := HY9.out.lt
            simp at y1 z0 z1
            have HNx2 := Lib.hid HNx.out
            obtain ⟨dd, hdd⟩ : ∃ dd, dd = (p.sec == s0) := ⟨_, rfl⟩
            have hdd2 : (p.sec == s0) = dd := hdd.symm
            rw [← hdd] at HNx
            clear hw9 hb9 hb9e hcs8 hdd HNx2 HY8 HT8
            go_region_held3 (fun V => V.cell? ⟨b9, 1, none⟩ = some (.int .i64 p.sec) ∧ V.cell? ⟨r1, 0, none⟩ = some (.slice (some ⟨gs, 0, none⟩) 1 cV) ∧ V.cell? ⟨gs, 0, none⟩ = some (.int .i64 s0))
              (first | exact ⟨y1, z0, hcs9⟩ | (refine ⟨?_, ?_, ?_⟩ <;> first | exact (World.cell?_setCell_far _ _ _ _ (Ne.symm hne9)).trans y1 | exact (World.cell?_setCell_other _ _ _ _ (by simp)).trans z0 | exact (World.cell?_setCell_far _ _ _ _ (Ne.symm hgs1')).trans hcs9))
              (fail)
            have hY10 := (HY9.out.drew).set_ 1 (.bool dd)
            have HY10 := Lib.hid hY10
            have HT10 := Lib.hid (HT9.out.drew.setCell (p := ⟨r1, 1, none⟩) (fun _ => rfl) (.bool dd))
            clear hY10
            go_wp2
            go_roundw
            case rel => (repeat apply Exists.intro); exact ⟨⟨j + 1, dd, by omega, by go_num, HY10.out, HT10.out, HNx.out⟩, rfl⟩
            case measure => simp [intOf]; omega
          · have HE := Lib.hid (show fj = (fb && WL.all fun k => decide (secOf x k = PS.headD 0)) from by
              by_cases hj2 : j < WL.length
              · have hff : fj = false := by
                  cases fj with
                  | false => rfl
                  | true => exact absurd ⟨hj2, rfl⟩ hgo
                rw [hff]
                have h1 := hfj.out
                rw [hff] at h1
                cases fb with
                | false => rfl
                | true =>
                  rw [Bool.true_and] at h1 ⊢
                  symm
                  rw [List.all_eq_false]
                  have h2 := h1.symm
                  rw [List.all_eq_false] at h2
                  obtain ⟨z, hz, h3⟩ := h2
                  exact ⟨z, List.mem_of_mem_take hz, h3⟩
              · have h1 := hfj.out
                rwa [show j = WL.length by omega, List.take_length] at h1)
            have hcases : (¬ j < WL.length) ∨ (j < WL.length ∧ fj = false) := by
              by_cases h1 : j < WL.length
              · right
                refine ⟨h1, ?_⟩
                cases fj with
                | false => rfl
                | true => exact absurd ⟨h1, rfl⟩ hgo
              · exact .inl h1
            have HF2 := Lib.hid (show pn = some (PS, fj) from by
              rw [HF.out, HE.out, HFb.out]
              congr 2
              rw [HAl.out]
              congr 1
              rw [Bool.eq_iff_iff]
              simp
              omega)
            have hc0 := hY.cell 0
            simp at hc0
            have x0 := HX.out.cell 0
            have x1 := HX.out.cell 1
            have xf0 := HX.out.frozen 0
            have xf1 := HX.out.frozen 1
            have xl : w.heap.size < wp.heap.size := HX.out.lt
            simp at x0 x1
            have hr1p : r1 < wp.heap.size := hY.lt
            have HB6 := Lib.hid (below_turn HB4.out (HT6.out.trans HT.out (fun i hi e => e)) (fun i hi e => by omega))
            clear hgo hY hT hfj HE HF
            rcases hcases with hge | ⟨hlt, rfl⟩
            · go_wp2
              have F := (HX.out.set_ 0 (.slice AV PS.length cV)).set_ 1 (.bool fj)
              have T := (((Turn.refl (fun j => j = w.heap.size) wp).setCell (p := ⟨w.heap.size, 0, none⟩) (fun _ => rfl) (.slice AV PS.length cV)).setCell (p := ⟨w.heap.size, 1, none⟩) (fun _ => rfl) (.bool fj))
              have hbl2 := HB6.out.trans (T.below (B := w.heap.size) HB6.out.size (fun i hi e => by omega))
              have hA := Blk.arrs HO.out.arr T (fun j e => by rw [e]; exact ⟨_, HX.out⟩) (by decide)
              have z0 := F.cell 0
              have z1 := F.cell 1
              generalize ((wp.setCell ⟨w.heap.size, 0, none⟩ (.slice AV PS.length cV)).setCell ⟨w.heap.size, 1, none⟩ (.bool fj)) = X at *
              simp at z0 z1
              exact bodyPost_ret (v := .tuple #[batV (.slice AV PS.length cV) fj, .bool true]) (by simp [results, Try.results38, go_sem, batV, z0, z1]) rfl ⟨.slice AV PS.length cV, by rw [HF2.out]; rfl, by rw [HF2.out]; exact hA, hbl2⟩
            · go_wp2
              have F := (HX.out.set_ 0 (.slice AV PS.length cV)).set_ 1 (.bool false)
              have T := (((Turn.refl (fun j => j = w.heap.size) wp).setCell (p := ⟨w.heap.size, 0, none⟩) (fun _ => rfl) (.slice AV PS.length cV)).setCell (p := ⟨w.heap.size, 1, none⟩) (fun _ => rfl) (.bool false))
              have hbl2 := HB6.out.trans (T.below (B := w.heap.size) HB6.out.size (fun i hi e => by omega))
              have hA := Blk.arrs HO.out.arr T (fun j e => by rw [e]; exact ⟨_, HX.out⟩) (by decide)
              have z0 := F.cell 0
              have z1 := F.cell 1
              generalize ((wp.setCell ⟨w.heap.size, 0, none⟩ (.slice AV PS.length cV)).setCell ⟨w.heap.size, 1, none⟩ (.bool false)) = X at *
              simp at z0 z1
              exact bodyPost_ret (v := .tuple #[batV (.slice AV PS.length cV) false, .bool true]) (by simp [results, Try.results38, go_sem, batV, z0, z1]) rfl ⟨.slice AV PS.length cV, by rw [HF2.out]; rfl, by rw [HF2.out]; exact hA, hbl2⟩
end Go.Proofs.Ytmkfaibjjbgbbaa
