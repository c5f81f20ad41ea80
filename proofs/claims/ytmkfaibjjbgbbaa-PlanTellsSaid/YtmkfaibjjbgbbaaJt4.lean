/- The reference's plan: has, Next. The chapter's example 'works' of scupperlaw16 answers true. PlanNext, the walk. -/
import Derived.Test.YtmkfaibjjbgbbaaJt2
import Derived.Test.YtmkfaibjjbgbbaaJt3
import Derived.Test.YtmkfaibjjbgbbaaPlanE
import Derived.Test.YtmkfaibjjbgbbaaJt1
namespace Go.Proofs.Ytmkfaibjjbgbbaa
open Go.RowKit
set_option linter.unusedVariables false
attribute [local go_sem ↓] Go.wp_at_zero Go.wp_at_succ

theorem mem_at {l : List Int} {y : Int} {k : Nat} (h : l[k]? = some y) : decide (y ∈ l) = true := decide_eq_true (List.mem_of_getElem? h)
theorem mem_no {l : List Int} {y : Int} (h : ∀ (k : Nat) (z : Int), k < l.length → l[k]? = some z → z ≠ y) : decide (y ∈ l) = false := by
  refine decide_eq_false fun hm => ?_
  obtain ⟨k, hk⟩ := List.mem_iff_getElem?.1 hm
  exact h k y (by
    rcases Nat.lt_or_ge k l.length with h | h
    · exact h
    · rw [List.getElem?_eq_none h] at hk; cases hk) hk rfl
theorem rhas_any (v : Value) (l : List Int) (y : Int) (w : World) (hv : Arr w 3 v (ints l)) : Calls Try.prog 82 #[v, .int .i64 y] w fun e w' => e = .returned (.bool (decide (y ∈ l))) ∧ w' = w := by
  obtain ⟨A, c, rfl, h1, h2⟩ := hv.len
  have HA := Lib.hid hv.at
  rw [ints_len] at h1 ⊢
  unfold maxLen at h2
  clear hv
  go_enter Try.func82, Try.ntmps82
  go_wp2
  go_loopw [5] (fun i wr => ∃ k : Nat, k ≤ l.length ∧ i = .int .i64 k ∧ wr = w ∧ Hid (∀ (j : Nat) (z : Int), j < k → l[j]? = some z → z ≠ y)) (fun i _ => l.length - (intOf i).toNat)
  case atStart => exact ⟨0, Nat.zero_le _, rfl, rfl, fun j p hj => by omega⟩
  case round =>
    obtain ⟨k, hk, rfl, rfl, hT⟩ := hrel
    by_cases hlt : k < l.length
    · obtain ⟨z, hz⟩ : ∃ z, l[k]? = some z := ⟨_, List.getElem?_eq_getElem hlt⟩
      obtain ⟨gb, o, cs, rfl, hbk, hcs⟩ := HA.out k z hz
      have hc1 : wr.cell? ⟨gb, o + k, none⟩ = some (.int .i64 z) := (hbk.cell (o + k)).trans hcs
      have HZ := Lib.hid hz
      clear hbk hcs hz
      by_cases hzy : z = y
      · have ht : (z == y) = true := by simp [hzy]
        have HF := Lib.hid (show decide (y ∈ l) = true from by rw [← hzy]; exact mem_at HZ.out)
        clear hzy
        go_wp2
        go_ret
        exact ⟨by rw [HF.out]; rfl, rfl⟩
      · have ht : (z == y) = false := by simp [hzy]
        have HI := Lib.hid hzy
        clear hzy
        go_wp2
        go_roundw
        case rel => exact ⟨k + 1, by omega, by go_num, by first | trivial | rfl, fun j q hj hq => by
          rcases Nat.lt_or_ge j k with h | h
          · exact hT.out j q h hq
          · obtain rfl : j = k := by omega
            rw [HZ.out] at hq
            rw [← Option.some.inj hq]
            exact HI.out⟩
        case measure => simp [intOf]; omega
    · obtain rfl : k = l.length := by omega
      have HF := Lib.hid (mem_no (y := y) (l := l) hT.out)
      go_wp2
      go_ret
      exact ⟨by rw [HF.out]; rfl, rfl⟩

/-- An append of something to a row of the call's own, within a region: the result's shape is written out. -/
theorem step_append_onto {P : Program} {w : World} {ops : Array Oper} {o : Oper} {a : Act} {K : Act → World → Prop} {Q : Exit → Act → World → Prop} {E : Prop} (hgd : o.guard = none) (s x : Operand) (t : TypeId)
    (ho : o.op = .call { callee := .builtin .append, args := #[s, x], argTypes := #[t, t] })
    (base : Nat) (e : TypeId) (i : TypeInfo) (z : Value) (size bytes : Nat) (ht : P.underlying t = some (.slice e)) (hi : P.info? e = some i) (hz : i.zero = some z)
    (hsize : i.size = size) (hby : i.bytes = bytes) (hzs : z.cells.size = size) (hsz : 0 < size)
    (v : Value) (n : Nat) (xs : List Value) (hs : a.eval s = v) (hown : w.ownsRow base e size v n xs)
    (ad : Addr) (m c : Nat) (news : List Value) (hx : a.eval x = .slice (some ad) m c) (hl : news.length = m * size) (hnews : ∀ j u, news[j]? = some u → w.cell? (ad.add j) = some u) (h1 : ∀ u ∈ news, u.oneCell' = true)
    (nm : Nat) (hnm : n + m = nm) (hm : 0 < m) (h63 : n + m ≤ maxLen) (hbytes : (n + m) * bytes ≤ 140737488355328) (hbase : base ≤ w.heap.size)
    (h : ∀ g cap w', w'.ownsRow base e size (.slice (some ⟨g, 0, none⟩) nm cap) nm (xs ++ news) → w.grownBy w' v.ownBlock → (v.ownBlock = some g ∨ g = w.heap.size) → g < w'.heap.size → K (a.put o.dst (.slice (some ⟨g, 0, none⟩) nm cap)) w') :
    if Region.wanted o (yielded ops a.tmps) = true then Oper.wp P o a w K Q else E := by
  subst hnm
  have hw : Region.wanted o (yielded ops a.tmps) = true := by simp [Region.wanted, hgd]
  rw [if_pos hw]
  obtain ⟨v', w', hr, h2, h3, h4, h5⟩ := run_append_own_at (P := P) w base t o.type e i z size bytes ht hi hz hsize hby hzs hsz v n xs hown ad m c news hl hnews h1 h63 hbytes hbase
  rcases h2.2 with ⟨hv, h0⟩ | ⟨g, cap, cur, hv, hrest⟩
  · omega
  · subst hv
    unfold Oper.wp execOp
    simp only [ho, resolve, invoke, builtin, Sem.run_bind, Sem.run_pure, Result.andThen_ok, List.map_toArray, List.map_cons, List.map_nil, hs, hx, hr]
    refine h g cap w' h2 h3 ?_ (World.ownsRow.lt h2 g rfl).2
    rcases h5 with h5 | h5
    · exact .inl h5.symm
    · exact .inr (Option.some.inj h5)
theorem any_on {L : List Int} {q : Int → Bool} {k : Nat} {y : Int} (h : L[k]? = some y) : (L.take (k + 1)).any q = ((L.take k).any q || q y) := by
  rw [List.take_add_one, h, List.any_append]
  simp
theorem alone_is (x : G) (s : Int) : aloneB x s = (idsOf x fun p => p.written).all fun k => decide (secOf x k = s) := by
  unfold aloneB
  rw [List.not_any_eq_all_not]
  congr 1
  funext k
  simp
theorem allw_on {L : List Int} {q : Int → Bool} {k : Nat} {y : Int} (h : L[k]? = some y) : (L.take (k + 1)).all q = ((L.take k).all q && q y) := by
  rw [List.take_add_one, h, List.all_append]
  simp
theorem Blk.arrs {w w' : World} {v : Value} {xs : List Value} {S : Nat → Prop} {t : TypeId} (h : Arr w 3 v xs) (hT : Turn S w w') (hS : ∀ j, S j → ∃ cs, Blk w j t cs) (ht : (3 : TypeId) ≠ t) : Arr w' 3 v xs :=
  h.turn hT fun g cs k e => by obtain ⟨cs', h'⟩ := hS g e; exact k.ne_ h' ht rfl
theorem Built.turnB {B : Nat} {w w' : World} {v : Value} {l : List Int} {r : Nat} {t : TypeId} {cs : Array Value} (h : Built B w v l) (hT : Turn (fun j => j = r) w w') (hr : Blk w r t cs) (ht : (3 : TypeId) ≠ t) : Built B w' v l :=
  owns_keep h fun g hg => hT.block g (World.ownsRow.lt h g hg).2 fun e => by
    rcases h.2 with ⟨hv, h0⟩ | ⟨g', cap, cur, hv, hb, hg', _⟩
    · rw [hv] at hg; cases hg
    · rw [hv] at hg
      obtain rfl : g' = g := Option.some.inj hg
      subst e
      exact Blk.ne_ (w := w) (g := g') (t := 3) (cs := cur) (g' := g') (t' := t) (cs' := cs) hg' hr ht rfl
theorem RG.turnB {w w' : World} {b : Nat} {x : G} {r : Nat} {cs : Array Value} (h : RG w b x) (hT : Turn (fun j => j = r) w w') (hr : Blk w r 66 cs) : RG w' b x :=
  h.turn hT fun j t cs' e hb => by
    subst e
    have : t = 66 := by
      by_cases ht : t = 66
      · exact ht
      · exact absurd rfl (hb.ne_ hr ht)
    subst this
    exact ⟨by decide, by decide, by decide, by decide⟩

theorem readyG_len' (x : G) (s : Int) : (readyG x s).length ≤ x.l.length := by
  have h1 := rdy_len (x := x) (openL x s) ([], [])
  have h2 := List.length_filter_le (openQ s) x.l
  have e : (readyG x s).length = (rdy x (openL x s)).1.length := by unfold readyG; rw [List.length_map]
  have e2 : rdy x (openL x s) = (openL x s).foldl (rdyStep x) ([], []) := rfl
  rw [← e2] at h1
  simp at h1
  unfold openL at h1
  rw [e]
  unfold openL
  omega

set_option maxHeartbeats 8000000 in
set_option maxRecDepth 100000 in
theorem rnext_any (b : Nat) (x : G) (v : Value) (ids : List Int) (w : World) (h : RG w b x) (hF : Fine x) (hv : Row w v (ints ids)) :
    Calls Try.prog 38 #[.pointer (some ⟨b, 0, none⟩), v] w fun e w' => ∃ sv, e = .returned (.tuple #[batV sv ((planNext x ids).map (·.2) |>.getD false), .bool (planNext x ids).isSome]) ∧ Arr w' 3 sv (ints ((planNext x ids).map (·.1) |>.getD [])) ∧ Below w.heap.size w w' := by
  obtain ⟨i0, hi0, hz0, hz1, hz2⟩ := info_parts info3
  have HFn := Lib.hid hF
  have hxl := hF.len
  have HPN := Lib.hid (show planNext x ids = if neededG x ids = [] then none else some (planSecs x (neededG x ids), decide ((planSecs x (neededG x ids)).length = 1) && aloneB x ((planSecs x (neededG x ids)).headD 0)) from rfl)
  obtain ⟨w1, hw1⟩ : ∃ w1, w1 = w.alloc (.cells #[.slice none 0 0, .bool false] 66) := ⟨_, rfl⟩
  have hb1 : Below w.heap.size w w1 := by rw [hw1]; exact (Below.refl _ _).alloc (Nat.le_refl _) _
  have hX1 : Blk w1 w.heap.size 66 #[.slice none 0 0, .bool false] := by rw [hw1]; exact Blk.new _ _ _
  have HX1 := Lib.hid hX1
  have HB1 := Lib.hid hb1
  have HR1 := Lib.hid (h.below hb1)
  have hbl := h.lt
  have HNd := Lib.hid (rneededR_any b x v ids w1 (h.below hb1) hF (hv.below hb1))
  have hs1 : w.heap.size < w1.heap.size := hX1.lt
  have hN0 : (neededG x ids).length ≤ 1000 := by
    unfold neededG
    rw [List.length_map]
    exact Nat.le_trans (neededL_len _ _) hF.len
  generalize neededG x ids = N at *
  generalize planNext x ids = pn at *
  clear h hF hv hX1 hb1
  go_enter Try.func38, Try.ntmps38
  go_wp2_with fail
  rw [← hw1]
  clear hw1
  refine HNd.out.mono ?_
  rintro e w2 ⟨r2, rfl, hr, hb⟩
  have HX2 := Lib.hid (HX1.out.below hb hs1)
  have HB2 := Lib.hid (HB1.out.trans (hb.mono HB1.out.size))
  have HR2 := Lib.hid (HR1.out.below hb)
  have HN2 := Lib.hid hr.arr
  obtain ⟨A2, c2, rfl, -, -⟩ := hr.arr.len
  rw [ints_len] at HN2 ⊢
  have hs2 := hb.size
  have e0 := HX2.out.frozen 0
  have e1 := HX2.out.frozen 1
  have c0 := HX2.out.cell 0
  have c1 := HX2.out.cell 1
  simp at c0 c1
  have l2 : w.heap.size < w2.heap.size := HX2.out.lt
  clear hr hb HNd HX1 HB1 HR1
  by_cases hN : N = []
  · have HF := Lib.hid (show pn = none from by rw [HPN.out, if_pos hN])
    subst hN
    go_wp2
    have F := (HX2.out.set_ 0 (.slice none 0 0)).set_ 1 (.bool false)
    have T := (((Turn.refl (fun j => j = w.heap.size) w2).setCell (p := ⟨w.heap.size, 0, none⟩) (fun _ => rfl) (.slice none 0 0)).setCell (p := ⟨w.heap.size, 1, none⟩) (fun _ => rfl) (.bool false))
    have hbl := HB2.out.trans (T.below (B := w.heap.size) HB2.out.size (fun i hi e => by omega))
    have z0 := F.cell 0
    have z1 := F.cell 1
    generalize ((w2.setCell ⟨w.heap.size, 0, none⟩ (.slice none 0 0)).setCell ⟨w.heap.size, 1, none⟩ (.bool false)) = X at *
    simp at z0 z1
    exact bodyPost_ret (v := .tuple #[batV (.slice none 0 0) false, .bool false]) (by simp [results, Try.results38, go_sem, batV, z0, z1]) rfl ⟨.slice none 0 0, by rw [HF.out]; rfl, by rw [HF.out]; exact Arr.nil _ _, hbl⟩
  · have hNl : ((N.length : Int) == 0) = false := by
      have : N.length ≠ 0 := fun e => hN (List.eq_nil_of_length_eq_zero e)
      simp
      omega
    have HF := Lib.hid (show pn = some (planSecs x N, decide ((planSecs x N).length = 1) && aloneB x ((planSecs x N).headD 0)) from by rw [HPN.out, if_neg hN])
    have HSp := Lib.hid (show planSecs x N = (secsG x).filter fun s => (readyG x s).any fun id => decide (id ∈ N) from rfl)
    generalize planSecs x N = PS at *
    clear hN
    go_wp2_with fail
    obtain ⟨w3, hw3⟩ : ∃ w3, w3 = w2.alloc (.cells #[.slice none 0 0, .bool false] 66) := ⟨_, rfl⟩
    rw [← hw3]
    obtain ⟨r1, hr1⟩ : ∃ r1, r1 = w2.heap.size := ⟨_, rfl⟩
    rw [← hr1]
    have hb3 : Below w2.heap.size w2 w3 := by rw [hw3]; exact (Below.refl _ _).alloc (Nat.le_refl _) _
    have HY3 := Lib.hid (show Blk w3 r1 66 #[.slice none 0 0, .bool false] from by rw [hw3, hr1]; exact Blk.new _ _ _)
    have HX3 := Lib.hid (HX2.out.below hb3 l2)
    have HB3 := Lib.hid (HB2.out.trans (hb3.mono HB2.out.size))
    have HR3 := Lib.hid (HR2.out.below hb3)
    have HN3 := Lib.hid (HN2.out.below hb3)
    have hr1w : w.heap.size < r1 := by omega
    have hr1l : r1 < w3.heap.size := HY3.out.lt
    clear hw3 hr1 hb3 HX2 HB2 HR2 HN2 e0 e1 c0 c1 l2 hs2 hNl
    refine (rsectors_any b x w3 HR3.out hxl).mono ?_
    rintro e w4 ⟨r4, rfl, hr, hb⟩
    have HY4 := Lib.hid (HY3.out.below hb hr1l)
    have HX4 := Lib.hid (HX3.out.below hb HX3.out.lt)
    have HB4 := Lib.hid (HB3.out.trans (hb.mono HB3.out.size))
    have HR4 := Lib.hid (HR3.out.below hb)
    have HN4 := Lib.hid (HN3.out.below hb)
    have HS4 := Lib.hid hr.arr
    obtain ⟨A4, c4, rfl, h41, h42⟩ := hr.arr.len
    have HS4a := Lib.hid (HS4.out.at)
    rw [ints_len] at HS4 h41 ⊢
    unfold maxLen at h42
    have hSl : (secsG x).length ≤ 1000 := Nat.le_trans (secsG_len x) hxl
    have hs4 := hb.size
    clear hr hb HY3 HX3 HB3 HR3 HN3
    have HQn := Lib.hid fun (s : Int) => show (fun s => (readyG x s).any fun id => decide (id ∈ N)) s = (readyG x s).any fun id => decide (id ∈ N) from rfl
    generalize (fun s => (readyG x s).any fun id => decide (id ∈ N)) = Q at *
    generalize secsG x = S at *
    go_wp2_with fail
    go_loopw [9] (fun i wr => ∃ (k : Nat) (sv : Value), k ≤ S.length ∧ i = .int .i64 k ∧ Blk wr r1 66 #[sv, .bool false] ∧ Built w4.heap.size wr sv ((S.take k).filter Q) ∧ Turn (fun j => j = r1) w4 wr) (fun i _ => S.length - (intOf i).toNat)
    case atStart => exact ⟨0, _, Nat.zero_le _, rfl, HY4.out, World.ownsRow_nil _ _ _ _, Turn.refl _ _⟩
    case round =>
      rename World => wo
      obtain ⟨k, sv, hk, rfl, hY, hO, hT⟩ := hrel
      have HY := Lib.hid hY
      have HO := Lib.hid hO
      have HT := Lib.hid hT
      have hszT := hT.size
      have hX := HX4.out.turn hT (show ¬ w.heap.size = r1 by omega)
      have HX := Lib.hid hX
      have HR := Lib.hid (HR4.out.turnB hT HY4.out)
      have HN := Lib.hid (Blk.arrs HN4.out hT (fun j e => by rw [e]; exact ⟨_, HY4.out⟩) (by decide))
      have hr1o : r1 < wo.heap.size := hY.lt
      by_cases hlt : k < S.length
      · obtain ⟨s, hs⟩ : ∃ s, S[k]? = some s := ⟨_, List.getElem?_eq_getElem hlt⟩
        obtain ⟨gb, o, cs, rfl, hbk, hcs⟩ := HS4a.out k s hs
        have hgb : gb ≠ r1 := hbk.ne_ HY4.out (by decide)
        have hbk' := hbk.turn hT hgb
        have hc1 : wo.cell? ⟨gb, o + k, none⟩ = some (.int .i64 s) := (hbk'.cell (o + k)).trans hcs
        have HBk := Lib.hid hbk'
        have HCs := Lib.hid hcs
        have hfl := List.length_filter_le Q (S.take k)
        rw [List.length_take] at hfl
        have HOn := Lib.hid (filter_on (q := Q) hs)
        have HQs := Lib.hid (HQn.out s)
        have hk0 : (0 : Int) ≤ (k : Int) := by omega
        have hk1 : (k : Int) < (S.length : Int) := by omega
        clear hY hO hT hX hs hbk hbk' hcs
        go_wp2_with fail
        refine (rready_any b x s wo HR.out HFn.out).mono ?_
        rintro e w5 ⟨r5, rfl, hr, hb⟩
        have HR5 := Lib.hid (HR.out.below hb)
        have HN5 := Lib.hid (HN.out.below hb)
        obtain ⟨A5, c5, rfl, h51, h52, h53⟩ := hr.arr.ints_at
        have HRd5 := Lib.hid h53
        unfold maxLen at h52
        have HY5 := Lib.hid (HY.out.below hb hr1o)
        have HX5 := Lib.hid (HX.out.below hb HX.out.lt)
        have HO5 := Lib.hid (Built.below HO.out hb)
        have HBk5 := Lib.hid (HBk.out.below hb HBk.out.lt)
        have HT5 := Lib.hid (HT.out.trans (Turn.of_below (S := fun _ => False) hb) (fun i hi e => e.elim))
        have hs5 := hb.size
        have hrl := readyG_len' x s
        clear hr hb h53 HR HN HY HX HO HBk HT hc1
        generalize readyG x s = RS at *
        go_wp2_with fail
        go_loopw [11, 12] (fun v i W => ∃ (j : Nat) (cc : Bool), j ≤ RS.length ∧ v = .bool cc ∧ i = .int .i64 j ∧ W = w5 ∧ Hid (cc = (RS.take j).any fun id => decide (id ∈ N))) (fun _ i _ => RS.length - (intOf i).toNat)
        case atStart => exact ⟨0, false, Nat.zero_le _, rfl, rfl, rfl, by unfold Hid; simp⟩
        case round =>
          obtain ⟨j, cc, hj, rfl, rfl, hWe, hcc⟩ := hrel
          have hWe2 : w5 = wr := hWe.symm
          subst hWe2
          clear hWe
          by_cases hlt2 : j < RS.length
          · obtain ⟨y, hy⟩ : ∃ y, RS[j]? = some y := ⟨_, List.getElem?_eq_getElem hlt2⟩
            obtain ⟨gb2, o2, rfl, hgb2, hcy⟩ := HRd5.out j y hy
            have hon := any_on (q := fun id => decide (id ∈ N)) hy
            cases cc with
            | true =>
              have HNx := Lib.hid (show true = (RS.take (j + 1)).any fun id => decide (id ∈ N) from by rw [hon, ← hcc.out]; rfl)
              clear hon hy
              go_wp2
              go_roundw
              case rel => exact ⟨j + 1, true, by omega, rfl, by go_num, by first | trivial | rfl, HNx.out⟩
              case measure => simp [intOf]; omega
            | false =>
              have hh := rhas_any (.slice A2 N.length c2) N y w5 HN5.out
              have hnx : decide (y ∈ N) = (RS.take (j + 1)).any fun id => decide (id ∈ N) := by rw [hon, ← hcc.out]; rfl
              generalize decide (y ∈ N) = dd at hh hnx
              have HH := Lib.hid hh
              have HNx := Lib.hid hnx
              clear hon hy hh hnx
              go_wp2_with fail
              refine HH.out.mono ?_
              rintro e w7 ⟨rfl, hw7⟩
              subst hw7
              go_wp2
              go_roundw
              case rel => exact ⟨j + 1, dd, by omega, rfl, by go_num, by first | trivial | rfl, HNx.out⟩
              case measure => simp [intOf]; omega
          · obtain rfl : j = RS.length := by omega
            have hcq : cc = Q s := by rw [hcc.out, List.take_length, HQs.out]
            have HCq := Lib.hid hcq
            clear hcq hcc hj hlt2
            cases cc with
            | false =>
              have HL1 := Lib.hid (show (S.take (k + 1)).filter Q = (S.take k).filter Q from by rw [HOn.out, ← HCq.out]; simp)
              rw [← HL1.out] at HO5
              go_wp2
              go_roundw
              case rel => exact ⟨k + 1, sv, by omega, by go_num, HY5.out, HO5.out, HT5.out⟩
              case measure => simp [intOf]; omega
            | true =>
              have HL1 := Lib.hid (show (S.take (k + 1)).filter Q = (S.take k).filter Q ++ [s] from by rw [HOn.out, ← HCq.out]; rfl)
              generalize (S.take k).filter Q = L at *
              obtain ⟨AV, mV, cV, rfl⟩ := owns_shape HO5.out
              have hc0 := HY5.out.cell 0
              simp at hc0
              have hcs5 : w5.cell? ⟨gb, o + k, none⟩ = some (.int .i64 s) := (HBk5.out.cell (o + k)).trans HCs.out
              have hr15 : r1 < w5.heap.size := HY5.out.lt
              go_wp2_with fail
              go_region_law (first
                | (refine step_append_onto rfl (.tmp 56) (.tmp 61) 28 rfl w4.heap.size 3 i0 (.int .i64 0) 1 8 Try.underlying28 hi0 hz0 hz1 hz2 (by rfl) (by decide) (.slice AV mV cV) L.length (ints L) (by rfl) (World.ownsRow.alloc (show w5.drew.ownsRow w4.heap.size 3 1 (.slice AV mV cV) L.length (ints L) from HO5.out) _) ⟨w5.heap.size, 0, none⟩ 1 1 (ints [s]) (by rfl) (by rfl) (one_new w5.drew 3 (.int .i64 s)) ints_one (L.length + 1) rfl (by decide) (by simp only [maxLen]; omega) (by omega) (by simp; omega) ?_
                   intro g6 cap6 w6 hown6 hgrow6 hat6 hlt6
                   have hs6 := hgrow6.size
                   have hne6 : (Value.slice AV mV cV).ownBlock ≠ some r1 := fun e => by have := (HO5.out.own _ e).1; omega
                   have hY6 := ((HY5.out.drew).alloc (.cells #[.int .i64 s] 3)).grown hgrow6 (fun e => hne6 e.symm)
                   have hc6 := hY6.cell 0
                   have hf6 := hY6.frozen 0
                   have hl6 : r1 < w6.heap.size := hY6.lt))
              all_goals
                have hY7 := hY6.set_ 0 (.slice (some ⟨g6, 0, none⟩) (L.length + 1) cap6)
                have hT6 : Turn (fun j => j = r1) w4 w6 := ((HT5.out.drew).alloc (.cells #[.int .i64 s] 3)).grown hgrow6 (fun j hj hl => by have := (HO5.out.own j hj).1; omega)
                have HT7 := Lib.hid (hT6.setCell (p := ⟨r1, 0, none⟩) (fun _ => rfl) (.slice (some ⟨g6, 0, none⟩) (L.length + 1) cap6))
                have hT7' : Turn (fun j => j = r1) w6 (w6.setCell ⟨r1, 0, none⟩ (.slice (some ⟨g6, 0, none⟩) (L.length + 1) cap6)) := (Turn.refl (fun j => j = r1) w6).setCell (p := ⟨r1, 0, none⟩) (fun _ => rfl) _
                have hB6 : Built w4.heap.size w6 (.slice (some ⟨g6, 0, none⟩) (L.length + 1) cap6) (L ++ [s]) := by
                  unfold Built ints
                  rw [List.map_append, List.length_append]
                  exact hown6
                have HO7 := Lib.hid (hB6.turnB hT7' hY6 (by decide))
                rw [← HL1.out] at HO7
                have HY7 := Lib.hid hY7
                clear hown6 hgrow6 hat6 hY6 hY7 hT6 hT7' hB6 hc6 hf6 hc0 hcs5
                go_wp2
                go_roundw
                case rel => exact ⟨k + 1, _, by omega, by go_num, HY7.out, HO7.out, HT7.out⟩
                case measure => simp [intOf]; omega
      · obtain rfl : k = S.length := by omega
        have HPS := Lib.hid (show (S.take S.length).filter Q = PS from by rw [List.take_length, HSp.out])
        rw [HPS.out] at HO
        clear hO hT hX hY
        obtain ⟨fb, hfb⟩ : ∃ fb, fb = ((PS.length : Int) == 1) := ⟨_, rfl⟩
        have HFb := Lib.hid hfb
        have ht : ((PS.length : Int) == 1) = fb := hfb.symm
        clear hfb
        obtain ⟨AV, cV, rfl, hv1, hv2⟩ := HO.out.arr.len
        rw [ints_len] at HO HY hv1
        unfold maxLen at hv2
        have hc0 := HY.out.cell 0
        have hc1 := HY.out.cell 1
        have hf1 := HY.out.frozen 1
        simp at hc0 hc1
        go_wp2_with fail
        obtain ⟨w5, hw5⟩ : ∃ w5, w5 = wo.setCell ⟨r1, 1, none⟩ (.bool fb) := ⟨_, rfl⟩
        rw [← hw5]
        have hT5 : Turn (fun j => j = r1) wo w5 := by rw [hw5]; exact (Turn.refl (fun j => j = r1) wo).setCell (p := ⟨r1, 1, none⟩) (fun _ => rfl) _
        have HY5 := Lib.hid (show Blk w5 r1 66 #[.slice AV PS.length cV, .bool fb] from by rw [hw5]; exact HY.out.set_ 1 (.bool fb))
        have HO5 := Lib.hid (HO.out.turnB hT5 HY.out (by decide))
        have HR5 := Lib.hid (HR.out.turnB hT5 HY.out)
        have HX5 := Lib.hid (HX.out.turn hT5 (show ¬ w.heap.size = r1 by omega))
        have HT5 := Lib.hid (HT.out.trans hT5 (fun i hi e => e))
        clear hw5 hT5 hc0 hc1 hf1 ht HY HO HR HX HT HN
        refine (rwritten_any b x w5 HR5.out hxl).mono ?_
        rintro e w6 ⟨r6, rfl, hr, hb⟩
        have HY6 := Lib.hid (HY5.out.below hb HY5.out.lt)
        have HX6 := Lib.hid (HX5.out.below hb HX5.out.lt)
        have HO6 := Lib.hid (Built.below HO5.out hb)
        have HR6 := Lib.hid (HR5.out.below hb)
        have HT6 := Lib.hid (HT5.out.trans (Turn.of_below (S := fun _ => False) hb) (fun i hi e => e.elim))
        obtain ⟨A6, c6, rfl, h61, h62, h63⟩ := hr.arr.ints_at
        have HW6 := Lib.hid h63
        have HWa := Lib.hid hr.arr
        unfold maxLen at h62
        have hWl : (idsOf x fun p => p.written).length ≤ 1000 := by
          unfold idsOf
          rw [List.length_map]
          exact Nat.le_trans (List.length_filter_le _ _) hxl
        have HMem := Lib.hid fun (y : Int) (h : y ∈ idsOf x fun p => p.written) => show ∃ p ∈ x.l, p.id = y from by
          unfold idsOf at h
          obtain ⟨p, hp, e⟩ := List.mem_map.1 h
          exact ⟨p, (List.mem_filter.1 hp).1, e⟩
        have HAl := Lib.hid (alone_is x (PS.headD 0))
        clear hr hb h63 HY5 HX5 HO5 HR5 HT5
        generalize (idsOf x fun p => p.written) = WL at *
        have hr16 : r1 < w6.heap.size := HY6.out.lt
        go_wp2_with fail
        go_loopw [14] (fun i wr => ∃ (j : Nat) (fj : Bool), j ≤ WL.length ∧ i = .int .i64 j ∧ Blk wr r1 66 #[.slice AV PS.length cV, .bool fj] ∧ Turn (fun j => j = r1) w6 wr ∧ Hid (fj = (fb && (WL.take j).all fun k => decide (secOf x k = PS.headD 0)))) (fun i _ => WL.length - (intOf i).toNat)
        case atStart => exact ⟨0, fb, Nat.zero_le _, rfl, HY6.out, Turn.refl _ _, by unfold Hid; simp⟩
        case round =>
          clear hr1o
          rename World => wp
          obtain ⟨j, fj, hj, rfl, hY, hT, hfj⟩ := hrel
          have HY := Lib.hid hY
          have HT := Lib.hid hT
          have HR := Lib.hid (HR6.out.turnB hT HY6.out)
          have HO := Lib.hid (HO6.out.turnB hT HY6.out (by decide))
          have HX := Lib.hid (HX6.out.turn hT (show ¬ w.heap.size = r1 by omega))
          have hszT := hT.size
          have hc1 := hY.cell 1
          simp at hc1
          by_cases hgo : j < WL.length ∧ fj = true
          · obtain ⟨hlt, rfl⟩ := hgo
            obtain ⟨y, hy⟩ : ∃ y, WL[j]? = some y := ⟨_, List.getElem?_eq_getElem hlt⟩
            obtain ⟨gb, o, rfl, hgb, hcy⟩ := HW6.out j y hy
            have hgb1 : gb ≠ r1 := by
              rcases HWa.out with ⟨e1, _⟩ | ⟨g', o', c', cs', e1, _, _, hbk, _⟩
              · cases e1
              · injection e1 with e1
                injection e1 with e1
                injection e1 with e1
                subst e1
                exact hbk.ne_ HY6.out (by decide)
            have hcy' : wp.cell? ⟨gb, o + j, none⟩ = some (.int .i64 y) := (World.cell?_of_block (a := ⟨gb, o + j, none⟩) (hT.block gb hgb hgb1)).trans hcy
            obtain ⟨p0, hp0, he0⟩ := HMem.out y (List.mem_of_getElem? hy)
            have hon := allw_on (q := fun k => decide (secOf x k = PS.headD 0)) hy
            have hbt : fb = true ∧ (WL.take j).all (fun k => decide (secOf x k = PS.headD 0)) = true := by
              have := hfj.out.symm
              rwa [Bool.and_eq_true] at this
            obtain ⟨rfl, hall⟩ := hbt
            obtain ⟨s0, rfl⟩ : ∃ s0, PS = [s0] := by
              have h1 := HFb.out.symm
              have h2 : PS.length = 1 := by
                have : (PS.length : Int) = 1 := by simpa using h1
                omega
              match PS, h2 with
              | [a], _ => exact ⟨a, rfl⟩
            rcases findI_ref x y with ⟨hf1, hf2⟩ | ⟨kk, p, hf1, hf2, hf3, hf4⟩
            · exact absurd he0 (find_none hf1 p0 hp0)
            have hpf := HFn.out.all p (List.mem_of_getElem? hf2)
            have HGet := Lib.hid (rget_some b x y kk p wp HR.out hf4 hf2 (by have := hpf.1.1.2.2; omega) (by have := hpf.2.2.2; omega) hxl)
            have HNx := Lib.hid (show (p.sec == s0) = (true && (WL.take (j + 1)).all fun k => decide (secOf x k = [s0].headD 0)) from by
              rw [hon, hall]
              have e : secOf x y = p.sec := by unfold secOf; rw [hf1]
              rw [e]
              rfl)
            obtain ⟨gs, cs', e, hgs1, hgs2⟩ := World.ownsRow.form HO.out (by simp)
            injection e with e1 e2 e3
            subst e1 e3
            clear e2
            have hcs0 : wp.cell? ⟨gs, 0, none⟩ = some (.int .i64 s0) := World.ownsRow.cellAt HO.out 0 (by simp)
            have hgs1' : gs ≠ r1 := by
              have h := (HO.out.own gs rfl)
              intro e
              have := hr1l
              have h4 := h.1
              have := hs4
              omega
            have hr1p : r1 < wp.heap.size := hY.lt
            clear hY hT hy hcy hp0 he0 hon hall hf1 hf2 hf3 hf4 hpf hfj
            go_wp2_with fail
            refine HGet.out.mono ?_
            rintro e w8 ⟨r8, rfl, ⟨vd, vn, rfl, hd, hn⟩, hb8⟩
            obtain ⟨E1, q1, rfl, -, -⟩ := hd.len
            obtain ⟨E2, q2, rfl, -, -⟩ := hn.len
            have HY8 := Lib.hid (HY.out.below hb8 hr1p)
            have HT8 := Lib.hid (HT.out.trans (Turn.of_below (S := fun _ => False) hb8) (fun i hi e => e.elim))
            have hcs8 : w8.cell? ⟨gs, 0, none⟩ = some (.int .i64 s0) := (hb8.cell (p := ⟨gs, 0, none⟩) hgs2).trans hcs0
            have hs8 := hb8.size
            clear hb8 hd hn HGet HY HT HR HO HX hcs0 hc1 hcy'
            unfold Pt.val
            go_wp2_with fail
            obtain ⟨w9, hw9⟩ : ∃ w9, w9 = w8.alloc (.cells #[.int .i64 p.id, .int .i64 p.sec, .int .i64 p.off, .slice E1 (bytes p.data).length q1, .int .i64 p.kind, .slice E2 (ints p.needs).length q2, .int .i64 p.owner, .int .i64 p.child, .bool p.written] 30) := ⟨_, rfl⟩
            rw [← hw9]
            have hX9 : Blk w9 w8.heap.size 30 #[.int .i64 p.id, .int .i64 p.sec, .int .i64 p.off, .slice E1 (bytes p.data).length q1, .int .i64 p.kind, .slice E2 (ints p.needs).length q2, .int .i64 p.owner, .int .i64 p.child, .bool p.written] := by rw [hw9]; exact Blk.new _ _ _
            have hb9 : Below w8.heap.size w8 w9 := by rw [hw9]; exact (Below.refl _ _).alloc (Nat.le_refl _) _
            obtain ⟨b9, hb9e⟩ : ∃ b9, b9 = w8.heap.size := ⟨_, rfl⟩
            rw [← hb9e] at hX9 ⊢
            have HY9 := Lib.hid (HY8.out.below hb9 (by omega))
            have HT9 := Lib.hid (HT8.out.trans (Turn.of_below (S := fun _ => False) hb9) (fun i hi e => e.elim))
            have hcs9 : w9.cell? ⟨gs, 0, none⟩ = some (.int .i64 s0) := (hb9.cell (p := ⟨gs, 0, none⟩) (show gs < w8.heap.size by omega)).trans hcs8
            have hne9 : b9 ≠ r1 := by omega
            have y1 := hX9.cell 1
            have z0 := HY9.out.cell 0
            have z1 := HY9.out.cell 1
            have zf := HY9.out.frozen 1
            have zl : r1 < w9.heap.size := HY9.out.lt
            simp at y1 z0 z1
            have HNx2 := Lib.hid HNx.out
            obtain ⟨dd, hdd⟩ : ∃ dd, dd = (p.sec == s0) := ⟨_, rfl⟩
            have hdd2 : (p.sec == s0) = dd := hdd.symm
            rw [← hdd] at HNx
            clear hw9 hb9 hb9e hcs8 hdd HNx2 HY8 HT8
            go_region_held3 (fun V => V.cell? ⟨b9, 1, none⟩ = some (.int .i64 p.sec) ∧ V.cell? ⟨r1, 0, none⟩ = some (.slice (some ⟨gs, 0, none⟩) 1 cV) ∧ V.cell? ⟨gs, 0, none⟩ = some (.int .i64 s0))
              (first | exact ⟨y1, z0, hcs9⟩ | (refine ⟨?_, ?_, ?_⟩ <;> first | exact (World.cell?_setCell_far _ _ _ _ (Ne.symm hne9)).trans y1 | exact (World.cell?_setCell_other _ _ _ _ (by simp)).trans z0 | exact (World.cell?_setCell_far _ _ _ _ (Ne.symm hgs1')).trans hcs9))
              (fail)
            have hY10 := (HY9.out.drew).set_ 1 (.bool dd)
            have HY10 := Lib.hid hY10
            have HT10 := Lib.hid (HT9.out.drew.setCell (p := ⟨r1, 1, none⟩) (fun _ => rfl) (.bool dd))
            clear hY10
            go_wp2
            go_roundw
            case rel => (repeat apply Exists.intro); exact ⟨⟨j + 1, dd, by omega, by go_num, HY10.out, HT10.out, HNx.out⟩, rfl⟩
            case measure => simp [intOf]; omega
          · have HE := Lib.hid (show fj = (fb && WL.all fun k => decide (secOf x k = PS.headD 0)) from by
              by_cases hj2 : j < WL.length
              · have hff : fj = false := by
                  cases fj with
                  | false => rfl
                  | true => exact absurd ⟨hj2, rfl⟩ hgo
                rw [hff]
                have h1 := hfj.out
                rw [hff] at h1
                cases fb with
                | false => rfl
                | true =>
                  rw [Bool.true_and] at h1 ⊢
                  symm
                  rw [List.all_eq_false]
                  have h2 := h1.symm
                  rw [List.all_eq_false] at h2
                  obtain ⟨z, hz, h3⟩ := h2
                  exact ⟨z, List.mem_of_mem_take hz, h3⟩
              · have h1 := hfj.out
                rwa [show j = WL.length by omega, List.take_length] at h1)
            have hcases : (¬ j < WL.length) ∨ (j < WL.length ∧ fj = false) := by
              by_cases h1 : j < WL.length
              · right
                refine ⟨h1, ?_⟩
                cases fj with
                | false => rfl
                | true => exact absurd ⟨h1, rfl⟩ hgo
              · exact .inl h1
            have HF2 := Lib.hid (show pn = some (PS, fj) from by
              rw [HF.out, HE.out, HFb.out]
              congr 2
              rw [HAl.out]
              congr 1
              rw [Bool.eq_iff_iff]
              simp
              omega)
            have hc0 := hY.cell 0
            simp at hc0
            have x0 := HX.out.cell 0
            have x1 := HX.out.cell 1
            have xf0 := HX.out.frozen 0
            have xf1 := HX.out.frozen 1
            have xl : w.heap.size < wp.heap.size := HX.out.lt
            simp at x0 x1
            have hr1p : r1 < wp.heap.size := hY.lt
            have HB6 := Lib.hid (below_turn HB4.out (HT6.out.trans HT.out (fun i hi e => e)) (fun i hi e => by omega))
            clear hgo hY hT hfj HE HF
            rcases hcases with hge | ⟨hlt, rfl⟩
            · go_wp2
              have F := (HX.out.set_ 0 (.slice AV PS.length cV)).set_ 1 (.bool fj)
              have T := (((Turn.refl (fun j => j = w.heap.size) wp).setCell (p := ⟨w.heap.size, 0, none⟩) (fun _ => rfl) (.slice AV PS.length cV)).setCell (p := ⟨w.heap.size, 1, none⟩) (fun _ => rfl) (.bool fj))
              have hbl2 := HB6.out.trans (T.below (B := w.heap.size) HB6.out.size (fun i hi e => by omega))
              have hA := Blk.arrs HO.out.arr T (fun j e => by rw [e]; exact ⟨_, HX.out⟩) (by decide)
              have z0 := F.cell 0
              have z1 := F.cell 1
              generalize ((wp.setCell ⟨w.heap.size, 0, none⟩ (.slice AV PS.length cV)).setCell ⟨w.heap.size, 1, none⟩ (.bool fj)) = X at *
              simp at z0 z1
              exact bodyPost_ret (v := .tuple #[batV (.slice AV PS.length cV) fj, .bool true]) (by simp [results, Try.results38, go_sem, batV, z0, z1]) rfl ⟨.slice AV PS.length cV, by rw [HF2.out]; rfl, by rw [HF2.out]; exact hA, hbl2⟩
            · go_wp2
              have F := (HX.out.set_ 0 (.slice AV PS.length cV)).set_ 1 (.bool false)
              have T := (((Turn.refl (fun j => j = w.heap.size) wp).setCell (p := ⟨w.heap.size, 0, none⟩) (fun _ => rfl) (.slice AV PS.length cV)).setCell (p := ⟨w.heap.size, 1, none⟩) (fun _ => rfl) (.bool false))
              have hbl2 := HB6.out.trans (T.below (B := w.heap.size) HB6.out.size (fun i hi e => by omega))
              have hA := Blk.arrs HO.out.arr T (fun j e => by rw [e]; exact ⟨_, HX.out⟩) (by decide)
              have z0 := F.cell 0
              have z1 := F.cell 1
              generalize ((wp.setCell ⟨w.heap.size, 0, none⟩ (.slice AV PS.length cV)).setCell ⟨w.heap.size, 1, none⟩ (.bool false)) = X at *
              simp at z0 z1
              exact bodyPost_ret (v := .tuple #[batV (.slice AV PS.length cV) false, .bool true]) (by simp [results, Try.results38, go_sem, batV, z0, z1]) rfl ⟨.slice AV PS.length cV, by rw [HF2.out]; rfl, by rw [HF2.out]; exact hA, hbl2⟩
end Go.Proofs.Ytmkfaibjjbgbbaa
namespace Go.Proofs.Ytmkfaibjjbgbbaa
open Go.RowKit
set_option linter.unusedVariables false
attribute [local go_sem ↓] Go.wp_at_zero Go.wp_at_succ

theorem secsG_is {x : G} {M : List Int} (h : secsRaw (liveL x) = M) (hM : M.Pairwise (· < ·)) : secsG x = M := by
  unfold secsG
  rw [h]
  exact sort_is (hM.imp fun h e => by omega) hM fun _ => Iff.rfl
def g5 : G := ⟨2, []⟩
theorem secs_g2 : secsG g2 = [3, 4] := secsG_is rfl (by simp)
theorem secs_g4 : secsG g4 = [4] := secsG_is rfl (by simp)
theorem next_g2 : planNext g2 [2] = some ([3], true) := by
  unfold planNext planSecs
  rw [secs_g2]
  rfl
theorem next_g4 : planNext g4 [2] = some ([4], true) := by
  unfold planNext planSecs
  rw [secs_g4]
  rfl
theorem next_g5 : planNext g5 [2] = none := rfl
theorem carry_g2 : carryG g2 [3] = g4 := rfl
theorem carry_g4 : carryG g4 [4] = g5 := rfl
theorem fine_g2 : Fine g2 := ⟨rise_b, by decide, fun p hp => by
  have hf := fit_b p hp
  simp only [g2, List.mem_cons, List.mem_nil_iff, or_false] at hp
  rcases hp with rfl | rfl
  · exact ⟨hf, key_wf (by decide) (by decide), (fun k hk => by cases hk), by decide⟩
  · exact ⟨hf, key_wf (by decide) (by decide), (fun k hk => by
      simp only [pb, Pt.as, List.mem_cons, List.mem_nil_iff, or_false] at hk
      subst hk
      decide), by decide⟩⟩
theorem batches_g2 : batchesG g2 [2] = [([3], true), ([4], true)] := by
  show batchesF [2] 3 g2 = _
  show (match planNext g2 [2] with | none => [] | some b => b :: batchesF [2] 2 (carryG g2 b.1)) = _
  rw [next_g2]
  show ([3], true) :: batchesF [2] 2 (carryG g2 [3]) = _
  rw [carry_g2]
  show ([3], true) :: (match planNext g4 [2] with | none => [] | some b => b :: batchesF [2] 1 (carryG g4 b.1)) = _
  rw [next_g4]
  show ([3], true) :: ([4], true) :: batchesF [2] 1 (carryG g4 [4]) = _
  rw [carry_g4, batches_off next_g5]

theorem Bats.at {B : Nat} {w : World} {v : Value} {bs : List (List Int × Bool)} (h : Bats B w v bs) (hb : 0 < bs.length) : ∃ g c, v = .slice (some ⟨g, 0, none⟩) bs.length c ∧ bs.length ≤ c ∧ c ≤ maxLen ∧ g < w.heap.size ∧ ∀ (k : Nat) (b : List Int × Bool), bs[k]? = some b → ∃ sv, Arr w 3 sv (ints b.1) ∧ w.cell? ⟨g, k * 2, none⟩ = some sv ∧ w.cell? ⟨g, k * 2 + 1, none⟩ = some (.bool b.2) := by
  obtain ⟨L, rfl, h1, h2⟩ := h
  rw [List.length_map] at hb ⊢
  rcases h1.2 with ⟨_, h0⟩ | ⟨g, cap, cur, hv, _, hg, hnc, hcm, hcs, ht⟩
  · omega
  · refine ⟨g, cap, hv, hnc, hcm, (Array.getElem?_eq_some_iff.1 hg).1, fun k b hk => ?_⟩
    rw [List.getElem?_map] at hk
    cases hL : L[k]? with
    | none => rw [hL] at hk; cases hk
    | some e =>
      rw [hL] at hk
      have hb2 : e.2 = b := by simpa using hk
      have hkl : k < L.length := by
        rcases Nat.lt_or_ge k L.length with h | h
        · exact h
        · rw [List.getElem?_eq_none h] at hL; cases hL
      have hcells : ∀ (L : List (Value × List Int × Bool)) (k : Nat) (e : Value × List Int × Bool), L[k]? = some e → (batCells L)[k * 2]? = some e.1 ∧ (batCells L)[k * 2 + 1]? = some (.bool e.2.2) := by
        intro L
        induction L with
        | nil => intro k e h; cases h
        | cons a L ih =>
          intro k e h
          have hc : batCells (a :: L) = a.1 :: .bool a.2.2 :: batCells L := rfl
          rw [hc]
          cases k with
          | zero => simp at h; subst h; exact ⟨rfl, rfl⟩
          | succ k =>
            have := ih k e (by simpa using h)
            rw [show (k + 1) * 2 = k * 2 + 1 + 1 by omega]
            simpa using this
      obtain ⟨c0, c1⟩ := hcells L k e hL
      have hbk : Blk w g 61 cur := hg
      refine ⟨e.1, ?_, ?_, ?_⟩
      · rw [← hb2]; exact h2 e (List.mem_of_getElem? hL)
      · rw [hbk.cell]
        rw [← ht, List.getElem?_take_of_lt (by omega)] at c0
        simpa using c0
      · rw [hbk.cell, ← hb2]
        rw [← ht, List.getElem?_take_of_lt (by omega)] at c1
        simpa using c1

set_option maxHeartbeats 2000000 in
set_option maxRecDepth 100000 in
theorem works16_any (w : World) : Calls Try.prog 31 #[] w fun e w' => e = .returned (.bool true) ∧ Below w.heap.size w w' := by
  go_enter Try.func31, Try.ntmps31
  go_wp2_with fail
  refine (new_any w).mono ?_
  rintro e w1 ⟨g, mb, rfl, hG1, hb1, hgn, hmn⟩
  have HG1 := Lib.hid hG1
  have HB1 := Lib.hid hb1
  have hgl := hG1.lt
  have hs : ∀ i, i < w.heap.size → ¬ (i = g ∨ i = mb) := fun i hi e => by omega
  clear hG1 hb1
  go_wp2_with fail
  refine (add_any g mb 0 G.none _ pa _ (HG1.out.alloc _) ⟨_, _, rfl, Arr.one w1 5 (.int .u8 1), Arr.nil _ _⟩ (by decide) (by decide) (by decide) (by decide) (by omega) (fun q hq => by cases hq)).mono ?_
  rintro e w2 ⟨rfl, hG2, hT2⟩
  rw [add_a] at hG2 ⊢
  have HG2 := Lib.hid hG2
  have HB2 := Lib.hid (below_turn (HB1.out.alloc HB1.out.size _) hT2 hs)
  clear hG2 hT2
  go_wp2_with fail
  refine (add_any g mb 1 g1 _ pb _ ((HG2.out.alloc _).alloc _) ⟨_, _, rfl, (Arr.one w2 5 (.int .u8 1)).alloc _, ?harr⟩ (by decide) (by decide) (by decide) (by decide) (by omega) (fun q hq => by simp [g1, pa, Pt.as] at hq; subst hq; decide)).mono ?_
  case harr =>
    have := Arr.one (w2.alloc (.cells #[.int .u8 1] 5)) 3 (.int .i64 1)
    show Arr _ _ _ [Value.int .i64 1]
    simpa using this
  rintro e w3 ⟨rfl, hG3, hT3⟩
  rw [add_b] at hG3 ⊢
  have HG3 := Lib.hid hG3
  have HB3 := Lib.hid (below_turn ((HB2.out.alloc HB2.out.size _).alloc (by have := HB2.out.size; simp; omega) _) hT3 hs)
  clear hG3 hT3
  go_wp2_with fail
  refine (batches_any g mb 2 g2 _ [2] _ (HG3.out.alloc _) fine_g2 (by decide) (Arr.one w3 3 (.int .i64 2)) (by decide) (fun id h => by simp at h; subst h; exact key_wf (by omega) (by omega))).mono ?_
  rintro e w4 ⟨r4, rfl, hr4, hb4⟩
  rw [batches_g2] at hr4
  obtain ⟨gl, c, rfl, hc1, hc2, hgl4, hat⟩ := hr4.at (by simp)
  obtain ⟨s0, ha0, h00, h01⟩ := hat 0 _ rfl
  obtain ⟨s1, ha1, h10, h11⟩ := hat 1 _ rfl
  have HG4 := Lib.hid ((HG3.out.alloc _).below hb4)
  have HB4 := Lib.hid ((HB3.out.alloc HB3.out.size _).trans (hb4.mono (by have := HB3.out.size; simp; omega)))
  have HA0 := Lib.hid ha0
  have HA1 := Lib.hid ha1
  obtain ⟨A0, k0, rfl, -, -⟩ := ha0.len
  obtain ⟨A1, k1, rfl, -, -⟩ := ha1.len
  simp at h00 h01 h10 h11
  clear hr4 hb4 hat ha0 ha1
  go_wp2_with fail
  refine (sameInts_any _ _ [3] [3] _ (HA0.out.alloc _) (Arr.one w4 3 (.int .i64 3))).mono ?_
  rintro e w5 ⟨rfl, n5, rfl⟩
  rw [decide_eq_true rfl]
  have HB5 := Lib.hid (show Below w.heap.size w ((w4.alloc (.cells #[.int .i64 3] 3)).drewN n5) from by
    have h := HB4.out.alloc HB4.out.size (.cells #[.int .i64 3] 3)
    exact ⟨h.os, h.tape, h.output, h.size, h.block⟩)
  have HG5 := Lib.hid ((HG4.out.alloc (.cells #[.int .i64 3] 3)).drewN n5)
  have HA5 := Lib.hid ((HA1.out.alloc (.cells #[.int .i64 3] 3)).drewN n5)
  obtain ⟨w5, hw5⟩ : ∃ w5, w5 = (w4.alloc (.cells #[.int .i64 3] 3)).drewN n5 := ⟨_, rfl⟩
  have h01' : w5.cell? ⟨gl, 1, none⟩ = some (.bool true) := by rw [hw5]; exact (((Below.refl w4.heap.size w4).alloc (Nat.le_refl _) _).cell (p := ⟨gl, 1, none⟩) hgl4).trans h01
  have h10' : w5.cell? ⟨gl, 2, none⟩ = some (.slice A1 (ints [4]).length k1) := by rw [hw5]; exact (((Below.refl w4.heap.size w4).alloc (Nat.le_refl _) _).cell (p := ⟨gl, 2, none⟩) hgl4).trans h10
  have h11' : w5.cell? ⟨gl, 3, none⟩ = some (.bool true) := by rw [hw5]; exact (((Below.refl w4.heap.size w4).alloc (Nat.le_refl _) _).cell (p := ⟨gl, 3, none⟩) hgl4).trans h11
  have hgl5 : gl < w5.heap.size := by rw [hw5]; simp; omega
  rw [← hw5] at HB5 HG5 HA5 ⊢
  clear hw5 h00 h01 h10 h11
  go_wp2_with fail
  refine (sameInts_any _ _ [4] [4] _ (HA5.out.alloc _) (Arr.one w5 3 (.int .i64 4))).mono ?_
  rintro e w6 ⟨rfl, n6, rfl⟩
  rw [decide_eq_true rfl]
  have HB6 := Lib.hid (show Below w.heap.size w ((w5.alloc (.cells #[.int .i64 4] 3)).drewN n6) from by
    have h := HB5.out.alloc HB5.out.size (.cells #[.int .i64 4] 3)
    exact ⟨h.os, h.tape, h.output, h.size, h.block⟩)
  have HG6 := Lib.hid ((HG5.out.alloc (.cells #[.int .i64 4] 3)).drewN n6)
  obtain ⟨w6, hw6⟩ : ∃ w6, w6 = (w5.alloc (.cells #[.int .i64 4] 3)).drewN n6 := ⟨_, rfl⟩
  have h11'' : w6.cell? ⟨gl, 3, none⟩ = some (.bool true) := by rw [hw6]; exact (((Below.refl w5.heap.size w5).alloc (Nat.le_refl _) _).cell (p := ⟨gl, 3, none⟩) hgl5).trans h11'
  have hgl6 : gl < w6.heap.size := by rw [hw6]; simp; omega
  rw [← hw6] at HB6 HG6 ⊢
  clear hw6 h01' h10' h11'
  go_wp2_with fail
  refine (alls_any g mb 2 g2 _ (by exact HG6.out) rise_b (by decide)).mono ?_
  rintro e w7 ⟨r7, rfl, hr7, hb7⟩
  obtain ⟨A7, k7, rfl, -, -⟩ := hr7.arr.len
  rw [ints_len, show (idsOf g2 fun _ => true).length = 2 from rfl]
  have HB7 := Lib.hid (HB6.out.trans (hb7.mono HB6.out.size))
  clear hr7 hb7
  go_wp2
  go_ret
  exact ⟨rfl, HB7.out⟩

set_option maxHeartbeats 2000000 in
set_option maxRecDepth 100000 in
theorem none_any (v : Value) (ids : List Int) (s : Int) (w : World) (hv : Row w v (ints ids)) :
    Calls Try.prog 9 #[v, .int .i64 s] w fun e w' => e = .returned (.bool true) ∧ Below w.heap.size w w' := by
  have HV := Lib.hid hv
  obtain ⟨A, c, rfl, h1, h2, h0, -⟩ := hv
  rw [ints_len] at h1 HV ⊢
  unfold maxLen at h2
  have m1 : (min (↑ids.length : Int) 8).toNat = min ids.length 8 := by omega
  have HI := Lib.hid fun (W : World) (h : Below w.heap.size w W) => show Calls Try.prog 33 #[.slice A (min (↑ids.length : Int) 8).toNat c] W fun e w' => ∃ r, e = .returned r ∧ Built W.heap.size w' r (ids.take 8) ∧ Below W.heap.size W w' from by
    have h3 := ((HV.out).take 8).1.below h
    rw [ints_take] at h3
    have := ints_copy (.slice A (min ids.length 8) c) (ints (ids.take 8)) W h3 ints_one (by rw [ints_len]; simp; omega)
    rw [m1]
    rw [ints_len] at this
    exact this
  clear m1 HV
  go_enter Try.func9, Try.ntmps9
  go_wp2_with fail
  refine (works16_any w).mono ?_
  rintro e w1 ⟨rfl, hb1⟩
  have HB1 := Lib.hid hb1
  clear hb1
  go_wp2_with fail
  refine (HI.out _ HB1.out).mono ?_
  rintro e w2 ⟨r, rfl, hr, hb2⟩
  have HB2 := Lib.hid (HB1.out.trans (hb2.mono HB1.out.size))
  clear hr hb2
  go_wp2_with fail
  refine (next_nil r w2).mono ?_
  rintro e w3 ⟨rfl, hb3⟩
  have HB3 := Lib.hid (HB2.out.trans (hb3.mono HB2.out.size))
  clear hb3
  unfold batV
  go_wp2_with fail
  refine (batches_nil r _).mono ?_
  rintro e w4 ⟨rfl, hb4⟩
  have HB4 := Lib.hid ((HB3.out.alloc HB3.out.size _).trans (hb4.mono (by have := HB3.out.size; simp; omega)))
  clear hb4
  go_wp2_with fail
  have hcn := carry_nil (.slice (some ⟨w4.heap.size, 0, none⟩) 1 1) [s] false (w4.alloc (.cells #[.int .i64 s] 3)) (Arr.one w4 3 (.int .i64 s))
  unfold batV at hcn
  refine hcn.mono ?_
  rintro e w5 ⟨A5, c5, rfl, hb5⟩
  have HB5 := Lib.hid ((HB4.out.alloc HB4.out.size _).trans (hb5.mono (by have := HB4.out.size; simp; omega)))
  clear hb5 hcn
  go_wp2_with fail
  refine (cost_nil w5).mono ?_
  rintro e w6 ⟨rfl, hb6⟩
  have HB6 := Lib.hid (HB5.out.trans (hb6.mono HB5.out.size))
  clear hb6
  go_wp2
  go_ret
  exact ⟨rfl, HB6.out⟩
end Go.Proofs.Ytmkfaibjjbgbbaa
namespace Go.Proofs.Ytmkfaibjjbgbbaa
open Go.RowKit
set_option linter.unusedVariables false
attribute [local go_sem ↓] Go.wp_at_zero Go.wp_at_succ

theorem next_ready {x : G} {I : List Int} {s : Int} (h : s ∈ ((planNext x I).map (·.1)).getD []) : ((readyG x s).length : Int) ≠ 0 := by
  unfold planNext at h
  split at h
  · simp at h
  · simp only [Option.map_some, Option.getD_some] at h
    have h2 := (List.mem_filter.1 h).2
    rw [List.any_eq_true] at h2
    obtain ⟨y, hy, -⟩ := h2
    have := List.length_pos_of_mem hy
    omega

set_option maxHeartbeats 8000000 in
set_option maxRecDepth 100000 in
theorem planNext_any (A : Option Addr) (n c : Nat) (l : List PtD) (v u : Value) (wids ids : List Int) (w : World) (hA : PatsR w A n l) (hn : n ≤ c) (hc : c ≤ 9223372036854775807) (hv : Row w v (ints wids)) (hk : ∀ k ∈ wids, (key k).wf = true) (hu : Row w u (ints ids)) (hku : ∀ k ∈ ids, (key k).wf = true) :
    Calls Try.prog 7 #[.slice A n c, v, u] w fun e w' => e = .returned (.bool true) ∧ Below w.heap.size w w' := by
  have HM := Lib.hid (made_any A n c l v wids w hA hn hc hv hk)
  have HV := Lib.hid hu
  obtain ⟨B, d, rfl, k1, k2, k0, -⟩ := hu
  obtain ⟨I, hI⟩ : ∃ I, I = ids.take 8 := ⟨_, rfl⟩
  have hIl : I.length ≤ 8 := by rw [hI]; simp; omega
  have HIk := Lib.hid (show ∀ k ∈ I, (key k).wf = true from fun k hk => hku k (List.mem_of_mem_take (by rw [← hI]; exact hk)))
  rw [ints_len] at k1 HV ⊢
  unfold maxLen at k2
  have m1 : (min (↑ids.length : Int) 8).toNat = min ids.length 8 := by omega
  have HIr := Lib.hid fun (W : World) (h : Below w.heap.size w W) => show Row W (.slice B (min (↑ids.length : Int) 8).toNat d) (ints I) from by
    have h3 := ((HV.out).take 8).1.below h
    rw [ints_take, ← hI] at h3
    rw [m1]
    exact h3
  have HI := Lib.hid fun (W : World) (h : Below w.heap.size w W) => show Calls Try.prog 33 #[.slice B (min (↑ids.length : Int) 8).toNat d] W fun e w' => ∃ r, e = .returned r ∧ Built W.heap.size w' r I ∧ Below W.heap.size W w' from by
    have := ints_copy _ (ints I) W (HIr.out W h) ints_one (by rw [ints_len]; omega)
    rw [ints_len] at this
    exact this
  clear m1 HV hA hv hk hku hI
  go_enter Try.func7, Try.ntmps7
  go_wp2_with fail
  refine HM.out.mono ?_
  rintro e w2 ⟨g, mb, b, nb, x, rfl, hG2, hR2, hF2, -, hxl, hnb, hb2, hg2, hmb2, -, -⟩
  have HG2 := Lib.hid hG2
  have HR2 := Lib.hid hR2
  have HF := Lib.hid hF2
  have HB2 := Lib.hid hb2
  clear hG2 hR2 hF2 hb2 HM
  go_wp2_with fail
  refine (HI.out _ HB2.out).mono ?_
  rintro e w3 ⟨r3, rfl, hr3, hb3⟩
  have HN3 := Lib.hid (next_some g mb nb x r3 I w3 (HG2.out.below hb3) HF.out hr3.arr (by omega) HIk.out)
  have HG3 := Lib.hid (HG2.out.below hb3)
  have HR3 := Lib.hid (HR2.out.below hb3)
  have HB3 := Lib.hid (HB2.out.trans (hb3.mono HB2.out.size))
  clear hr3 hb3 HG2 HR2 HB2
  have HRn := Lib.hid fun (W : World) (hR : RG W b x) (h : Below w.heap.size w W) => rnext_any b x _ I W hR HF.out (HIr.out W h)
  have HRdy := Lib.hid fun (s : Int) (h : s ∈ ((planNext x I).map (·.1)).getD []) => next_ready h
  have HPl := Lib.hid (show (((planNext x I).map (·.1)).getD []).length ≤ 1000 from by
    unfold planNext
    split
    · simp
    · simp only [Option.map_some, Option.getD_some]
      exact Nat.le_trans (List.length_filter_le _ _) (Nat.le_trans (secsG_len x) HF.out.len))
  generalize ((planNext x I).map (·.1)).getD [] = PL at *
  generalize ((planNext x I).map (·.2)).getD false = PF at *
  generalize (planNext x I).isSome = PI at *
  go_wp2_with fail
  refine HN3.out.mono ?_
  rintro e w4 ⟨sv, rfl, hS4, hb4⟩
  obtain ⟨S1, c1, rfl, hs1, hs1m, -⟩ := hS4.arr.ints_at
  unfold maxLen at hs1m
  have HS4 := Lib.hid hS4.arr
  have HG4 := Lib.hid (HG3.out.below hb4)
  have HR4 := Lib.hid (HR3.out.below hb4)
  have HB4 := Lib.hid (HB3.out.trans (hb4.mono HB3.out.size))
  clear hS4 hb4 HG3 HR3 HB3 HN3
  unfold batV
  go_wp2_with fail
  obtain ⟨w5, hw5⟩ : ∃ w5, w5 = w4.alloc (.cells #[.slice S1 PL.length c1, .bool PF] 61) := ⟨_, rfl⟩
  rw [← hw5]
  have hb5 : Below w4.heap.size w4 w5 := by rw [hw5]; exact (Below.refl _ _).alloc (Nat.le_refl _) _
  have HX5 := Lib.hid (show Blk w5 w4.heap.size 61 #[.slice S1 PL.length c1, .bool PF] from by rw [hw5]; exact Blk.new _ _ _)
  have HS5 := Lib.hid (HS4.out.below hb5)
  have HG5 := Lib.hid (HG4.out.below hb5)
  have HR5 := Lib.hid (HR4.out.below hb5)
  have HB5 := Lib.hid (HB4.out.trans (hb5.mono HB4.out.size))
  obtain ⟨b5, hb5e⟩ : ∃ b5, b5 = w4.heap.size := ⟨_, rfl⟩
  rw [← hb5e] at HX5 ⊢
  clear hw5 hb5 hb5e HS4 HG4 HR4 HB4
  refine (HRn.out _ HR5.out HB5.out).mono ?_
  rintro e w6 ⟨sv2, rfl, hS6, hb6⟩
  obtain ⟨S2, c2, rfl, hs2, hs2m⟩ := hS6.len
  rw [ints_len] at hS6 hs2 ⊢
  have HT6 := Lib.hid hS6
  have HS6 := Lib.hid (HS5.out.below hb6)
  have HX6 := Lib.hid (HX5.out.below hb6 HX5.out.lt)
  have HG6 := Lib.hid (HG5.out.below hb6)
  have HB6 := Lib.hid (HB5.out.trans (hb6.mono HB5.out.size))
  have hl6 : b5 < w6.heap.size := HX6.out.lt
  clear hS6 hb6 HS5 HX5 HG5 HR5 HB5 HRn
  unfold batV
  go_wp2_with fail
  obtain ⟨w7, hw7⟩ : ∃ w7, w7 = w6.alloc (.cells #[.slice S2 PL.length c2, .bool PF] 66) := ⟨_, rfl⟩
  rw [← hw7]
  have hb7 : Below w6.heap.size w6 w7 := by rw [hw7]; exact (Below.refl _ _).alloc (Nat.le_refl _) _
  have HY7 := Lib.hid (show Blk w7 w6.heap.size 66 #[.slice S2 PL.length c2, .bool PF] from by rw [hw7]; exact Blk.new _ _ _)
  have HX7 := Lib.hid (HX6.out.below hb7 hl6)
  have HS7 := Lib.hid (HS6.out.below hb7)
  have HT7 := Lib.hid (HT6.out.below hb7)
  have HG7 := Lib.hid (HG6.out.below hb7)
  have HB7 := Lib.hid (HB6.out.trans (hb7.mono HB6.out.size))
  obtain ⟨b7, hb7e⟩ : ∃ b7, b7 = w6.heap.size := ⟨_, rfl⟩
  rw [← hb7e] at HY7 ⊢
  have hl7 : b5 < w7.heap.size := HX7.out.lt
  have hk7 : b7 < w7.heap.size := HY7.out.lt
  clear hw7 hb7 hb7e HX6 HS6 HT6 HG6 HB6
  have HAt := Lib.hid (show ∀ (k : Nat) (y : Int), PL[k]? = some y → ∃ gb o, S1 = some ⟨gb, o, none⟩ ∧ gb < w7.heap.size ∧ w7.cell? ⟨gb, o + k, none⟩ = some (.int .i64 y) from by
    obtain ⟨S', c', e, -, -, h⟩ := HS7.out.ints_at
    injection e with e1 e2 e3
    subst e1
    exact h)
  go_loopw [13] (fun i wr => ∃ k : Nat, k ≤ PL.length ∧ i = .int .i64 k ∧ Below w7.heap.size w7 wr) (fun i _ => PL.length - (intOf i).toNat)
  case atStart => exact ⟨0, Nat.zero_le _, rfl, Below.refl _ _⟩
  case round =>
    obtain ⟨k, hk, rfl, hbel⟩ := hrel
    have HB := Lib.hid hbel
    have hsz := hbel.size
    have hX := HX7.out.below hbel hl7
    have hY := HY7.out.below hbel hk7
    have c0 := hX.cell 0
    have c1' := hX.cell 1
    have d0 := hY.cell 0
    have d1 := hY.cell 1
    simp at c0 c1' d0 d1
    by_cases hlt : k < PL.length
    · obtain ⟨s, hs⟩ : ∃ s, PL[k]? = some s := ⟨_, List.getElem?_eq_getElem hlt⟩
      obtain ⟨gb, o, rfl, hgb, hcy⟩ := HAt.out k s hs
      have hc1 : wr.cell? ⟨gb, o + k, none⟩ = some (.int .i64 s) := (hbel.cell (p := ⟨gb, o + k, none⟩) hgb).trans hcy
      have hne := HRdy.out s (List.mem_of_getElem? hs)
      have ht : (((readyG x s).length : Int) == 0) = false := by simpa using hne
      have HRd := Lib.hid (ready_any g mb nb x s wr (HG7.out.below hbel) HF.out.rise (by have := HF.out.len; omega) (fun p hp => (HF.out.all p hp).1))
      clear hbel hX hY hs hcy hne
      generalize readyG x s = R at *
      go_wp2_with fail
      refine HRd.out.mono ?_
      rintro e w9 ⟨r9, rfl, hr9, hb9⟩
      obtain ⟨A9, c9, rfl, -, -⟩ := hr9.arr.len
      have HB9 := Lib.hid (HB.out.trans (hb9.mono hsz))
      rw [ints_len]
      clear hr9 hb9 HRd c0 c1' d0 d1 hc1
      go_wp2
      go_roundw
      case rel => exact ⟨k + 1, by omega, by go_num, HB9.out⟩
      case measure => simp [intOf]; omega
    · obtain rfl : k = PL.length := by omega
      have HSm := Lib.hid (sameInts_same _ _ PL wr (HS7.out.below hbel) (HT7.out.below hbel))
      have HX := Lib.hid hX
      have HY := Lib.hid hY
      clear hbel hX hY
      go_wp2_with fail
      refine HSm.out.mono ?_
      rintro e w9 ⟨rfl, hb9⟩
      have hX := HX.out.below hb9 HX.out.lt
      have hY := HY.out.below hb9 HY.out.lt
      have HB9 := Lib.hid ((HB7.out.trans (HB.out.mono HB7.out.size)).trans (hb9.mono (by have := HB7.out.size; omega)))
      clear c0 c1' d0 d1
      have c1' := hX.cell 1
      have d1 := hY.cell 1
      simp at c1' d1
      clear hb9 hX hY
      go_wp2_with fail
      refine (works16_any _).mono ?_
      rintro e w10 ⟨rfl, hb10⟩
      have HB10 := Lib.hid (HB9.out.trans (hb10.mono HB9.out.size))
      clear hb10
      go_wp2
      go_ret
      exact ⟨by first | rfl | simp, HB10.out⟩
end Go.Proofs.Ytmkfaibjjbgbbaa
