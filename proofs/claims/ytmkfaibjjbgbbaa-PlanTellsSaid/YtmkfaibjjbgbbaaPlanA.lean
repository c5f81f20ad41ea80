/- plan.sectors, plan.alone. -/
import Derived.Test.YtmkfaibjjbgbbaaNeeded
namespace Go.Proofs.Ytmkfaibjjbgbbaa
open Go.RowKit
set_option linter.unusedVariables false

theorem MapIs.len {w : World} {b n : Nat} {f : Int → Option Value} {t e : TypeId} (h : MapIs w b n f) (ht : Try.prog.underlying t = some (.map 3 e)) :
    ∃ m : Nat, (∀ ty, (Builtin.len_ #[t] ty #[.map (some b)]).run Try.prog w = .ok (.int .i64 m) w) ∧ m ≤ n ∧ ∀ k v, f k = some v → 1 ≤ m := by
  obtain ⟨D, h, r⟩ := h
  refine ⟨Maps.size D, fun ty => h.len ht ty, h.size_le, fun k v hk => ?_⟩
  have h1 := ((r k).1 v hk).1
  obtain ⟨es, rfl⟩ := isMap_of h
  rw [Maps.size_eq]
  rw [Maps.has_eq] at h1
  cases es with
  | nil => cases h1
  | cons => simp

def planSecs (x : G) (need : List Int) : List Int := (secsG x).filter fun s => (readyG x s).any fun id => decide (id ∈ need)

theorem enters101 : ∀ args w, (callFunc 101 args).run Try.prog w = .ok (.enter 101 args) w := enters_of Try.func101 (by kernel_rfl) rfl
theorem ask101 (b mx n : Nat) (L : List Int) (k : Int) (W : World) (hb : W.cell? ⟨b, 0, none⟩ = some (.map (some mx))) (hm : MapIs W mx n (seenF L)) (hk : (key k).wf = true) :
    Calls Try.prog 101 #[.int .i64 k, .pointer (some ⟨b, 0, none⟩)] W fun e w' => e = .returned (.bool (decide (k ∈ L))) ∧ Below W.heap.size W w' := by
  have hbl : b < W.heap.size := World.block_lt_of_cell? W _ hb
  have hlk := hm.look Try.underlying84 (zero4 _) hk
  rw [seen_get] at hlk
  clear hm
  go_enter Try.func101, Try.ntmps101
  go_wp2
  go_ret
  exact ⟨rfl, Below.refl _ _⟩

theorem readyG_mem {x : G} {s id : Int} (h : id ∈ readyG x s) : ∃ p ∈ x.l, p.id = id := by
  unfold readyG at h
  obtain ⟨p, hp, rfl⟩ := List.mem_map.1 h
  exact ⟨p, (rdy_mem (x := x) (openL x s) ([], []) (· ∈ x.l) (fun q h => by cases h) (fun q h => by cases h) (fun q h => (List.mem_filter.1 h).1)).1 p hp, rfl⟩
theorem secsG_len (x : G) : (secsG x).length ≤ x.l.length := by
  unfold secsG
  rw [List.length_mergeSort]
  have h1 := secs_len (liveL x) []
  have h2 := List.length_filter_le (fun p : Pt => !p.written) x.l
  unfold secsRaw
  unfold liveL at *
  simp at h1
  omega
theorem Fine.ready_wf {x : G} (h : Fine x) {s id : Int} (hi : id ∈ readyG x s) : (key id).wf = true := by
  obtain ⟨p, hp, rfl⟩ := readyG_mem hi
  have := (h.all p hp).1.2.1
  exact key_wf (by omega) (by omega)
theorem filter_on {q : Int → Bool} {S : List Int} {k : Nat} {s : Int} (h : S[k]? = some s) : (S.take (k + 1)).filter q = (S.take k).filter q ++ (if q s then [s] else []) := by
  rw [List.take_add_one, h, List.filter_append]
  congr 1
  by_cases hq : q s = true
  · simp [hq]
  · simp [hq]

set_option maxHeartbeats 2000000 in
theorem planSecs_any (g mb n mx nx : Nat) (x : G) (need : List Int) (w : World) (hG : Gr w g mb n x) (hF : Fine x) (hm : MapIs w mx nx (seenF need)) :
    Calls Try.prog 80 #[.pointer (some ⟨g, 0, none⟩), .map (some mx)] w fun e w' => ∃ r, e = .returned r ∧ Built w.heap.size w' r (planSecs x need) ∧ Below w.heap.size w w' := by
  obtain ⟨i0, hi0, hz0, hz1, hz2⟩ := info_parts info3
  have hmk := hmf
  have HG := Lib.hid hG
  have HF := Lib.hid hF
  have HM := Lib.hid hm
  have ha : Below w.heap.size w (w.alloc (.cells #[.map (some mx)] 84)) := (Below.refl _ _).alloc (Nat.le_refl _) _
  have HBX := Lib.hid (Blk.new w 84 #[.map (some mx)])
  have HO := Lib.hid (sectors_any g mb n x (w.alloc (.cells #[.map (some mx)] 84)) (hG.alloc _) hF.rise (by have := hF.len; omega) (fun p hp => (hF.all p hp).1) (fun p hp => (hF.all p hp).2.1))
  have hSl : (secsG x).length ≤ 1000 := Nat.le_trans (secsG_len x) hF.len
  have HE := Lib.hid (show planSecs x need = (secsG x).filter fun s => (readyG x s).any fun id => decide (id ∈ need) from rfl)
  clear hG hF hm
  generalize secsG x = S at *
  go_enter Try.func80, Try.ntmps80
  go_wp2_with fail
  refine HO.out.mono ?_
  rintro e w1 ⟨r, rfl, hr, hb⟩
  have HB1 := Lib.hid (ha.trans (hb.mono (by simp)))
  have HBX1 := Lib.hid (HBX.out.below hb (by simp))
  have hs1 : w.heap.size + 1 ≤ w1.heap.size := by have := hb.size; simp at this; exact this
  obtain ⟨A, c, rfl, h1, h2⟩ := hr.arr.len
  have HAt := Lib.hid (show Arr w1 3 (.slice A (ints S).length c) (ints S) from hr.arr)
  have HAA := Lib.hid HAt.out.at
  rw [ints_len] at h1 ⊢
  unfold maxLen at h2
  clear hr hb ha HO HBX HAt
  go_wp2_with fail
  go_loopw [5, 11] (fun v i wr => ∃ k : Nat, k ≤ S.length ∧ i = .int .i64 k ∧ Built w1.heap.size wr v ((S.take k).filter fun s => (readyG x s).any fun id => decide (id ∈ need)) ∧ Below w1.heap.size w1 wr) (fun _ i _ => S.length - (intOf i).toNat)
  case atStart => exact ⟨0, Nat.zero_le _, rfl, by rw [List.take_zero]; exact World.ownsRow_nil _ _ _ _, Below.refl _ _⟩
  case round =>
    obtain ⟨k, hk, rfl, hv, hbel⟩ := hrel
    have HV := Lib.hid hv
    have HB := Lib.hid hbel
    have hsz := hbel.size
    have hBw := HB1.out.trans (hbel.mono (by omega))
    have HBw := Lib.hid hBw
    by_cases hlt : k < S.length
    · obtain ⟨s, hs⟩ : ∃ s, S[k]? = some s := ⟨_, List.getElem?_eq_getElem hlt⟩
      obtain ⟨gb, o, cs, rfl, hbk, hcs⟩ := HAA.out k s hs
      have hc1 : wr.cell? ⟨gb, o + k, none⟩ = some (.int .i64 s) := ((hbk.below hbel hbk.lt).cell (o + k)).trans hcs
      have HR := Lib.hid (ready_any g mb n x s wr (HG.out.below hBw) HF.out.rise (by have := HF.out.len; omega) (fun p hp => (HF.out.all p hp).1))
      have HON := Lib.hid (filter_on (q := fun s => (readyG x s).any fun id => decide (id ∈ need)) hs)
      have hfl : ((S.take k).filter fun s => (readyG x s).any fun id => decide (id ∈ need)).length ≤ 1000 := by
        have := List.length_filter_le (fun s => (readyG x s).any fun id => decide (id ∈ need)) (S.take k)
        rw [List.length_take] at this
        omega
      clear hv hbel hBw hbk hcs hs
      generalize ((S.take k).filter fun s => (readyG x s).any fun id => decide (id ∈ need)) = L at *
      go_wp2_with fail
      refine HR.out.mono ?_
      rintro e w3 ⟨r3, rfl, hr3, hb3⟩
      have hb3w : Below w.heap.size w w3 := HBw.out.trans (hb3.mono (by omega))
      have HC := Lib.hid (containsFunc_any r3 (readyG x s) 101 #[.pointer (some ⟨w.heap.size, 0, none⟩)] (fun id => decide (id ∈ need)) w3 hr3.arr enters101 (fun W id hid hW => ask101 w.heap.size mx nx need id W
        ((((HBX1.out.below (HB.out.trans (hb3.mono hsz)) (by omega)).below hW (by have := hb3.size; omega)).cell 0)) ((HM.out.keep (hb3w.block mx HM.out.lt)).keep (hW.block mx (Nat.lt_of_lt_of_le HM.out.lt hb3w.size))) (HF.out.ready_wf hid)))
      have HB3 := Lib.hid (HB.out.trans (hb3.mono hsz))
      have HV3 := Lib.hid (HV.out.below hb3)
      have hs3 := hb3.size
      clear hr3 hb3 hb3w
      go_wp2_with fail
      refine HC.out.mono ?_
      rintro e w4 ⟨rfl, hb4⟩
      have HB4 := Lib.hid (HB3.out.trans (hb4.mono (by omega)))
      have HV4 := Lib.hid (HV3.out.below hb4)
      have hs4 := hb4.size
      clear hb4
      cases hq : (readyG x s).any (fun id => decide (id ∈ need)) with
      | true =>
        have HN := Lib.hid (show (S.take (k + 1)).filter (fun s => (readyG x s).any fun id => decide (id ∈ need)) = L ++ [s] from by rw [HON.out, if_pos hq])
        clear hq
        go_wp2_with (at_builtin; refine wpList_append_own _ rfl (.tmp 20) (.tmp 22) 28 rfl w1.heap.size 3 i0 (.int .i64 0) 1 8 Try.underlying28 hi0 hz0 hz1 hz2 rfl (by decide) _ _ _ rfl (World.ownsRow.alloc HV4.out _) ⟨w4.heap.size, 0, none⟩ 1 1 [.int .i64 s] rfl rfl ?c1 ?c2 ?c3 ?c4 ?c5 ?_)
        case c1 => exact one_new _ _ _
        case c2 => simp [Value.oneCell']
        case c3 => simp only [maxLen]; omega
        case c4 => omega
        case c5 => simp; omega
        intro v' w5 hown5 hg5 _
        have HO5 := Lib.hid (show Built w1.heap.size w5 v' (L ++ [s]) from by
          unfold Built ints
          rw [List.map_append, List.length_append]
          exact hown5)
        have HB5 := Lib.hid ((HB4.out.alloc HB4.out.size _).grown hg5 (by simp; omega) (fun j hj => (HV4.out.own j hj).1))
        clear hown5 hg5
        go_wp2
        go_roundw
        case rel => exact ⟨k + 1, by omega, by go_num, by rw [HN.out]; exact HO5.out, HB5.out⟩
        case measure => simp [intOf]; omega
      | false =>
        have HN := Lib.hid (show (S.take (k + 1)).filter (fun s => (readyG x s).any fun id => decide (id ∈ need)) = L from by rw [HON.out, if_neg (by rw [hq]; simp), List.append_nil])
        clear hq
        go_wp2
        go_roundw
        case rel => exact ⟨k + 1, by omega, by go_num, by rw [HN.out]; exact HV4.out, HB4.out⟩
        case measure => simp [intOf]; omega
    · obtain rfl : k = S.length := by omega
      have HE2 := Lib.hid (show Built w.heap.size wr _ (planSecs x need) from by
        rw [HE.out]
        have h := HV.out
        rw [List.take_length] at h
        exact h.mono (by omega))
      clear hv hbel hBw
      go_wp2
      go_ret
      exact ⟨_, rfl, HE2.out, HBw.out⟩

def secOf (x : G) (k : Int) : Int := match x.find k with | some p => p.sec | none => 0
def aloneB (x : G) (s : Int) : Bool := !((idsOf x fun p => p.written).any fun k => decide (secOf x k ≠ s))
theorem enters102 : ∀ args w, (callFunc 102 args).run Try.prog w = .ok (.enter 102 args) w := enters_of Try.func102 (by kernel_rfl) rfl
theorem ask102 (b2 b3 g mb n : Nat) (x : G) (s k : Int) (p : Pt) (W : World) (h2 : W.cell? ⟨b2, 0, none⟩ = some (.pointer (some ⟨g, 0, none⟩))) (h3 : W.cell? ⟨b3, 0, none⟩ = some (.int .i64 s)) (hG : Gr W g mb n x) (hF : Fine x) (hp : p ∈ x.l) (hk : p.id = k) :
    Calls Try.prog 102 #[.int .i64 k, .pointer (some ⟨b2, 0, none⟩), .pointer (some ⟨b3, 0, none⟩)] W fun e w' => e = .returned (.bool (decide (secOf x k ≠ s))) ∧ Below W.heap.size W w' := by
  subst hk
  have l3 : b3 < W.heap.size := World.block_lt_of_cell? W _ h3
  have hid := (hF.all p hp).1.2.1
  have HK := Lib.hid (get_some g mb n x p.id p W hG (key_wf (by omega) (by omega)) (find_id hF.rise hp) (hF.all p hp).1.1.2.2 (hF.all p hp).2.2.2)
  have HS := Lib.hid (show secOf x p.id = p.sec by unfold secOf; rw [find_id hF.rise hp])
  clear hG hF hp
  go_enter Try.func102, Try.ntmps102
  go_wp2_with fail
  refine HK.out.mono ?_
  rintro e w1 ⟨r, rfl, ⟨vd, vn, rfl, hd, hn⟩, hb⟩
  have h3' := (hb.cell (p := ⟨b3, 0, none⟩) l3).trans h3
  obtain ⟨A3, c3, rfl, -, -⟩ := hd.len
  obtain ⟨A4, c4, rfl, -, -⟩ := hn.len
  have HB := Lib.hid hb
  have l3' : b3 < w1.heap.size := Nat.lt_of_lt_of_le l3 hb.size
  have hne : ¬ b3 = w1.heap.size := by omega
  clear hd hn hb
  unfold Pt.val
  go_wp2
  go_ret
  refine ⟨ret_bool ?_, HB.out.alloc HB.out.size _⟩
  rw [HS.out]
  by_cases h : p.sec = s
  · simp [h]
  · simp [h]

set_option maxHeartbeats 1000000 in
theorem alone_any (g mb n : Nat) (x : G) (s : Int) (w : World) (hG : Gr w g mb n x) (hF : Fine x) :
    Calls Try.prog 81 #[.pointer (some ⟨g, 0, none⟩), .int .i64 s] w fun e w' => e = .returned (.bool (aloneB x s)) ∧ Below w.heap.size w w' := by
  have hmk := hmf
  have HG := Lib.hid hG
  have HF := Lib.hid hF
  have hbw : Below w.heap.size w ((w.alloc (.cells #[.pointer (some ⟨g, 0, none⟩)] 24)).alloc (.cells #[.int .i64 s] 3)) := ((Below.refl _ _).alloc (Nat.le_refl _) _).alloc (by simp) _
  have HBW := Lib.hid hbw
  have HX2 := Lib.hid ((Blk.new w 24 #[.pointer (some ⟨g, 0, none⟩)]).alloc (.cells #[.int .i64 s] 3))
  have HX3 := Lib.hid (show Blk ((w.alloc (.cells #[.pointer (some ⟨g, 0, none⟩)] 24)).alloc (.cells #[.int .i64 s] 3)) (w.heap.size + 1) 3 #[.int .i64 s] from by
    have := Blk.new (w.alloc (.cells #[.pointer (some ⟨g, 0, none⟩)] 24)) 3 #[.int .i64 s]
    simpa using this)
  have HW := Lib.hid (written_any g mb n x _ ((hG.alloc (.cells #[.pointer (some ⟨g, 0, none⟩)] 24)).alloc (.cells #[.int .i64 s] 3)) hF.rise (by have := hF.len; omega))
  clear hG hF hbw
  go_enter Try.func81, Try.ntmps81
  go_wp2_with fail
  refine HW.out.mono ?_
  rintro e w1 ⟨r, rfl, hr, hb⟩
  have hb1 : Below w.heap.size w w1 := HBW.out.trans (hb.mono (by simp; omega))
  have HC := Lib.hid (containsFunc_any r _ 102 #[.pointer (some ⟨w.heap.size, 0, none⟩), .pointer (some ⟨w.heap.size + 1, 0, none⟩)] (fun k => decide (secOf x k ≠ s)) w1 hr.arr enters102 (fun W k hk hW => by
    obtain ⟨p, hp, _, e⟩ := mem_ids.1 hk
    exact ask102 w.heap.size (w.heap.size + 1) g mb n x s k p W (((HX2.out.below hb (by simp; omega)).below hW (by have := hb.size; simp at this; omega)).cell 0) (((HX3.out.below hb (by simp)).below hW (by have := hb.size; simp at this; omega)).cell 0) ((HG.out.below hb1).below hW) HF.out hp e))
  have HB1 := Lib.hid hb1
  clear hr hb hb1
  go_wp2_with fail
  refine HC.out.mono ?_
  rintro e w2 ⟨rfl, hb2⟩
  have HB2 := Lib.hid (HB1.out.trans (hb2.mono HB1.out.size))
  clear hb2
  go_wp2
  go_ret
  exact ⟨ret_bool (by simp [aloneB]), HB2.out⟩
end Go.Proofs.Ytmkfaibjjbgbbaa
