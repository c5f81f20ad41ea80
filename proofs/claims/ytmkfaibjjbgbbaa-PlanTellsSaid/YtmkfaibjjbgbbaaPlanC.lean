/- plan.Carry. -/
import Derived.Test.YtmkfaibjjbgbbaaPlanB
import Derived.Test.YtmkfaibjjbgbbaaWriteQ
namespace Go.Proofs.Ytmkfaibjjbgbbaa
open Go.RowKit
set_option linter.unusedVariables false

def carryW : G → List Int → List Int × G
  | y, [] => ([], y)
  | y, s :: r => (readyG y s ++ (carryW (writeG y (readyG y s)).2 r).1, (carryW (writeG y (readyG y s)).2 r).2)
def carryG (x : G) (S : List Int) : G := settleG (carryW x S).2 fun _ => true

theorem ready_run {y : G} (hy : Rise y.l) (s : Int) : (writeG y (readyG y s)).1 = 0 ∧ Rise (writeG y (readyG y s)).2.l ∧ (writeG y (readyG y s)).2.last = y.last ∧ (writeG y (readyG y s)).2.l.map Pt.un = y.l.map Pt.un ∧ wcount (writeG y (readyG y s)).2 = wcount y + (readyG y s).length := by
  obtain ⟨r1, r2, r3, r4, _, r6⟩ := ready_step s (y.l.map (·.sec)) _ y hy rfl (fun p hp _ => .inl (List.mem_map.2 ⟨p, hp, rfl⟩))
  refine ⟨r1, r2, r3, r4, ?_⟩
  have e : (readyG y s).length = (rdy y (openL y s)).1.length := by unfold readyG; rw [List.length_map]
  rw [e]
  exact r6
theorem Fine.like {x y : G} (h : Fine x) (hy : Rise y.l) (e : y.l.map Pt.un = x.l.map Pt.un) : Fine y := by
  refine ⟨hy, ?_, fun p hp => ?_⟩
  · have := congrArg List.length e
    rw [List.length_map, List.length_map] at this
    rw [this]
    exact h.len
  · have h1 : p.un ∈ x.l.map Pt.un := by rw [← e]; exact List.mem_map.2 ⟨p, hp, rfl⟩
    obtain ⟨q, hq, hqp⟩ := List.mem_map.1 h1
    have h2 : ∀ z : Pt, (z.fit ∧ (key z.sec).wf = true ∧ (∀ k ∈ z.needs, k < z.id) ∧ z.needs.length ≤ 1000) ↔ (z.un.fit ∧ (key z.un.sec).wf = true ∧ (∀ k ∈ z.un.needs, k < z.un.id) ∧ z.un.needs.length ≤ 1000) := fun z => Iff.rfl
    rw [h2 p, ← hqp, ← h2 q]
    exact h.all q hq
theorem Tail.arr {B : Nat} {w : World} {v : Value} {l : List Int} (h : Tail B w v l) : Arr w 3 v (ints l) := by
  rcases h with ⟨rfl, rfl⟩ | ⟨g, o, cap, cs, rfl, h1, h2, h3, h4, h5, h6⟩
  · exact Arr.nil _ _
  · refine .inr ⟨g, o, cap, cs, by rw [ints_len], by rw [ints_len]; exact h3, h4, h2, fun i u hu => ?_⟩
    have hi : i < l.length := by
      rcases Nat.lt_or_ge i l.length with h | h
      · exact h
      · rw [List.getElem?_eq_none (by rw [ints_len]; exact h)] at hu; cases hu
    have h7 := h6 i _ (List.getElem?_eq_getElem hi)
    rw [ints_at (List.getElem?_eq_getElem hi)] at hu
    rw [← hu]
    exact h7
theorem wcount_le (x : G) : wcount x ≤ x.l.length := List.length_filter_le _ _

/-- What Carry keeps: what was written so far. -/
structure Run (x y : G) (L : List Int) : Prop where
  rise : Rise y.l
  last : y.last = x.last
  same : y.l.map Pt.un = x.l.map Pt.un
  cnt : wcount y = wcount x + L.length
theorem Run.start {x : G} (hx : Rise x.l) : Run x x [] := ⟨hx, rfl, rfl, rfl⟩
theorem Run.step {x y : G} {L : List Int} (h : Run x y L) (s : Int) : Run x (writeG y (readyG y s)).2 (L ++ readyG y s) := by
  obtain ⟨r1, r2, r3, r4, r5⟩ := ready_run h.rise s
  exact ⟨r2, r3.trans h.last, r4.trans h.same, by rw [r5, h.cnt, List.length_append]; omega⟩
theorem Run.len {x y : G} {L : List Int} (h : Run x y L) : y.l.length = x.l.length := by
  have := congrArg List.length h.same
  rwa [List.length_map, List.length_map] at this
theorem Run.bnd {x y : G} {L : List Int} (h : Run x y L) : L.length ≤ x.l.length := by
  have := wcount_le y
  rw [h.len, h.cnt] at this
  omega
theorem carry_on {S : List Int} {k : Nat} {s : Int} (y : G) (h : S[k]? = some s) : carryW y (S.drop k) = (readyG y s ++ (carryW (writeG y (readyG y s)).2 (S.drop (k + 1))).1, (carryW (writeG y (readyG y s)).2 (S.drop (k + 1))).2) := by
  have hk : k < S.length := by
    rcases Nat.lt_or_ge k S.length with h1 | h1
    · exact h1
    · rw [List.getElem?_eq_none h1] at h; cases h
  rw [List.drop_eq_getElem_cons hk]
  rw [List.getElem?_eq_getElem hk] at h
  rw [Option.some.inj h]
  rfl

theorem Arr.keepOwn {w w' : World} {e : TypeId} {v : Value} {xs : List Value} (h : Arr w e v xs) (hk : ∀ j, v.ownBlock = some j → w'.heap[j]? = w.heap[j]?) : Arr w' e v xs := by
  rcases h with ⟨rfl, rfl⟩ | ⟨g, o, c, cs, h1, h2, h3, h4, h5⟩
  · exact .nil _ _
  · exact .inr ⟨g, o, c, cs, h1, h2, h3, (hk g (by rw [h1]; rfl)).trans h4, h5⟩
theorem GrQ.lowMove {B : Nat} {w w' : World} {g mb n : Nat} {x : G} (h : GrQ (LowQ B) w g mb n x) (hg : w'.heap[g]? = w.heap[g]?) (hm : w'.heap[mb]? = w.heap[mb]?) (hb : ∀ j, j < B → w'.heap[j]? = w.heap[j]?) : GrQ (LowQ B) w' g mb n x := by
  obtain ⟨h1, f, h2, h3⟩ := h
  refine ⟨h1.keep hg, f, h2.keep hm, fun k => ?_⟩
  have := h3 k
  cases hk : x.find k with
  | none => rw [hk] at this; exact this
  | some p =>
    rw [hk] at this
    obtain ⟨vd, vn, e, hd, hn, hq⟩ := this
    exact ⟨vd, vn, e, hd.keepOwn fun j hj => hb j (hq.1 j hj), hn.keepOwn fun j hj => hb j (hq.2 j hj), hq⟩

set_option maxHeartbeats 4000000 in
theorem carry_any (g mb n : Nat) (x : G) (sv : Value) (S : List Int) (fb : Bool) (w : World) (hG : Gr w g mb n x) (hF : Fine x) (hn : n ≤ 900000) (hv : Arr w 3 sv (ints S)) :
    Calls Try.prog 35 #[.pointer (some ⟨g, 0, none⟩), batV sv fb] w fun e w' => ∃ r nb, e = .returned r ∧ Arr w' 3 r (ints (carryW x S).1) ∧ Gr w' g mb nb (carryG x S) ∧ nb ≤ n + 1000 ∧ Turn (fun j => j = mb) w w' := by
  have HG := Lib.hid hG
  have HF := Lib.hid hF
  obtain ⟨A, c, rfl, h1, h2⟩ := hv.len
  have HA := Lib.hid hv.at
  rw [ints_len] at h1 ⊢
  unfold maxLen at h2
  have hmbl := hG.ltm
  clear hG hF hv
  unfold batV
  go_enter Try.func35, Try.ntmps35
  go_wp2_with fail
  obtain ⟨w1, hw1⟩ : ∃ w1, w1 = w.alloc (.cells #[.slice A S.length c, .bool fb] 61) := ⟨_, rfl⟩
  rw [← hw1]
  have hb1 : Below w.heap.size w w1 := by rw [hw1]; exact (Below.refl _ _).alloc (Nat.le_refl _) _
  have HB1 := Lib.hid hb1
  have hs1 : w1.heap.size = w.heap.size + 1 := by rw [hw1]; simp
  have HG1 := Lib.hid ((HG.out.low).below hb1)
  clear hw1 hb1
  go_loopw [5, 12] (fun v i wr => ∃ k : Nat, k ≤ S.length ∧ i = .int .i64 k ∧ ∃ (y : G) (L : List Int), Hid (Run x y L ∧ (carryW x S).1 = L ++ (carryW y (S.drop k)).1 ∧ (carryW x S).2 = (carryW y (S.drop k)).2) ∧ Tail (w.heap.size + 1) wr v L ∧ GrQ (LowQ w.heap.size) wr g mb (n + L.length) y ∧ Turn (fun j => j = mb) w1 wr) (fun _ i _ => S.length - (intOf i).toNat)
  case atStart => exact ⟨0, Nat.zero_le _, rfl, x, [], ⟨Run.start HF.out.rise, rfl, rfl⟩, .inl ⟨rfl, rfl⟩, HG1.out, Turn.refl _ _⟩
  case round =>
    obtain ⟨k, hk, rfl, y, L, hR, hv, hG, hT⟩ := hrel
    have HV := Lib.hid hv
    have HT := Lib.hid hT
    have HGy := Lib.hid hG
    have hsz := hT.size
    have hLb := hR.out.1.bnd
    have hxl := HF.out.len
    have hFy := HF.out.like hR.out.1.rise hR.out.1.same
    have HFy := Lib.hid hFy
    by_cases hlt : k < S.length
    · obtain ⟨s, hs⟩ : ∃ s, S[k]? = some s := ⟨_, List.getElem?_eq_getElem hlt⟩
      obtain ⟨gb, o, cs, rfl, hbk, hcs⟩ := HA.out k s hs
      have hTw : Turn (fun j => j = mb) w wr := (Turn.of_below (S := fun j => j = mb) HB1.out).trans hT (fun i hi e => e)
      have hc1 : wr.cell? ⟨gb, o + k, none⟩ = some (.int .i64 s) := ((hbk.turn hTw (fun e => by
        obtain ⟨_, f, hm, _⟩ := HG.out
        exact hm.not_blk hbk e.symm)).cell (o + k)).trans hcs
      have HRd := Lib.hid (ready_any g mb (n + L.length) y s wr hG.gr hFy.rise (by have := hFy.len; omega) (fun p hp => (hFy.all p hp).1))
      have HW := Lib.hid fun (v : Value) (W : World) (hGW : GrQ (LowQ w.heap.size) W g mb (n + L.length) y) (hv : Arr W 3 v (ints (readyG y s))) =>
        writeQ_any (LowQ w.heap.size) g mb (n + L.length) y v (readyG y s) W hGW hFy.rise (by have := hFy.len; omega) (fun p hp => (hFy.all p hp).1) hv (fun id hid => hFy.ready_wf hid) (by
          have := (hR.out.1.step s).bnd
          rw [List.length_append] at this
          omega) (by omega)
      have HST := Lib.hid (hR.out.1.step s)
      have hstb := (hR.out.1.step s).bnd
      rw [List.length_append] at hstb
      have HC := Lib.hid (show (carryW x S).1 = (L ++ readyG y s) ++ (carryW (writeG y (readyG y s)).2 (S.drop (k + 1))).1 ∧ (carryW x S).2 = (carryW (writeG y (readyG y s)).2 (S.drop (k + 1))).2 from by
        rw [hR.out.2.1, hR.out.2.2, carry_on y hs, List.append_assoc]
        exact ⟨rfl, rfl⟩)
      have hw0 := (ready_run hFy.rise s).1
      rw [hw0] at HW
      clear hv hG hT hbk hcs hs hTw hFy hw0
      generalize (writeG y (readyG y s)).2 = y2 at *
      generalize readyG y s = R at *
      go_wp2_with fail
      refine HRd.out.mono ?_
      rintro e w5 ⟨r, rfl, hr, hb⟩
      have HR5 := Lib.hid hr.arr
      have HG5 := Lib.hid (HGy.out.below hb)
      have HT5 := Lib.hid (HT.out.trans (Turn.of_below (S := fun _ => False) hb) (fun i hi e => e.elim))
      have HV5 := Lib.hid (HV.out.below hb)
      obtain ⟨f, hm5⟩ := HG5.out.2
      have hmb5 := hm5.1
      have HMb := Lib.hid hmb5
      have hs5 := hb.size
      clear hr hb hm5 hmb5
      go_wp2_with fail
      refine (HW.out _ _ HG5.out HR5.out).mono ?_
      rintro e w6 ⟨rfl, hG6, hT6⟩
      rw [Nat.add_assoc] at hG6
      have HG6 := Lib.hid hG6
      have HT6 := Lib.hid (HT5.out.trans hT6 (fun i hi e => e))
      have HV6 := Lib.hid (HV5.out.keep (fun j hj => hT6.block j (HV5.out.own j hj).2 (fun e => by have := (HV5.out.own j hj).1; omega)))
      have HR6 := Lib.hid (Row.of_arr (HR5.out.turn hT6 (fun j cs kk e => by subst e; exact HMb.out.not_blk kk rfl)))
      have hs6 := hT6.size
      clear hG6 hT6
      go_wp2_with (at_builtin; refine wpList_append_tail rfl (.tmp 22) (.tmp 23) rfl _ L rfl HV6.out _ R rfl HR6.out ?c1 ?c2 ?_)
      case c1 => omega
      case c2 => omega
      intro v7 w7 hT7 hg7 ho7
      have HV7 := Lib.hid hT7
      have HT7 := Lib.hid (HT6.out.grown hg7 (fun j hj hh => by have := (HV6.out.own j hj).1; omega))
      have HG7 := Lib.hid (show GrQ (LowQ w.heap.size) w7 g mb (n + (L ++ R).length) y2 from by
        rw [List.length_append]
        have hlo : ∀ j, j < w.heap.size → w7.heap[j]? = w6.heap[j]? := fun j hj => hg7.block j (by omega) (fun e => by have := (HV6.out.own _ e.symm).1; omega)
        exact HG6.out.lowMove (hlo g HG.out.lt) (hlo mb HG.out.ltm) hlo)
      clear hT7 hg7 ho7
      go_wp2
      go_roundw
      case rel => exact ⟨k + 1, by omega, by go_num, y2, L ++ R, ⟨HST.out, HC.out.1, HC.out.2⟩, HV7.out, HG7.out, HT7.out⟩
      case measure => simp [intOf]; omega
    · obtain rfl : k = S.length := by omega
      obtain ⟨hRun, hc1, hc2⟩ := hR.out
      rw [List.drop_length] at hc1 hc2
      have e1 : (carryW x S).1 = L := by rw [hc1]; exact List.append_nil _
      have e2 : carryG x S = settleG y fun _ => true := by unfold carryG; rw [hc2]; rfl
      have HSt := Lib.hid (settleAll_any g mb (n + L.length) y wr hG.gr hFy.rise (by have := hFy.len; omega) (fun p hp => (hFy.all p hp).1.2.1))
      rw [← e2] at HSt
      have HL := Lib.hid e1
      clear hv hG hT hFy hRun hc1 hc2 e1 e2
      go_wp2_with fail
      refine HSt.out.mono ?_
      rintro e w5 ⟨rfl, hG5, hT5⟩
      have HG5 := Lib.hid hG5
      have HT5 := Lib.hid (((Turn.of_below (S := fun j => j = mb) HB1.out).trans HT.out (fun i hi e => e)).trans hT5 (fun i hi e => e))
      have HV5 := Lib.hid (Tail.arr (HV.out.keep (fun j hj => hT5.block j (HV.out.own j hj).2 (fun e => by have := (HV.out.own j hj).1; omega))))
      clear hG5 hT5
      go_wp2
      go_ret
      exact ⟨_, _, rfl, by rw [HL.out]; exact HV5.out, HG5.out, by omega, HT5.out⟩
end Go.Proofs.Ytmkfaibjjbgbbaa
