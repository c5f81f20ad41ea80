/- graph.Sectors. -/
import Derived.Test.YtmkfaibjjbgbbaaNil
namespace Go.Proofs.Ytmkfaibjjbgbbaa
open Go.RowKit
set_option linter.unusedVariables false

def addIf (L : List Int) (a : Int) : List Int := if a ∈ L then L else L ++ [a]
def secsRaw (P : List Pt) : List Int := P.foldl (fun L p => addIf L p.sec) []
def liveL (x : G) : List Pt := x.l.filter fun p => !p.written
def secsG (x : G) : List Int := (secsRaw (liveL x)).mergeSort fun a b => decide (a ≤ b)
def seenF (L : List Int) : Int → Option Value := fun a => if a ∈ L then some (.bool true) else none

theorem secs_on {P : List Pt} {k : Nat} {p : Pt} (h : P[k]? = some p) : secsRaw (P.take (k + 1)) = addIf (secsRaw (P.take k)) p.sec := by
  unfold secsRaw
  rw [List.take_add_one, h, List.foldl_append]
  rfl
theorem addIf_len (L : List Int) (a : Int) : (addIf L a).length ≤ L.length + 1 := by
  unfold addIf
  split
  · omega
  · simp
theorem secs_len : ∀ (P : List Pt) (L : List Int), (P.foldl (fun L p => addIf L p.sec) L).length ≤ L.length + P.length
  | [], L => by simp
  | p :: P, L => by
    have h1 := secs_len P (addIf L p.sec)
    have h2 := addIf_len L p.sec
    simp only [List.foldl_cons, List.length_cons]
    omega
theorem zero4 : ∀ w, (zeroValue 4).run Try.prog w = .ok (.bool false) w := fun _ => by kernel_rfl
theorem seen_on (L : List Int) (a : Int) : upd (seenF L) a (some (.bool true)) = seenF (L ++ [a]) := by
  funext x
  unfold upd seenF
  by_cases h : x = a
  · simp [h]
  · simp [h]
theorem ids_liveL (x : G) : idsOf x (fun p => !p.written) = (liveL x).map (·.id) := rfl

theorem field1 (a b c d e f g h i : Value) (w : World) : (Instr.field 30 (.agg #[a, b, c, d, e, f, g, h, i]) 1).run Try.prog w = .ok b w := by kernel_rfl

set_option maxHeartbeats 2000000 in
theorem sectors_any (g mb n : Nat) (x : G) (w : World) (hG : Gr w g mb n x) (hx : x.l.Pairwise (fun p q => p.id < q.id)) (hlen : x.l.length ≤ 100000) (hfit : ∀ p ∈ x.l, p.fit) (hsec : ∀ p ∈ x.l, (key p.sec).wf = true) :
    Calls Try.prog 16 #[.pointer (some ⟨g, 0, none⟩)] w fun e w' => ∃ r, e = .returned r ∧ Built w.heap.size w' r (secsG x) ∧ Below w.heap.size w w' := by
  obtain ⟨i0, hi0, hz0, hz1, hz2⟩ := info_parts info3
  have hmm := @run_makeMap Try.prog
  have hfd := field1
  have HG := Lib.hid hG
  have HX := Lib.hid hx
  have HFit := Lib.hid hfit
  have HSec := Lib.hid hsec
  have ha : Below w.heap.size w (w.alloc (.map #[] 0)) := (Below.refl _ _).alloc (Nat.le_refl _) _
  have HM0 := Lib.hid (MapIs.new w)
  have hO := ids_any g mb n x 51 #[] (fun p => !p.written) (w.alloc (.map #[] 0)) (hG.alloc _) hx hlen enters51 (fun W v p _ hv _ => ask51 v p W hv)
  rw [ids_liveL] at hO
  have HO := Lib.hid hO
  have hPl : (liveL x).length ≤ 100000 := by
    have := List.length_filter_le (fun p : Pt => !p.written) x.l
    unfold liveL
    omega
  have HP := Lib.hid fun (p : Pt) (h : p ∈ liveL x) => (List.mem_filter.1 h).1
  have HF := Lib.hid (show secsG x = (secsRaw (liveL x)).mergeSort (fun a b => decide (a ≤ b)) from rfl)
  clear hG hx hfit hsec hO
  generalize liveL x = P at *
  go_enter Try.func16, Try.ntmps16
  go_wp2_with fail
  refine HO.out.mono ?_
  rintro e w1 ⟨r, rfl, hr, hb⟩
  have HB1 := Lib.hid (ha.trans (hb.mono (by simp)))
  have HM1 := Lib.hid (HM0.out.keep (hb.block w.heap.size (by simp)))
  have hat := hr.arr
  obtain ⟨A, c, rfl, h1, h2⟩ := hr.arr.len
  have HA := Lib.hid (show ∀ (k : Nat) (p : Pt), P[k]? = some p → ∃ gb o cs, A = some ⟨gb, o, none⟩ ∧ Blk w1 gb 3 cs ∧ cs[o + k]? = some (.int .i64 p.id) from fun k y hy => by
    have hy2 : (ints (P.map (·.id)))[k]? = some (.int .i64 y.id) := ints_at (by simp [hy])
    rcases hat with ⟨_, e⟩ | ⟨gb, o, c', cs, e1, _, _, hbk, hc⟩
    · rw [e] at hy2; cases hy2
    · injection e1 with e1
      exact ⟨gb, o, cs, e1, hbk, hc k _ hy2⟩)
  rw [ints_len, List.length_map] at h1 ⊢
  unfold maxLen at h2
  have hs1 : w.heap.size + 1 ≤ w1.heap.size := by have := hb.size; simp at this; exact this
  clear hr hb hat ha HO HM0
  go_wp2_with fail
  go_loopw [4, 12] (fun v i wr => ∃ k : Nat, k ≤ P.length ∧ i = .int .i64 k ∧ Turn (fun j => j = w.heap.size) w1 wr ∧ Built w1.heap.size wr v (secsRaw (P.take k)) ∧ MapIs wr w.heap.size k (seenF (secsRaw (P.take k)))) (fun _ i _ => P.length - (intOf i).toNat)
  case atStart => exact ⟨0, Nat.zero_le _, rfl, Turn.refl _ _, World.ownsRow_nil _ _ _ _, HM1.out⟩
  case round =>
    obtain ⟨k, hk, rfl, hT, hv, hm⟩ := hrel
    have HV := Lib.hid hv
    have HM := Lib.hid hm
    have HT := Lib.hid hT
    have hsz := hT.size
    by_cases hlt : k < P.length
    · obtain ⟨p, hp⟩ : ∃ p, P[k]? = some p := ⟨_, List.getElem?_eq_getElem hlt⟩
      obtain ⟨gb, o, cs, rfl, hbk, hcs⟩ := HA.out k p hp
      have hc1 : wr.cell? ⟨gb, o + k, none⟩ = some (.int .i64 p.id) := ((hbk.turn hT (fun e => by subst e; exact HM1.out.not_blk hbk rfl)).cell (o + k)).trans hcs
      have hpx := HP.out p (List.mem_of_getElem? hp)
      obtain ⟨sp, hid, hnd⟩ := HFit.out p hpx
      have hkw : (key p.id).wf = true := key_wf (by omega) (by omega)
      have hbw : Below w.heap.size w wr := HB1.out.trans (hT.below (B := w.heap.size) (by omega) (fun i hi e => by omega))
      have hGr := HG.out.below hbw
      have hcg := hGr.c1
      rcases hGr.look hkw with ⟨p', A1, k1, A2, k2, hf', hpv, hl⟩ | ⟨hf', hl⟩
      case inr => rw [find_id HX.out hpx] at hf'; cases hf'
      rw [find_id HX.out hpx] at hf'
      obtain rfl : p = p' := Option.some.inj hf'
      have hl1 := (hl wr (Below.refl _ _)).1
      have hlk := hm.look Try.underlying84 (zero4 wr) (HSec.out p hpx)
      have HON := Lib.hid (secs_on hp)
      have hl5 := secs_len (P.take k) []
      have hl6 : (secsRaw (P.take k)).length ≤ 100000 := by unfold secsRaw; simp at hl5; omega
      have HKs := Lib.hid (HSec.out p hpx)
      clear hT hv hm hp hbk hcs hGr hl hpv hf' hl5 hbw hnd sp hkw
      unfold Pt.val at *
      generalize secsRaw (P.take k) = L at *
      by_cases hin : p.sec ∈ L
      · rw [show (seenF L p.sec).getD (.bool false) = .bool true by unfold seenF; rw [if_pos hin]; rfl] at hlk
        have HN := Lib.hid (show secsRaw (P.take (k + 1)) = L from by rw [HON.out]; unfold addIf; rw [if_pos hin])
        clear hin
        go_wp2
        go_roundw
        case rel => exact ⟨k + 1, by omega, by go_num, HT.out, by rw [HN.out]; exact HV.out, by rw [HN.out]; exact HM.out.mono (by omega)⟩
        case measure => simp [intOf]; omega
      · rw [show (seenF L p.sec).getD (.bool false) = .bool false by unfold seenF; rw [if_neg hin]; rfl] at hlk
        have HN := Lib.hid (show secsRaw (P.take (k + 1)) = L ++ [p.sec] from by rw [HON.out]; unfold addIf; rw [if_neg hin])
        obtain ⟨w2, hrun, hm2, hg2⟩ := HM.out.store Try.underlying84 (by unfold maxLen; omega) HKs.out (.bool true)
        rw [seen_on] at hm2
        have HM2 := Lib.hid hm2
        have T2 := turn_of_grown hg2
        have hs2 := hg2.size
        have HT2 := Lib.hid (HT.out.trans T2 (fun i hi e => e))
        have HV2 := Lib.hid (show Built w1.heap.size w2 _ L from World.ownsRow.kept HV.out hg2 (Or.inr fun e => by have := (HV.out.own _ e).1; omega))
        clear hin hm2 hg2 T2
        go_wp2_with (at_builtin; refine wpList_append_own _ rfl (.tmp 29) (.tmp 31) 28 rfl w1.heap.size 3 i0 (.int .i64 0) 1 8 Try.underlying28 hi0 hz0 hz1 hz2 rfl (by decide) _ _ _ rfl (World.ownsRow.alloc HV2.out _) ⟨w2.heap.size, 0, none⟩ 1 1 [.int .i64 p.sec] rfl rfl ?c1 ?c2 ?c3 ?c4 ?c5 ?_)
        case c1 => exact one_new _ _ _
        case c2 => simp [Value.oneCell']
        case c3 => simp only [maxLen]; omega
        case c4 => omega
        case c5 => simp; omega
        intro v' w4 hown4 hg4 _
        have HO4 := Lib.hid (show Built w1.heap.size w4 v' (L ++ [p.sec]) from by
          unfold Built ints
          rw [List.map_append, List.length_append]
          exact hown4)
        have HT4 := Lib.hid ((HT2.out.alloc _).grown hg4 (fun j hj hh => by have := (HV2.out.own j hj).1; omega))
        have HM4 := Lib.hid ((HM2.out.alloc _).keep (hg4.block w.heap.size (by simp; omega) (fun e => by have := (HV2.out.own _ e.symm).1; omega)))
        clear hown4 hg4
        go_wp2
        go_roundw
        case rel => exact ⟨k + 1, by omega, by go_num, HT4.out, by rw [HN.out]; exact HO4.out, by rw [HN.out]; exact HM4.out⟩
        case measure => simp [intOf]; omega
    · obtain rfl : k = P.length := by omega
      have hl5 := secs_len P []
      have hv' := hv
      rw [List.take_length] at hv'
      have hl6 : (secsRaw P).length ≤ 100000 := by unfold secsRaw; simp at hl5; omega
      have HK := Lib.hid (sort_own wr hv' (by omega))
      have HV' := Lib.hid hv'
      rw [← HF.out] at HK
      have HLn := Lib.hid (show (secsG x).length = (secsRaw P).length from by rw [HF.out, List.length_mergeSort])
      have HT' := Lib.hid hT
      clear hT hv hv' hm hl5
      go_wp2_with fail
      refine HK.out.mono ?_
      rintro e w3 ⟨rfl, ho3, hg3⟩
      rw [← HLn.out] at ho3
      have HR := Lib.hid ((show Built w1.heap.size w3 _ (secsG x) from ho3).mono (show w.heap.size ≤ w1.heap.size by omega))
      have HB3 := Lib.hid ((HB1.out.trans (HT'.out.below (B := w.heap.size) (by omega) (fun i hi e => by omega))).grown hg3 (by omega) (fun j hj => by have := (HV'.out.own j hj).1; omega))
      clear ho3 hg3
      go_wp2
      go_ret
      exact ⟨_, rfl, HR.out, HB3.out⟩
end Go.Proofs.Ytmkfaibjjbgbbaa
