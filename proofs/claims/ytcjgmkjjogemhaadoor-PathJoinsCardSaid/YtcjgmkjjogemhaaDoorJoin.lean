/- Join, of the package and of the reference: the same. -/
import Derived.Test.YtcjgmkjjogemhaaDoorRsplit
import Derived.Lib.Join
namespace Go.Proofs.YtcjgmkjjogemhaaDoor
open Go.RowKit
open Go.Lib (join joinTail join_nil join_one join_cons joinTail_take_succ joinTail_length)

def jt (l : List ByteArray) : List UInt8 := joinTail [47] (l.map (·.data.toList))
def joinN (l : List ByteArray) : ByteArray × Int := if checkL l = 0 then (if l = [] then slash else ofList (jt l), 0) else (⟨#[]⟩, checkL l)

theorem jt_on {l : List ByteArray} {k : Nat} {u : ByteArray} (h : l[k]? = some u) : jt (l.take (k + 1)) = jt (l.take k) ++ (47 :: u.data.toList) := by
  unfold jt
  rw [List.map_take, List.map_take, joinTail_take_succ [47] _ k u.data.toList (by simp [h]), List.append_assoc]
  rfl
theorem nameOk_size {u : ByteArray} (h : nameOk u = true) : 1 ≤ u.size ∧ u.size ≤ 10 := by
  unfold nameOk at h
  simp only [Bool.and_eq_true, decide_eq_true_eq] at h
  exact ⟨h.1.1.1.1, h.1.1.1.2⟩
theorem nameOk_slash {u : ByteArray} (h : nameOk u = true) : ∀ x ∈ u.data.toList, x ≠ 47 := by
  unfold nameOk at h
  simp only [Bool.and_eq_true, List.all_eq_true] at h
  intro x hx e
  have := h.2 x hx
  subst e
  revert this
  decide
theorem jt_len {l : List ByteArray} (h : l.all nameOk = true) : (jt l).length ≤ 11 * l.length := by
  induction l with
  | nil => simp [jt, joinTail]
  | cons u l ih =>
    rw [List.all_cons, Bool.and_eq_true] at h
    have := ih h.2
    have hu := nameOk_size h.1
    have e : jt (u :: l) = 47 :: u.data.toList ++ jt l := by simp [jt, joinTail]
    rw [e, List.length_append, List.length_cons, List.length_cons, len_data]
    omega
theorem checkL_all {l : List ByteArray} (h : checkL l = 0) : l.all nameOk = true ∧ l.length ≤ 16 := by
  unfold checkL at h
  split at h
  · rename_i ha
    split at h
    · cases h
    · exact ⟨ha, by omega⟩
  · cases h
theorem jt_join (u : ByteArray) (l : List ByteArray) : 47 :: Go.Lib.join ((u :: l).map (·.data.toList)) [47] = jt (u :: l) := by
  rw [List.map_cons, join_cons]
  simp [jt, joinTail]
theorem slash_app (l : List UInt8) : (⟨#[47]⟩ : ByteArray) ++ ofList l = ofList (47 :: l) := by
  unfold ofList
  rw [ByteArray.mk_append_mk]
  rfl
theorem mk_ofList (l : List UInt8) : (⟨l.toArray⟩ : ByteArray) = ofList l := rfl
theorem ofList_app (a b : List UInt8) : ofList a ++ ofList b = ofList (a ++ b) := by
  unfold ofList
  rw [ByteArray.mk_append_mk]

set_option maxHeartbeats 400000 in
theorem pjoin_any (v : Value) (l : List ByteArray) (w : World) {B : Nat} (hv : Texts B w v l) (hs : ∀ u ∈ l, u.size ≤ 9223372036854775807) :
    Calls Tryd.prog 17 #[v] w fun e w' => e = .returned (.tuple #[.string (joinN l).1, .int .i64 (joinN l).2]) ∧ Below w.heap.size w w' := by
  have hC := Lib.hid (pcheck_any v l w hv hs)
  by_cases h0 : checkL l = 0
  · obtain ⟨hall, h16⟩ := checkL_all h0
    have hjl := jt_len hall
    have H0 := Lib.hid h0
    cases hl : l with
    | nil =>
      obtain ⟨A, c, rfl, hlc, hcm, hA⟩ := hv
      subst hl
      have HF := Lib.hid (show joinN [] = (slash, 0) by unfold joinN; rw [if_pos h0, if_pos rfl])
      clear hA h0 hall h16 hjl hs
      go_enter Tryd.func17, Tryd.ntmps17
      go_wp2_with fail
      refine hC.out.mono ?_
      rintro e w1 ⟨rfl, hb1⟩
      rw [H0.out]
      have HB1 := Lib.hid hb1
      clear hb1 hC
      go_wp2_with fail
      refine (Tryd.strings_Join_none A c ⟨#[47]⟩ w1).mono ?_
      rintro e w2 ⟨rfl, rfl⟩
      go_wp2_with fail
      go_ret2
      exact ⟨by rw [HF.out]; rfl, HB1.out⟩
    | cons u r =>
      rw [← hl]
      obtain ⟨A, c, rfl, hlc, hcm, hA⟩ := hv
      obtain ⟨g, o, eA, _, hg, _⟩ := hA 0 u (by rw [hl]; rfl)
      subst eA
      have HJ := Lib.hid (show 47 :: Go.Lib.join (l.map (·.data.toList)) [47] = jt l by rw [hl]; exact jt_join u r)
      have hjs : (Go.Lib.join (l.map (·.data.toList)) [47]).length ≤ 200 := by
        have := congrArg List.length HJ.out
        rw [List.length_cons] at this
        omega
      have HK := Lib.hid fun (w1 : World) (hb : Below w.heap.size w w1) => Tryd.strings_Join g o c l slash w1 (fun j x hx => by
          obtain ⟨g', o', eA, _, hg', hc⟩ := hA j x hx
          injection eA with eA
          injection eA with e1 e2
          subst e1 e2
          exact (hb.cell (p := ⟨g, o + j, none⟩) hg).trans hc) (Nat.lt_of_lt_of_le hg hb.size) (by omega) hlc (by
          show (Go.Lib.join (l.map (·.data.toList)) [47]).length ≤ _
          omega)
      have HF := Lib.hid (show joinN l = (ofList (jt l), 0) by unfold joinN; rw [if_pos h0, if_neg (by rw [hl]; simp)])
      have hsz : ¬ ((⟨#[47]⟩ : ByteArray).size + (ofList (Go.Lib.join (l.map (·.data.toList)) [47])).size > 9223372036854775807) := by
        rw [size_ofList]
        show ¬ (1 + _ > 9223372036854775807)
        omega
      have HE := Lib.hid ((slash_app (Go.Lib.join (l.map (·.data.toList)) [47])).trans (by rw [HJ.out] : _ = ofList (jt l)))
      clear hA h0 hall hjl hs hl HJ hjs
      go_enter Tryd.func17, Tryd.ntmps17
      go_wp2_with fail
      refine hC.out.mono ?_
      rintro e w1 ⟨rfl, hb1⟩
      rw [H0.out]
      have HB1 := Lib.hid hb1
      have HK1 := Lib.hid (HK.out w1 hb1)
      clear hb1 hC HK
      go_wp2_with fail
      refine HK1.out.mono ?_
      rintro e w2 ⟨rfl, hb2⟩
      rw [show (⟨(Go.Lib.join (l.map (·.data.toList)) slash.data.toList).toArray⟩ : ByteArray) = ofList (Go.Lib.join (l.map (·.data.toList)) [47]) from rfl]
      have HB2 := Lib.hid (HB1.out.trans (hb2.mono HB1.out.size))
      clear hb2
      generalize ofList (Go.Lib.join (l.map (·.data.toList)) [47]) = q at *
      go_wp2_with fail
      go_ret2
      exact ⟨by rw [HF.out, ← HE.out]; rfl, HB2.out⟩
  · have HF := Lib.hid (show joinN l = (⟨#[]⟩, checkL l) by unfold joinN; rw [if_neg h0])
    have h1 : (checkL l != 0) = true := bne_iff_ne.2 h0
    clear h0
    go_enter Tryd.func17, Tryd.ntmps17
    go_wp2_with fail
    refine hC.out.mono ?_
    rintro e w1 ⟨rfl, hb1⟩
    have HB1 := Lib.hid hb1
    clear hb1 hC hv hs
    generalize checkL l = q at *
    go_wp2_with fail
    go_ret2
    exact ⟨by rw [HF.out]; rfl, HB1.out⟩

theorem jt_empty {l : List ByteArray} : (ofList (jt l)).toList.isEmpty = l.isEmpty := by
  rw [ByteArray.toList_eq, data_ofList]
  cases l with
  | nil => rfl
  | cons u r => rw [← jt_join]; rfl

set_option maxHeartbeats 400000 in
theorem rjoin_any (v : Value) (l : List ByteArray) (w : World) {B : Nat} (hv : Texts B w v l) (hs : ∀ u ∈ l, u.size ≤ 9223372036854775807) (hl : l.length ≤ 100000) :
    Calls Tryd.prog 18 #[v] w fun e w' => e = .returned (.tuple #[.string (joinN l).1, .int .i64 (joinN l).2]) ∧ w' = w := by
  obtain ⟨A, c, rfl, hlc, hcm, hA⟩ := hv
  have HA := Lib.hid hA
  have HS := Lib.hid hs
  clear hA hs
  unfold maxLen at hcm
  go_enter Tryd.func18, Tryd.ntmps18
  go_wp2
  go_loop [4, 5] (fun s i => ∃ k : Nat, k ≤ l.length ∧ i = .int .i64 k ∧ s = .string (ofList (jt (l.take k))) ∧ Hid ((l.take k).all nameOk = true)) (fun _ i => l.length - (intOf i).toNat)
  case atStart => exact ⟨0, Nat.zero_le _, rfl, rfl, by unfold Hid; simp⟩
  case round =>
    obtain ⟨k, hk, rfl, rfl, hT⟩ := hrel
    by_cases hlt : k < l.length
    · obtain ⟨u, hu⟩ : ∃ u, l[k]? = some u := ⟨_, List.getElem?_eq_getElem hlt⟩
      obtain ⟨g, o, eA, _, hg, hc⟩ := HA.out k u hu
      subst eA
      have hC := Lib.hid fun W => rcheck_any u W (HS.out u (List.mem_of_getElem? hu))
      have HU := Lib.hid hu
      clear hu
      rcases checkN_cases u with ⟨hn, he⟩ | ⟨hn, he⟩
      · have HN := Lib.hid hn
        have HE := Lib.hid he
        have hus := (nameOk_size hn).2
        have hjl := jt_len hT.out
        rw [List.length_take] at hjl
        have h1 : (⟨#[47]⟩ : ByteArray) ++ u = ofList (47 :: u.data.toList) := by
          conv => lhs; rw [← ofList_data u]
          exact slash_app _
        have h2 : ofList (jt (l.take k)) ++ ofList (47 :: u.data.toList) = ofList (jt (l.take (k + 1))) := by rw [ofList_app, jt_on HU.out]
        have s1 : ¬ ((⟨#[47]⟩ : ByteArray).size + u.size > 9223372036854775807) := by
          show ¬ (1 + _ > 9223372036854775807)
          omega
        have s2 : ¬ ((ofList (jt (l.take k))).size + ((⟨#[47]⟩ : ByteArray) ++ u).size > 9223372036854775807) := by
          rw [h1, size_ofList, size_ofList, List.length_cons, len_data]
          omega
        have H2 := Lib.hid (show ofList (jt (l.take k)) ++ ((⟨#[47]⟩ : ByteArray) ++ u) = ofList (jt (l.take (k + 1))) by rw [h1, h2])
        clear hn he h1 h2 hjl hus
        generalize ofList (jt (l.take k)) = q at *
        go_wp2_with fail
        refine (hC.out _).mono ?_
        rintro e w1 ⟨rfl, rfl⟩
        rw [HE.out]
        go_wp2_with fail
        go_round
        case rel => exact ⟨k + 1, by omega, by go_num, by rw [← H2.out], take_ok HU.out hT.out HN.out⟩
        case measure => simp [intOf]; omega
      · have hcl := checkL_bad HU.out hn
        have HF := Lib.hid (show joinN l = (⟨#[]⟩, 45) by unfold joinN; rw [if_neg (by rw [hcl]; decide), hcl])
        have HE := Lib.hid he
        clear hn he hcl
        generalize ofList (jt (l.take k)) = q at *
        go_wp2_with fail
        refine (hC.out _).mono ?_
        rintro e w1 ⟨rfl, rfl⟩
        rw [HE.out]
        go_wp2_with fail
        go_ret2
        exact ⟨by rw [HF.out]; rfl, rfl⟩
    · obtain rfl : k = l.length := by omega
      have hall : l.all nameOk = true := by have h := hT.out; rwa [List.take_length] at h
      have he := jt_empty (l := l)
      rw [List.take_length]
      by_cases h16 : 16 < l.length
      · have hcl : checkL l = 3 := by simp [checkL, hall, h16]
        have HF := Lib.hid (show joinN l = (⟨#[]⟩, 3) by unfold joinN; rw [if_neg (by rw [hcl]; decide), hcl])
        clear hall hcl he
        generalize ofList (jt l) = q at *
        go_wp2_with fail
        go_ret2
        exact ⟨by rw [HF.out]; rfl, rfl⟩
      · have hcl : checkL l = 0 := by simp [checkL, hall]; omega
        by_cases h0 : l = []
        · have HF := Lib.hid (show joinN l = (slash, 0) by unfold joinN; rw [if_pos hcl, if_pos h0])
          have he0 : (ofList (jt l)).toList.isEmpty = true := by rw [he, h0]; rfl
          clear hall hcl he h0
          generalize ofList (jt l) = q at *
          go_wp2_with fail
          go_ret2
          exact ⟨by rw [HF.out]; rfl, rfl⟩
        · have HF := Lib.hid (show joinN l = (ofList (jt l), 0) by unfold joinN; rw [if_pos hcl, if_neg h0])
          have he0 : (ofList (jt l)).toList.isEmpty = false := by rw [he]; cases l <;> simp_all
          clear hall hcl he h0
          generalize ofList (jt l) = q at *
          go_wp2_with fail
          go_ret2
          exact ⟨by rw [HF.out]; rfl, rfl⟩
end Go.Proofs.YtcjgmkjjogemhaaDoor
