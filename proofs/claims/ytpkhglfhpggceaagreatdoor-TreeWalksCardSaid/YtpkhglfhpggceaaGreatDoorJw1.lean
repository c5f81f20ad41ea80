/- Join, of the package and of the reference: the same. The node that a path leads to is the one that its directory's names tell: plain, no program in sight. TreeWalks, the walk (printed by genwalks.py). TreeWalks answers true for every input, and its arguments read behind the call as they read before: its card. -/
import Derived.Test.YtpkhglfhpggceaaGreatDoorRsplit
import Derived.Lib.Join
import Derived.Test.YtpkhglfhpggceaaGreatDoorLast
import Derived.Test.YtpkhglfhpggceaaGreatDoorTkeep
import Derived.Test.YtpkhglfhpggceaaGreatDoorJc5
namespace Go.Proofs.YtpkhglfhpggceaaGreatDoor
set_option maxRecDepth 100000
set_option maxHeartbeats 16000000
open Go.RowKit
open Go.Lib (join joinTail join_nil join_one join_cons joinTail_take_succ joinTail_length)
def jt (l : List ByteArray) : List UInt8 := joinTail [47] (l.map (·.data.toList))
def joinN (l : List ByteArray) : ByteArray × Int := if checkL l = 0 then (if l = [] then slash else ofList (jt l), 0) else (⟨#[]⟩, checkL l)
theorem jt_on {l : List ByteArray} {k : Nat} {u : ByteArray} (h : l[k]? = some u) : jt (l.take (k + 1)) = jt (l.take k) ++ (47 :: u.data.toList) := by
 unfold jt
 rw [List.map_take, List.map_take, joinTail_take_succ [47] _ k u.data.toList (by simp [h]), List.append_assoc]
 rfl
theorem nameOk_size {u : ByteArray} (h : nameOk u = true) : 1 ≤ u.size ∧ u.size ≤ 10 := by
 unfold nameOk at h
 simp only [Bool.and_eq_true, decide_eq_true_eq] at h
 exact ⟨h.1.1.1.1, h.1.1.1.2⟩
theorem nameOk_slash {u : ByteArray} (h : nameOk u = true) : ∀ x ∈ u.data.toList, x ≠ 47 := by
 unfold nameOk at h
 simp only [Bool.and_eq_true, List.all_eq_true] at h
 intro x hx e
 have := h.2 x hx
 subst e
 revert this
 decide
theorem jt_len {l : List ByteArray} (h : l.all nameOk = true) : (jt l).length ≤ 11 * l.length := by
 induction l with
 | nil => simp [jt, joinTail]
 | cons u l ih =>
  rw [List.all_cons, Bool.and_eq_true] at h
  have := ih h.2
  have hu := nameOk_size h.1
  have e : jt (u :: l) = 47 :: u.data.toList ++ jt l := by simp [jt, joinTail]
  rw [e, List.length_append, List.length_cons, List.length_cons, len_data]
  omega
theorem checkL_all {l : List ByteArray} (h : checkL l = 0) : l.all nameOk = true ∧ l.length ≤ 16 := by
 unfold checkL at h
 split at h
 ·rename_i ha
  split at h
  ·cases h
  ·exact ⟨ha, by omega⟩
 ·cases h
theorem jt_join (u : ByteArray) (l : List ByteArray) : 47 :: Go.Lib.join ((u :: l).map (·.data.toList)) [47] = jt (u :: l) := by
 rw [List.map_cons, join_cons]
 simp [jt, joinTail]
theorem slash_app (l : List UInt8) : (⟨#[47]⟩ : ByteArray) ++ ofList l = ofList (47 :: l) := by
 unfold ofList
 rw [ByteArray.mk_append_mk]
 rfl
theorem mk_ofList (l : List UInt8) : (⟨l.toArray⟩ : ByteArray) = ofList l := rfl
theorem ofList_app (a b : List UInt8) : ofList a ++ ofList b = ofList (a ++ b) := by
 unfold ofList
 rw [ByteArray.mk_append_mk]
theorem pjoin_any (v : Value) (l : List ByteArray) (w : World) {B : Nat} (hv : Texts B w v l) (hs : ∀ u ∈ l, u.size ≤ 9223372036854775807) :
  Calls Tryz.prog 15 #[v] w fun e w' => e = .returned (.tuple #[.string (joinN l).1, .int .i64 (joinN l).2]) ∧ Below w.heap.size w w' := by
 have hC := Lib.hid (pcheck_any v l w hv hs)
 by_cases h0 : checkL l = 0
 ·obtain ⟨hall, h16⟩ := checkL_all h0
  have hjl := jt_len hall
  have H0 := Lib.hid h0
  cases hl : l with
  | nil =>
   obtain ⟨A, c, rfl, hlc, hcm, hA⟩ := hv
   subst hl
   have HF := Lib.hid (show joinN [] = (slash, 0) by unfold joinN; rw [if_pos h0, if_pos rfl])
   clear hA h0 hall h16 hjl hs
   go_enter Tryz.func15, Tryz.ntmps15
   go_wp2_with fail
   refine hC.out.mono ?_
   rintro e w1 ⟨rfl, hb1⟩
   rw [H0.out]
   have HB1 := Lib.hid hb1
   clear hb1 hC
   go_wp2_with fail
   refine (Tryz.strings_Join_none A c ⟨#[47]⟩ w1).mono ?_
   rintro e w2 ⟨rfl, rfl⟩
   go_wp2_with fail
   go_ret2
   exact ⟨by rw [HF.out]; rfl, HB1.out⟩
  | cons u r =>
   rw [← hl]
   obtain ⟨A, c, rfl, hlc, hcm, hA⟩ := hv
   obtain ⟨g, o, eA, _, hg, _⟩ := hA 0 u (by rw [hl]; rfl)
   subst eA
   have HJ := Lib.hid (show 47 :: Go.Lib.join (l.map (·.data.toList)) [47] = jt l by rw [hl]; exact jt_join u r)
   have hjs : (Go.Lib.join (l.map (·.data.toList)) [47]).length ≤ 200 := by
    have := congrArg List.length HJ.out
    rw [List.length_cons] at this
    omega
   have HK := Lib.hid fun (w1 : World) (hb : Below w.heap.size w w1) => Tryz.strings_Join g o c l slash w1 (fun j x hx => by
     obtain ⟨g', o', eA, _, hg', hc⟩ := hA j x hx
     injection eA with eA
     injection eA with e1 e2
     subst e1 e2
     exact (hb.cell (p := ⟨g, o + j, none⟩) hg).trans hc) (Nat.lt_of_lt_of_le hg hb.size) (by omega) hlc (by
     show (Go.Lib.join (l.map (·.data.toList)) [47]).length ≤ _
     omega)
   have HF := Lib.hid (show joinN l = (ofList (jt l), 0) by unfold joinN; rw [if_pos h0, if_neg (by rw [hl]; simp)])
   have hsz : ¬ ((⟨#[47]⟩ : ByteArray).size + (ofList (Go.Lib.join (l.map (·.data.toList)) [47])).size > 9223372036854775807) := by
    rw [size_ofList]
    show ¬ (1 + _ > 9223372036854775807)
    omega
   have HE := Lib.hid ((slash_app (Go.Lib.join (l.map (·.data.toList)) [47])).trans (by rw [HJ.out] : _ = ofList (jt l)))
   clear hA h0 hall hjl hs hl HJ hjs
   go_enter Tryz.func15, Tryz.ntmps15
   go_wp2_with fail
   refine hC.out.mono ?_
   rintro e w1 ⟨rfl, hb1⟩
   rw [H0.out]
   have HB1 := Lib.hid hb1
   have HK1 := Lib.hid (HK.out w1 hb1)
   clear hb1 hC HK
   go_wp2_with fail
   refine HK1.out.mono ?_
   rintro e w2 ⟨rfl, hb2⟩
   rw [show (⟨(Go.Lib.join (l.map (·.data.toList)) slash.data.toList).toArray⟩ : ByteArray) = ofList (Go.Lib.join (l.map (·.data.toList)) [47]) from rfl]
   have HB2 := Lib.hid (HB1.out.trans (hb2.mono HB1.out.size))
   clear hb2
   generalize ofList (Go.Lib.join (l.map (·.data.toList)) [47]) = q at *
   go_wp2_with fail
   go_ret2
   exact ⟨by rw [HF.out, ← HE.out]; rfl, HB2.out⟩
 ·have HF := Lib.hid (show joinN l = (⟨#[]⟩, checkL l) by unfold joinN; rw [if_neg h0])
  have h1 : (checkL l != 0) = true := bne_iff_ne.2 h0
  clear h0
  go_enter Tryz.func15, Tryz.ntmps15
  go_wp2_with fail
  refine hC.out.mono ?_
  rintro e w1 ⟨rfl, hb1⟩
  have HB1 := Lib.hid hb1
  clear hb1 hC hv hs
  generalize checkL l = q at *
  go_wp2_with fail
  go_ret2
  exact ⟨by rw [HF.out]; rfl, HB1.out⟩
end Go.Proofs.YtpkhglfhpggceaaGreatDoor
namespace Go.Proofs.YtpkhglfhpggceaaGreatDoor
open Go Go.Lib
theorem cut_join : ∀ (l : List (List UInt8)), l ≠ [] → (∀ a ∈ l, ∀ x ∈ a, x ≠ 47) → cut (Lib.join l [47]) = l := by
 intro l
 induction l with
 | nil => intro h; exact absurd rfl h
 | cons a r ih =>
  intro _ hall
  cases hr : r with
  | nil => rw [join_one, cut_none a (hall a (by simp))]
  | cons b t =>
   have e : Lib.join (a :: b :: t) [47] = a ++ 47 :: Lib.join (b :: t) [47] := by
    rw [join_cons, join_cons]
    simp [joinTail]
   rw [e, cut_at a _ (hall a (by simp)), ← hr, ih (by rw [hr]; simp) (fun c hc => hall c (List.mem_cons_of_mem _ hc))]
theorem split_join {l : List ByteArray} (h : checkL l = 0) : splitN (joinN l).1 = (l, 0) := by
 obtain ⟨hall, _⟩ := checkL_all h
 unfold joinN
 rw [if_pos h]
 cases hl : l with
 | nil =>
  rw [if_pos rfl]
  have e : (slash.toList == [47]) = true := by rw [ByteArray.toList_eq]; rfl
  exact splitN_root e
 | cons u r =>
  rw [if_neg (by simp)]
  have hj := jt_join u r
  have hp : parts (ofList (Lib.join ((u :: r).map (·.data.toList)) [47])) = u :: r := by
   unfold parts
   rw [data_ofList, cut_join _ (by simp) (fun a ha x hx => by
    obtain ⟨y, hy, rfl⟩ := List.mem_map.1 ha
    exact nameOk_slash (List.all_eq_true.1 hall y (by rw [hl]; exact hy)) x hx), List.map_map]
   conv => rhs; rw [← List.map_id (u :: r)]
   exact List.map_congr_left fun y _ => ofList_data y
  have h1 : (ofList (jt (u :: r))).data.toList = 47 :: Lib.join ((u :: r).map (·.data.toList)) [47] := by rw [data_ofList, hj]
  have h0 : ((ofList (jt (u :: r))).toList == [47]) = false := by
   rw [ByteArray.toList_eq, h1, List.map_cons, join_cons]
   have hu := (nameOk_size (List.all_eq_true.1 hall u (by rw [hl]; simp))).1
   have hd := len_data u
   cases hud : u.data.toList with
   | nil => rw [hud] at hd; simp at hd; omega
   | cons x xs => simp
  rw [splitN_path h0 h1, hp, ← hl, if_pos h, hl]
theorem split_check {p : ByteArray} (h : (splitN p).2 = 0) : checkL (splitN p).1 = 0 := by
 cases h0 : p.toList == [47] with
 | true =>
  rw [splitN_root h0]
  simp [checkL]
 | false =>
  by_cases hp : ∃ r, p.data.toList = 47 :: r
  ·obtain ⟨r, hr⟩ := hp
   rw [splitN_path h0 hr] at h ⊢
   split at h
   ·rename_i hc
    rw [if_pos hc]
    exact hc
   ·rename_i hc
    exact absurd h hc
  ·rw [splitN_none h0 (fun r h => hp ⟨r, h⟩)] at h
   cases h
theorem checkL_take {l : List ByteArray} (n : Nat) (h : checkL l = 0) : checkL (l.take n) = 0 := by
 obtain ⟨h1, h2⟩ := checkL_all h
 unfold checkL
 rw [if_pos (List.all_eq_true.2 fun x hx => List.all_eq_true.1 h1 x (List.mem_of_mem_take hx)), if_neg (by rw [List.length_take]; omega)]
theorem findL_at : ∀ {l : Names} {s : ByteArray}, findL l s ≠ 0 → ∃ i : Nat, l[i]? = some (s, findL l s) ∧ ∀ j : Nat, j < i → ∀ q : ByteArray × Nat, l[j]? = some q → q.1 ≠ s := by
 intro l
 induction l with
 | nil => intro s h; exact absurd rfl h
 | cons p r ih =>
  intro s h
  unfold findL at h ⊢
  by_cases e : p.1 = s
  ·rw [if_pos e]
   refine ⟨0, ?_, fun j hj => absurd hj (by omega)⟩
   show some p = _
   rw [← e]
  ·rw [if_neg e] at h ⊢
   obtain ⟨i, h1, h2⟩ := ih h
   refine ⟨i + 1, h1, fun j hj q hq => ?_⟩
   cases j with
   | zero =>
    obtain rfl : p = q := Option.some.inj hq
    exact e
   | succ j => exact h2 j (by omega) q hq
theorem walkL_app (a : TS) (s : ByteArray) (id : Nat) : ∀ (l : List ByteArray) (d0 : Nat), a.walkL d0 (l ++ [s]) = (id, 0) →
  ∃ d, a.walkL d0 l = (d, 0) ∧ (a.nd d).kind = 2 ∧ a.find d s = id ∧ id ≠ 0 := by
 intro l
 induction l with
 | nil =>
  intro d0 h
  rw [List.nil_append] at h
  unfold TS.walkL at h
  split at h
  ·rename_i hk
   split at h
   ·cases h
   ·rename_i hf
    unfold TS.walkL at h
    have e : a.find d0 s = id := congrArg Prod.fst h
    exact ⟨d0, rfl, hk, e, e ▸ hf⟩
  ·cases h
 | cons u r ih =>
  intro d0 h
  rw [List.cons_append] at h
  unfold TS.walkL at h ⊢
  split at h
  ·rename_i hk
   rw [if_pos hk]
   split at h
   ·cases h
   ·rename_i hf
    rw [if_neg hf]
    exact ih _ h
  ·cases h
theorem up_law {a : TS} {p : ByteArray} (h1 : (a.walkP p).2 = 0) (h2 : (lastN p).2.2 = 0) :
  ∃ d, a.walkP (joinN (lastN p).1).1 = (d, 0) ∧ (a.nd d).kind = 2 ∧ findL (a.nd d).names (lastN p).2.1 = (a.walkP p).1 ∧ (a.walkP p).1 ≠ 0 ∧ (joinN (lastN p).1).1.size ≤ 1000 ∧ ∀ u ∈ (lastN p).1, u.size ≤ 9223372036854775807 := by
 rcases lastN_cases p with ⟨h, e⟩ | ⟨_, _, e⟩ | ⟨n, u, h, hl, hu, e⟩
 ·rw [e] at h2; exact absurd h2 h
 ·rw [e] at h2; cases h2
 ·rw [e]
  have hc := checkL_take n (split_check h)
  have hw : a.walkP p = a.walkL 1 (splitN p).1 := by unfold TS.walkP; rw [if_pos h]
  have hs : (splitN p).1 = (splitN p).1.take n ++ [u] := by
   conv => lhs; rw [← List.take_of_length_le (Nat.le_of_eq hl)]
   rw [List.take_add_one, hu]
   rfl
  rw [hw] at h1 ⊢
  generalize hid : (a.walkL 1 (splitN p).1).1 = id
  have hww : a.walkL 1 ((splitN p).1.take n ++ [u]) = (id, 0) := by rw [← hs, ← hid, ← h1]
  obtain ⟨d, q1, q2, q3, q4⟩ := walkL_app a u id _ 1 hww
  refine ⟨d, ?_, q2, q3, q4, ?_, ?_⟩
  ·unfold TS.walkP
   rw [split_join hc, if_pos rfl]
   exact q1
  ·obtain ⟨c1, c2⟩ := checkL_all hc
   have := jt_len c1
   show (joinN ((splitN p).1.take n)).1.size ≤ 1000
   unfold joinN
   rw [if_pos hc]
   split
   ·decide
   ·rw [size_ofList]; omega
  ·intro x hx
   have := splitN_ok (List.mem_of_mem_take hx)
   omega
theorem walkL_zero (a : TS) : ∀ (l : List ByteArray) (k : Nat), (a.walkL k l).2 ≠ 0 → (a.walkL k l).1 = 0 := by
 intro l
 induction l with
 | nil => intro k h; exact absurd rfl h
 | cons u r ih =>
  intro k h
  unfold TS.walkL at h ⊢
  split
  ·rename_i hk
   rw [if_pos hk] at h
   split
   ·rfl
   ·rename_i hf
    rw [if_neg hf] at h
    exact ih _ h
  ·rfl
theorem Good.walk_le {a : TS} {c : Nat} (h : Good a c) (p : ByteArray) : (a.walkP p).1 ≤ c + 1 := by
 by_cases h2 : (a.walkP p).2 = 0
 ·exact Nat.le_trans (h.in_last (h.walkP_live h2)).2 h.few
 ·have : (a.walkP p).1 = 0 := by
   unfold TS.walkP at h2 ⊢
   split
   ·rename_i he
    rw [if_pos he] at h2
    exact walkL_zero a _ _ h2
   ·rfl
  omega
end Go.Proofs.YtpkhglfhpggceaaGreatDoor
namespace Go.Proofs.YtpkhglfhpggceaaGreatDoor
set_option maxRecDepth 100000
set_option maxHeartbeats 16000000
open Go.RowKit Go.Proofs.YtpkhglfhpggceaaGreatDoorW.PrintLast
set_option linter.unusedVariables false
set_option linter.unusedSimpArgs false
theorem walks_any (A : Option Addr) (n cc : Nat) (l : List OpT) (p : ByteArray) (w : World) (hA : ActsR w A n l) (hnc : n ≤ cc) (hcc : cc ≤ maxLen) (hp : p.size ≤ maxLen) (hx : ∃ m, w.cell? ⟨0, 0, none⟩ = some (.int .i64 m)) :
  Calls Tryz.prog 3 #[.slice A n cc, .string p] w fun r w' => r = .returned (.bool true) ∧ Below w.heap.size w w' := by
 have HA := Lib.hid hA
 have HN := Lib.hid (tnew_any w hx)
 have hw0 : 0 < w.heap.size := by obtain ⟨m, hm⟩ := hx; exact mx_lt hm
 unfold maxLen at hcc hp
 obtain ⟨pl, hpl⟩ : ∃ m : Nat, m = min p.size 200 := ⟨_, rfl⟩
 have hps := fun W => brief_run W p pl hpl
 have hpn : min ((p.size : Nat) : Int) 200 = (pl : Int) := by omega
 have hp1 : (briefT p).size ≤ 1000 := Nat.le_trans (briefT_size _) (by omega)
 clear hA hx hpl
 go_enter Tryz.func3, Tryz.ntmps3
 go_wp2_with fail
 refine HN.out.mono ?_
 rintro e w1 ⟨t, rfl, hst, hb1⟩
 have HS1 := Lib.hid hst
 have HB1 := Lib.hid hb1
 have HRN := Lib.hid (rtnew_any w1 (Nat.lt_of_lt_of_le hw0 hb1.size))
 clear hst hb1 HN
 go_wp2_with fail
 refine HRN.out.mono ?_
 rintro e w2 ⟨y, rfl, hst, hb2⟩
 have HP := Lib.hid (Pair.start HS1.out HB1.out hst hb2)
 have HI := Lib.hid ts0_inv
 clear hst hb2 HS1 HB1 HRN
 generalize ts0 = a0 at *
 go_wp2_with fail
 go_loopw [7] (fun i wr => ∃ k : Nat, k ≤ n ∧ k ≤ 30 ∧ i = .int .i64 k ∧ ∃ a, Hid (Inv a (1 + 2 * k)) ∧ Hid (Pair w t y (1 + 2 * k) a a wr)) (fun i _ => n - (intOf i).toNat)
 case atStart => exact ⟨0, Nat.zero_le _, by omega, rfl, a0, HI, HP⟩
 case round =>
 clear HI HP
 rename World => wr
 obtain ⟨k, hk, hk30, rfl, a, hI, hP⟩ := hrel
 by_cases hlt : k < n ∧ k < 30
 ·skip
  obtain ⟨hlt, hlt2⟩ := hlt
  obtain ⟨o, g, x, A2, c2, rfl, ⟨hz1, hz2, hz3⟩, ho, hW⟩ := HA.out.at_ hlt
  have HRd := Lib.hid hW
  have hi1 : (0 : Int) ≤ (k : Int) := by omega
  have hi2 : (k : Int) < (n : Int) := by omega
  have hi3 : (k : Int) < 30 := by omega
  have hsz1 : (fewT o).path.size ≤ 1000 := Nat.le_trans (briefT_size _) (by omega)
  have hsz2 : (fewT o).to.size ≤ 1000 := Nat.le_trans (briefT_size _) (by omega)
  have HI2 := Lib.hid (hI.out.doT (o := fewT o))
  have HG := Lib.hid hI.out.1
  have HP0 := Lib.hid hP.out
  have HFW := Lib.hid (fun W (hb : Below w.heap.size w W) => few_any o A2 c2 W (HRd.out W hb).1 hz1 hz2 hz3)
  obtain ⟨hbs, x0, x1, x2, x3, x4, x5, x6, x7⟩ := HRd.out wr HP0.out.bel
  clear hW ho hI hP hbs
  go_wp2_with fail
  refine (HFW.out _ HP0.out.bel).mono ?_
  rintro e w3 ⟨A3, c3, rfl, hby, hown, hb3⟩
  have HD7 := Lib.hid (HP0.out.do7 HG.out (by omega) (fewT o) hsz1 hsz2 hb3 hby hown)
  clear hby hown hb3 x0 x1 x2 x3 x4 x5 x6 x7 HP0
  go_wp2_with fail
  refine HD7.out.mono ?_
  rintro e w4 ⟨v4, rfl, hP4⟩
  have HP4 := Lib.hid hP4
  obtain ⟨hbs, x0, x1, x2, x3, x4, x5, x6, x7⟩ := HRd.out w4 hP4.bel
  clear hP4 HD7 hbs
  go_wp2_with fail
  refine (HFW.out _ HP4.out.bel).mono ?_
  rintro e w5 ⟨A5, c5, rfl, hby, hown, hb5⟩
  have HD9 := Lib.hid (HP4.out.rdo9 HG.out (by omega) (fewT o) hsz1 hsz2 hb5 hby)
  clear hby hown hb5 x0 x1 x2 x3 x4 x5 x6 x7 HP4
  go_wp2_with fail
  refine HD9.out.mono ?_
  rintro e w6 ⟨v6, rfl, hP6⟩
  have HP6 := Lib.hid hP6
  clear hP6 HD9
  go_wp2
  go_roundw
  case rel =>
   have e : 1 + 2 * (k + 1) = 1 + 2 * k + 2 := by omega
   exact ⟨k + 1, by omega, by omega, by go_num, a.doT (fewT o), (by rw [e]; exact HI2), (by rw [e]; exact HP6)⟩
  case measure => simp [intOf]; omega
 ·have HG := Lib.hid hI.out.1
  have HP := Lib.hid hP.out
  have hkc : 1 + 2 * k ≤ 61 := by omega
  generalize 1 + 2 * k = c at *
  clear hI hP
  have hend : (¬ (k : Int) < (n : Int)) ∨ ((k : Int) < (n : Int) ∧ ¬ (k : Int) < 30) := by omega
  obtain ⟨id, hid⟩ : ∃ id, (a.walkP (briefT p)).1 = id := ⟨_, rfl⟩
  obtain ⟨er, her⟩ : ∃ er, (a.walkP (briefT p)).2 = er := ⟨_, rfl⟩
  have hidl : id ≤ 1000000 := by have := HG.out.walk_le (briefT p); omega
  have HW := Lib.hid (fun W (h : Pair w t y c a a W) => h.walk HG.out (by omega) (briefT p) hp1)
  have HRW := Lib.hid (fun W (h : Pair w t y c a a W) => h.rwalk HG.out (by omega) (briefT p) hp1)
  rw [hid, her] at HW HRW
  have HSM := Lib.hid (fun W (h : Pair w t y c a a W) => h.same HG.out (by omega) id hidl)
  have HWL := Lib.hid (fun W (h : Pair w t y c a a W) => h.walk HG.out (by omega))
  have HND := Lib.hid (fun W (h : Pair w t y c a a W) => h.node HG.out (by omega))
  have HID := Lib.hid hid
  have HER := Lib.hid her
  clear hid her hlt hk hk30
  obtain hend | ⟨hend, hend2⟩ := hend
  all_goals
   go_wp2_with fail
   refine (HW.out _ HP.out).mono ?_
   rintro e w3 ⟨rfl, hb3⟩
   have HP3 := Lib.hid (HP.out.below hb3)
   clear hb3 HP
   go_wp2_with fail
   refine (HRW.out _ HP3.out).mono ?_
   rintro e w4 ⟨rfl, hb4⟩
   have HP4 := Lib.hid (HP3.out.below hb4)
   clear hb4 HP3
   go_wp2_with fail
   refine (HSM.out _ HP4.out).mono ?_
   rintro e w5 ⟨rfl, hb5⟩
   have HP5 := Lib.hid (HP4.out.below hb5)
   clear hb5 HP4
   have HLS := Lib.hid (fun (m : Int) (hm : w5.cell? ⟨0, 0, none⟩ = some (.int .i64 m)) => plast_any (briefT p) w5 m (by omega) hm)
   obtain ⟨m5, hm5⟩ := HP5.out.mx
   have HLS := Lib.hid (HLS.out m5 hm5)
   clear hm5
   go_wp2_with fail
   refine HLS.out.mono ?_
   rintro e w6 ⟨lv, rfl, htx, hb6⟩
   have HP6 := Lib.hid (HP5.out.below hb6)
   have HTX := Lib.hid htx
   clear hb6 htx HLS HP5
   have HWK := Lib.hid (works_any w6 HP6.out.mx)
   by_cases he : er = 0 ∧ (lastN (briefT p)).2.2 = 0
   ·obtain ⟨he0, hle0⟩ := he
    obtain ⟨d, q1, q2, q3, q4, q5, q6⟩ := up_law (a := a) (p := briefT p) (by rw [HER.out]; exact he0) hle0
    rw [HID.out] at q3
    have HJ := Lib.hid (pjoin_any lv (lastN (briefT p)).1 w6 HTX.out q6)
    obtain ⟨i0, hi0, hlow⟩ := findL_at (l := (a.nd d).names) (s := (lastN (briefT p)).2.1) (by rw [q3]; rw [HID.out] at q4; exact q4)
    rw [q3] at hi0
    have HI0 := Lib.hid hi0
    have HLOW := Lib.hid hlow
    have HL0 := Lib.hid (show i0 < (a.nd d).names.length from (List.getElem?_eq_some_iff.1 hi0).1)
    have HW2 := Lib.hid (fun W (h : Pair w t y c a a W) => HWL.out W h (joinN (lastN (briefT p)).1).1 q5)
    rw [q1] at HW2
    have HND2 := Lib.hid (fun W (h : Pair w t y c a a W) => HND.out W h d (by rw [q2]; decide))
    have HLN := Lib.hid (show (a.nd d).names.length ≤ 100000 from Nat.le_trans (HG.out.len d) (by omega))
    generalize (joinN (lastN (briefT p)).1).2 = je at *
    generalize (joinN (lastN (briefT p)).1).1 = up at *
    generalize (lastN (briefT p)).2.1 = sn at *
    rw [hle0]
    subst he0
    clear q1 q2 q3 q4 q5 q6 hi0 hlow hle0 HWL HND
    go_wp2_with fail
    refine HJ.out.mono ?_
    rintro e w7 ⟨rfl, hb7⟩
    have HP7 := Lib.hid (HP6.out.below hb7)
    clear hb7 HJ HTX HP6 HWK
    go_wp2_with fail
    refine (HW2.out _ HP7.out).mono ?_
    rintro e w8 ⟨rfl, hb8⟩
    have HP8 := Lib.hid (HP7.out.below hb8)
    clear hb8 HW2 HP7
    go_wp2_with fail
    refine (HND2.out _ HP8.out).mono ?_
    rintro e w9 ⟨A1, c1, ev, rfl, hby, hent, hb9⟩
    have HP9 := Lib.hid (HP8.out.below hb9)
    obtain ⟨A4, c4, rfl⟩ := hent.shape
    have HE := Lib.hid hent
    clear hb9 hby hent HP8 HND2
    go_upto_region 18 with (fail)
    have h1 := Blk.new w9 48 #[.int .i64 (a.nd d).kind, .int .i64 (a.nd d).links, .slice A1 (a.nd d).data.length c1, .slice A4 (List.length (a.nd d).names) c4]
    have hB2 : Below w9.heap.size w9 (w9.alloc (.cells #[.int .i64 (a.nd d).kind, .int .i64 (a.nd d).links, .slice A1 (a.nd d).data.length c1, .slice A4 (List.length (a.nd d).names) c4] 48)) := (Below.refl _ _).alloc (Nat.le_refl _) _
    have H1 := Lib.hid h1
    have HPA := Lib.hid (HP9.out.below hB2)
    have HE2 := Lib.hid (HE.out.turn (S := fun _ => False) (Turn.of_below hB2) (fun _ _ _ _ _ => fun x => x))
    clear h1 hB2 HP9 HE
    generalize w9.alloc (.cells #[.int .i64 (a.nd d).kind, .int .i64 (a.nd d).links, .slice A1 (a.nd d).data.length c1, .slice A4 (List.length (a.nd d).names) c4] 48) = wa at *
    generalize w9.heap.size = nb at *
    generalize hls : (a.nd d).names = ls at *
    generalize (a.nd d).kind = kd at *
    generalize (a.nd d).links = lk at *
    generalize (a.nd d).data.length = dl at *
    clear hls
    have hll := HL0.out
    have hln := HLN.out
    go_wp2_with fail
    go_loopw [21] (fun v wq => ∃ j : Nat, j ≤ i0 ∧ v = .int .i64 (j : Nat) ∧ Hid (Below wa.heap.size wa wq)) (fun v _ => i0 + 1 - (intOf v).toNat)
    case atStart => exact ⟨0, Nat.zero_le _, rfl, Lib.hid (Below.refl _ _)⟩
    case round =>
    rename World => wq
    obtain ⟨j, hj, rfl, hb⟩ := hrel
    have HX := Lib.hid (H1.out.below hb.out H1.out.lt)
    have HEa := Lib.hid (HE2.out.turn (S := fun _ => False) (Turn.of_below hb.out) (fun _ _ _ _ _ => fun x => x))
    have HPq := Lib.hid (HPA.out.below hb.out)
    obtain ⟨q, hq⟩ : ∃ q, ls[j]? = some q := ⟨ls[j], List.getElem?_eq_getElem (by omega)⟩
    obtain ⟨ga, rfl, ca0, ca1⟩ := HEa.out.at_ hq
    have hji : ((j : Nat) : Int) < ((ls.length : Nat) : Int) := by omega
    have hji2 : (0 : Int) ≤ ((j : Nat) : Int) := by omega
    have x3 := HX.out.cell 3
    simp at x3
    by_cases hj0 : j < i0
    ·have hne : q.1 ≠ sn := HLOW.out j hj0 q hq
     have hd1 : (q.1.toList == sn.toList) = false := beq_eq_false_iff_ne.2 fun x => hne (toList_inj.1 x)
     clear hq hne
     go_wp2
     go_roundw
     case rel => exact ⟨j + 1, by omega, by go_num, hb⟩
     case measure => simp [intOf]; omega
    ·obtain rfl : j = i0 := by omega
     have hqe : q = (sn, id) := by have := HI0.out; rw [hq] at this; exact Option.some.inj this
     subst hqe
     have HWK := Lib.hid (works_any wq HPq.out.mx)
     have hd1 : (sn.toList == sn.toList) = true := beq_self_eq_true _
     clear hq
     go_wp2_with fail
     refine HWK.out.mono ?_
     rintro e wz ⟨rfl, hbz⟩
     have HF := Lib.hid (HPq.out.bel.trans (hbz.mono HPq.out.bel.size))
     clear hbz HWK
     go_wp2
     go_ret
     exact ⟨by simp, HF.out⟩
   ·have he2 : (¬ er = 0) ∨ (er = 0 ∧ ¬ (lastN (briefT p)).2.2 = 0) := by
     by_cases h : er = 0
     ·exact .inr ⟨h, fun h2 => he ⟨h, h2⟩⟩
     ·exact .inl h
    generalize (lastN (briefT p)).2.2 = le at *
    obtain ⟨A6, c6, hlv, _⟩ := HTX.out
    subst hlv
    clear he HTX
    obtain he2 | ⟨rfl, he2⟩ := he2
    ·have h1 : (er != 0) = true := bne_iff_ne.2 he2
     clear he2
     go_wp2_with fail
     refine HWK.out.mono ?_
     rintro e w7 ⟨rfl, hb7⟩
     have HF := Lib.hid (HP6.out.bel.trans (hb7.mono HP6.out.bel.size))
     clear hb7 HWK
     go_wp2
     go_ret
     exact ⟨rfl, HF.out⟩
    ·have h1 : (le != 0) = true := bne_iff_ne.2 he2
     clear he2
     go_wp2_with fail
     refine HWK.out.mono ?_
     rintro e w7 ⟨rfl, hb7⟩
     have HF := Lib.hid (HP6.out.bel.trans (hb7.mono HP6.out.bel.size))
     clear hb7 HWK
     go_wp2
     go_ret
     exact ⟨rfl, HF.out⟩
end Go.Proofs.YtpkhglfhpggceaaGreatDoor
namespace Go.Proofs.YtpkhglfhpggceaaGreatDoor.treeWalks
set_option maxRecDepth 100000
set_option maxHeartbeats 16000000
open Go.ChangeShapes Go.WideShapes Go.ChangeAt Go.RowKit
set_option linter.unusedVariables false
theorem laid_met (os : Os) : laidMet Tryz.prog Rows.treeWalksRow.laid ((laidWorld os).forCall (fun _ _ => 0) ⟨#[], #[.slice none 0 0, .string (ByteArray.mk #[])], []⟩).memory :=
 laidMet_of_run' 8 (by kernel_rfl) (by kernel_rfl)
theorem reads (os : Os) {H : Type} (enc : TypeId × Value → H) : ∃ places, DataW.whole enc Tryz.prog ((laidWorld os).forCall (fun _ _ => 0) ⟨#[], #[.slice none 0 0, .string (ByteArray.mk #[])], []⟩).memory Tryz.f3.params.toList Rows.treeWalksSpec.vars false #[Value.slice none 0 0, .string (ByteArray.mk #[])].toList 8 = some ([.nil, .lit (.string [])], [], places) :=
 ⟨[], by kernel_rfl⟩
theorem lifted (os : Os) (started : os.Started) (H : Type) (enc : TypeId × Value → H) (F : Stop.Interp) :
  ReturnsInHanded {} Tryz.checked os 3 .any ((OpenSpec.ofChange Rows.treeWalksSpec).preRow enc Tryz.prog Tryz.f3 Rows.treeWalksRow.domain false Rows.treeWalksRow.laid) (((OpenSpec.ofChange Rows.treeWalksSpec).at F).post enc Tryz.prog Tryz.f3 false true false false) := by
 obtain ⟨places, hx⟩ := reads os enc
 refine returnsInHanded_of_row (C := Tryz.checked) (s := OpenSpec.ofChange Rows.treeWalksSpec) own started (by kernel_rfl) Tryz.func3
  (witness_row_at (enc := enc) (C := Tryz.checked) false (laidWorld os) #[.slice none 0 0, .string (ByteArray.mk #[])] rfl (by kernel_rfl) (by kernel_rfl) (by kernel_rfl)
   (OpenSpec.preRow_of_cond 8 hx (by kernel_rfl) (fun k hk => by cases hk) (by kernel_rfl) (laid_met os))) ?_
 intro W base args ds gs before hval0 hW _ _ hsz hL hS _
 have hval : ∀ (j : Nat) t v, Tryz.f3.params[j]? = some t → args[j]? = some v → Value.okWide Tryz.prog W .any base t v := hval0
 have hS' : W.ShapedOpen Tryz.prog := hS
 have hm := maxLen_cell hS'
 have hW' := hW
 obtain ⟨p, q, hA0, hV, rfl, hfz, hnd⟩ := hW
 have hA : DataW.TrodAll enc Tryz.prog W 0 (fun _ => true) true Tryz.f3.params.toList args.toList ds p := hA0
 have hwt : (DataW.weightsEach Tryz.prog (Tryz.f3.params.toList ++ (OpenSpec.ofChange Rows.treeWalksSpec).bare.plain.varTypes Tryz.prog) (ds ++ gs)).all (· ≤ reachBytes) = true := hsz
 rw [Tryz.params3] at hA hval hwt
 obtain ⟨v0, vs0, d0, ds0, p0, q0, hargs, rfl, rfl, h0, r0⟩ := trodAll_cons hA
 obtain ⟨v1, vs1, d1, ds1, p1, q1, hargs1, rfl, rfl, h1, r1⟩ := trodAll_cons r0
 obtain ⟨rfl, rfl, rfl⟩ := trodAll_nil r1
 obtain rfl : args = #[v0, v1] := by cases args; simp_all
 obtain ⟨rfl, rfl⟩ := trodVars_none hV
 have k0 := h0
 have k1 := h1
 have lt0 : ∀ x ∈ p0, x.block < W.heap.size := by obtain ⟨n, hn⟩ := k0; exact DataW.trod_lt n _ _ _ hn
 have lt1 : ∀ x ∈ p1, x.block < W.heap.size := by obtain ⟨n, hn⟩ := k1; exact DataW.trod_lt n _ _ _ hn
 have hw0 : ∀ n ∈ d0.weights Tryz.prog 22, n ≤ reachBytes := fun n hn => by
  have := List.all_eq_true.1 hwt n (DataW.weights_mem_each (j := 0) (t := 22) (d := d0) rfl rfl n hn)
  simpa using this
 obtain ⟨A0, n0, c0, l0, rfl, ha0, hn0, hc0⟩ := acts_open (hval 0 22 v0 rfl rfl) h0 hw0
 obtain ⟨s1, rfl, -, -, z1⟩ := Go.ChangeMaps.open_string Tryz.underlying9 (hval 1 9 v1 rfl rfl) h1
 clear hA0 hval0
 refine (walks_any A0 n0 c0 l0 s1 W ha0 hn0 hc0 z1 hm).mono fun e W' ⟨he, bel⟩ => ?_
 subst he
 exact ⟨_, rfl, _, _, _, [], _, [], hW', trodAll_mk1 (shut_bool Tryz.underlying4 _),
  (trodAll_cons_mk (Below.trod laidOut (by kernel_rfl) (of_decide_eq_true (by kernel_rfl)) k0 bel lt0) (trodAll_cons_mk (Below.trod laidOut (by kernel_rfl) (of_decide_eq_true (by kernel_rfl)) k1 bel lt1) trodAll_mk0)), rfl, bel.frame _, fun h => by cases h⟩
theorem said : Rows.TreeWalksSaid :=
 OpenClaim.holds_of_cond 3 Tryz.f3 rfl rfl rfl rfl rfl rfl rfl ⟨rfl, rfl, rfl, rfl, rfl⟩ rfl rfl rfl rfl rfl (by kernel_rfl) Tryz.func3 (by kernel_rfl)
  (of_decide_eq_true (by kernel_rfl)) (by unfold Func.isWrapper; first | (rw [if_pos (by decide +kernel)]; kernel_rfl) | (rw [if_neg (by decide +kernel)]; exact ⟨rfl, rfl⟩))
  (fun os started H enc _ F => by rw [OpenClaim.pre_eq_preRow]; exact lifted os started H enc F)
theorem plain (f : FuncId) (fn : Func) (hf : Tryz.pinned.checked.prog.funcNamed "scupper/scupperlaw25.TreeWalks" = some f) (hfn : Tryz.pinned.checked.prog.funcs[f]? = some fn) :
  true = Tryz.pinned.checked.prog.looks [] ∧ ∀ (j : Nat) t, fn.params[j]? = some t → Tryz.pinned.checked.prog.wantsStandIn t = false := by
 obtain rfl : f = 3 := Option.some.inj ((show Tryz.prog.funcNamed "scupper/scupperlaw25.TreeWalks" = some 3 by kernel_rfl).symm.trans hf) |>.symm
 obtain rfl : fn = Tryz.f3 := (Option.some.inj (Tryz.func3.symm.trans hfn)).symm
 refine ⟨by kernel_rfl, fun j t ht => ?_⟩
 rw [Tryz.params3] at ht
 rcases (show t = 22 ∨ t = 9 by simpa using Array.mem_of_getElem? ht) with rfl | rfl
 ·exact (show Tryz.prog.wantsStandIn 22 = false by kernel_rfl)
 ·exact (show Tryz.prog.wantsStandIn 9 = false by kernel_rfl)
theorem card : Rows.TreeWalksCardSaid :=
 Claim7.holds_tied_plain_at .later [] _ _ _ _ said (fun _ h => by cases h) (by kernel_rfl) (fun _ h => by cases h) treeWalks_row_tie rfl ⟨rfl, rfl⟩ (by kernel_rfl) rfl plain (by kernel_rfl)
#print axioms card
end Go.Proofs.YtpkhglfhpggceaaGreatDoor.treeWalks
