/- Split and Last, of the package and of the reference. -/
import Derived.Test.YtpkhglfhpggceaaGreatDoorTexts
namespace Go.Proofs.YtpkhglfhpggceaaGreatDoor
set_option maxRecDepth 100000
set_option maxHeartbeats 16000000
open Go.RowKit

/-- In the midst of the reference's Split: what stands in out, and where the next part begins. -/
def Midst (L : List UInt8) (out : List (List UInt8)) (from_ i : Nat) : Prop :=
 from_ ≤ i ∧ i ≤ L.length ∧ out.length ≤ i ∧ cut L = out ++ cut (L.drop from_) ∧ ∀ x ∈ (L.drop from_).take (i - from_), x ≠ 47
theorem Midst.start (L : List UInt8) : Midst L [] 0 0 := ⟨Nat.le_refl _, Nat.zero_le _, Nat.le_refl _, by simp, by simp⟩
theorem Midst.parted {L : List UInt8} {out : List (List UInt8)} {f i : Nat} (h : Midst L out f i) (hi : i < L.length) (hc : L[i] = 47) : Midst L (out ++ [(L.drop f).take (i - f)]) (i + 1) (i + 1) := by
 obtain ⟨h1, h2, h3, h4, h5⟩ := h
 refine ⟨Nat.le_refl _, hi, by simp; omega, ?_, by simp⟩
 have e : L.drop f = (L.drop f).take (i - f) ++ 47 :: L.drop (i + 1) := by
  conv => lhs; rw [← List.take_append_drop (i - f) (L.drop f)]
  congr 1
  rw [List.drop_drop, show f + (i - f) = i by omega, List.drop_eq_getElem_cons hi, hc]
 rw [h4]
 conv => lhs; rw [e]
 rw [cut_at _ _ h5]
 simp
theorem Midst.on {L : List UInt8} {out : List (List UInt8)} {f i : Nat} (h : Midst L out f i) (hi : i < L.length) (hc : ¬ L[i] = 47) : Midst L out f (i + 1) := by
 obtain ⟨h1, h2, h3, h4, h5⟩ := h
 refine ⟨by omega, hi, by omega, h4, ?_⟩
 rw [show i + 1 - f = (i - f) + 1 by omega, List.take_add_one]
 intro x hx
 rw [List.mem_append] at hx
 rcases hx with hx | hx
 ·exact h5 x hx
 ·rw [List.getElem?_drop, show f + (i - f) = i by omega, List.getElem?_eq_getElem hi] at hx
  simp at hx
  rw [hx]; exact hc
theorem Midst.done {L : List UInt8} {out : List (List UInt8)} {f : Nat} (h : Midst L out f L.length) : cut L = out ++ [L.drop f] := by
 obtain ⟨h1, h2, h3, h4, h5⟩ := h
 rw [h4, cut_none]
 rwa [List.take_of_length_le (by simp)] at h5

theorem info9 : (Tryz.prog.info? 9).map (fun i => (i.zero, i.size, i.bytes)) = some (some (.string ByteArray.empty), 1, 16) := by kernel_rfl

theorem bsplit_any (s : ByteArray) (w : World) (hs : s.size ≤ 100000) :
  Calls Tryz.prog 86 #[.string s, .int .u8 47] w fun e w' => ∃ v, e = .returned v ∧ Texts w.heap.size w' v (parts s) ∧ Below w.heap.size w w' := by
 obtain ⟨i0, hi0, hz0, hz1, hz2⟩ := info_parts info9
 have hL := len_data s
 go_enter Tryz.func86, Tryz.ntmps86
 go_wp2
 go_loopw [5, 6, 7] (fun v f i wr => ∃ (k q : Nat) (out : List (List UInt8)), i = .int .i64 k ∧ f = .int .i64 q ∧ Hid (Midst s.data.toList out q k) ∧ q ≤ k ∧ k ≤ s.size ∧ out.length ≤ k ∧
  wr.ownsRow w.heap.size 9 1 v out.length ((out.map ofList).map Value.string) ∧ Below w.heap.size w wr) (fun _ _ i _ => s.size - (intOf i).toNat)
 case atStart => exact ⟨0, 0, [], rfl, rfl, Midst.start _, by omega, by omega, by simp, World.ownsRow_made w #[] 0 (Nat.le_refl _) (Nat.zero_le _) rfl, (Below.refl _ _).alloc (Nat.le_refl _) _⟩
 case round =>
  obtain ⟨k, q, out, rfl, rfl, hM, hq, hk, hol, hown, hbel⟩ := hrel
  have hsz := hbel.size
  have HO := Lib.hid hown
  have HB := Lib.hid hbel
  clear hown hbel
  by_cases hlt : k < s.size
  ·by_cases hc : (s[k]'hlt).toNat = 47
   ·have ht1 : (((s[k]'hlt).toNat : Int) == 47) = true := beq_iff_eq.2 (by omega)
    have HM := Lib.hid (hM.out.parted (by omega) (UInt8.toNat_inj.1 hc))
    clear hc
    go_wp2_with (at_builtin; refine wpList_append_own _ rfl (.tmp 20) (.tmp 25) 29 rfl w.heap.size 9 i0 (.string ByteArray.empty) 1 16 Tryz.underlying29 hi0 hz0 hz1 hz2 rfl (by decide) _ _ _ rfl (HO.out.alloc _) ⟨wr.heap.size, 0, none⟩ 1 1 [.string (s.extract q k)] rfl rfl ?c1 ?c2 ?c3 ?c4 ?c5 ?_)
    case c1 => exact one_new _ _ _
    case c2 => simp [Value.oneCell']
    case c3 => simp only [maxLen]; omega
    case c4 => omega
    case c5 => simp; omega
    intro v' w1 hown1 hgrow1 _
    have hown2 : w1.ownsRow w.heap.size 9 1 v' (out ++ [(s.data.toList.drop q).take (k - q)]).length (((out ++ [(s.data.toList.drop q).take (k - q)]).map ofList).map Value.string) := by
     rw [extract_ofList] at hown1
     simpa using hown1
    have hbel2 : Below w.heap.size w w1 := (HB.out.alloc HB.out.size _).grown hgrow1 (by simp; omega) (fun j hj => (HO.out.lt j hj).1)
    clear hgrow1 hown1
    go_wp2
    go_roundw
    case rel => exact ⟨k + 1, k + 1, _, by go_num, by go_num, HM.out, Nat.le_refl _, by omega, by simp; omega, hown2, hbel2⟩
    case measure => simp [intOf]; omega
   ·have ht1 : (((s[k]'hlt).toNat : Int) == 47) = false := beq_eq_false_iff_ne.2 (by omega)
    have HM := Lib.hid (hM.out.on (by omega) (fun e => hc (UInt8.toNat_inj.2 e)))
    clear hc
    go_wp2
    go_roundw
    case rel => exact ⟨k + 1, q, out, by go_num, rfl, HM.out, by omega, by omega, by omega, HO.out, HB.out⟩
    case measure => simp [intOf]; omega
  ·obtain rfl : k = s.size := by omega
   go_wp2_with (at_builtin; refine wpList_append_own _ rfl (.tmp 29) (.tmp 33) 29 rfl w.heap.size 9 i0 (.string ByteArray.empty) 1 16 Tryz.underlying29 hi0 hz0 hz1 hz2 rfl (by decide) _ _ _ rfl (HO.out.alloc _) ⟨wr.heap.size, 0, none⟩ 1 1 [.string (s.extract q s.size)] rfl rfl ?c1 ?c2 ?c3 ?c4 ?c5 ?_)
   case c1 => exact one_new _ _ _
   case c2 => simp [Value.oneCell']
   case c3 => simp only [maxLen]; omega
   case c4 => omega
   case c5 => simp; omega
   intro v' w1 hown1 hgrow1 _
   have hown2 : w1.ownsRow w.heap.size 9 1 v' (parts s).length ((parts s).map Value.string) := by
    have hd := (show Midst s.data.toList out q s.data.toList.length by rw [len_data]; exact hM.out).done
    unfold parts
    rw [hd]
    rw [extract_ofList, List.take_of_length_le (by simp)] at hown1
    simpa using hown1
   have hbel2 : Below w.heap.size w w1 := (HB.out.alloc HB.out.size _).grown hgrow1 (by simp; omega) (fun j hj => (HO.out.lt j hj).1)
   clear hgrow1 hown1
   have HT := Lib.hid (Texts.of_own hown2)
   clear hown2
   go_wp2
   go_ret
   exact ⟨_, rfl, HT.out, hbel2⟩

theorem cut_sizes (l : List UInt8) : ∀ x ∈ cut l, x.length ≤ l.length := by
 induction l with
 | nil => simp [cut]
 | cons x xs ih =>
  rw [cut_cons]
  split
  ·intro y hy
   rcases List.mem_cons.1 hy with rfl | hy
   ·simp
   ·have := ih y hy; simp; omega
  ·split
   ·rename_i h t e
    rw [e] at ih
    intro y hy
    rcases List.mem_cons.1 hy with rfl | hy
    ·have := ih h (by simp); simp; omega
    ·have := ih y (by simp [hy]); simp; omega
   ·simp
theorem parts_size {s u : ByteArray} (h : u ∈ parts s) : u.size ≤ s.size := by
 unfold parts at h
 rw [List.mem_map] at h
 obtain ⟨l, hl, rfl⟩ := h
 rw [size_ofList, ← len_data s]
 exact cut_sizes _ l hl
theorem parts_len (s : ByteArray) : (parts s).length ≤ s.size + 1 := by
 rw [← count_parts s.size s (Nat.le_refl _)]
 have := Lib.countB_le slash (by decide) s.size s (Nat.le_refl _)
 omega

theorem split_in (s : ByteArray) (w : World) (m : Int) (hs : s.size ≤ 100000) (hm : w.cell? ⟨0, 0, none⟩ = some (.int .i64 m)) :
  Calls Tryz.prog 52 #[.string s, .string ⟨#[47]⟩] w fun e w' => ∃ v, e = .returned v ∧ Texts w.heap.size w' v (parts s) ∧ Below w.heap.size w w' := by
 refine (Tryz.strings_Split s slash m w (by omega) hm (by decide)).mono fun e w' ⟨h1, h2⟩ => ?_
 have hc := count_parts s.size s (Nat.le_refl _)
 rw [splitB_parts s.size s (Nat.le_refl _)] at h2
 rw [hc] at h1
 have hl := parts_len s
 refine ⟨_, h1, ⟨_, _, rfl, Nat.le_refl _, by unfold maxLen; omega, fun i u hu => ⟨w.heap.size, 0, rfl, Nat.le_refl _, (by rw [h2]; simp), ?_⟩⟩, (by rw [h2]; exact (Below.refl _ _).alloc (Nat.le_refl _) _)⟩
 rw [h2]
 simp [go_sem, hu]

def PSplitPost (p : ByteArray) (w : World) (e : Ending) (w' : World) : Prop :=
 ∃ v, e = .returned (.tuple #[v, .int .i64 (splitN p).2]) ∧ Texts w.heap.size w' v (splitN p).1 ∧ Below w.heap.size w w'

theorem splitN_root {p : ByteArray} (h : (p.toList == [47]) = true) : splitN p = ([], 0) := by simp [splitN, h]
theorem splitN_path {p : ByteArray} {r : List UInt8} (h : (p.toList == [47]) = false) (hr : p.data.toList = 47 :: r) :
  splitN p = if checkL (parts (ofList r)) = 0 then (parts (ofList r), 0) else ([], checkL (parts (ofList r))) := by
 unfold splitN
 rw [h]
 simp only [Bool.false_eq_true, if_false, hr]
theorem splitN_none {p : ByteArray} (h : (p.toList == [47]) = false) (hr : ∀ r, p.data.toList ≠ 47 :: r) : splitN p = ([], 45) := by
 unfold splitN
 rw [h]
 simp only [Bool.false_eq_true, if_false]

theorem psplit_any (p : ByteArray) (w : World) (m : Int) (hs : p.size ≤ 100000) (hm : w.cell? ⟨0, 0, none⟩ = some (.int .i64 m)) :
  Calls Tryz.prog 18 #[.string p] w (PSplitPost p w) := by
 have hC := Lib.hid (Tryz.strings_CutPrefix p ⟨#[47]⟩ w)
 cases hr0 : p.toList == [47] with
 | true =>
  have HF := Lib.hid (show PSplitPost p w (.returned (.tuple #[.slice none 0 0, .int .i64 0])) w from ⟨_, by rw [splitN_root hr0], by rw [splitN_root hr0]; exact Texts.nil _ _, Below.refl _ _⟩)
  go_enter Tryz.func18, Tryz.ntmps18
  go_wp2
  go_ret2
  exact HF.out
 | false =>
  by_cases hp : ∃ r, p.data.toList = 47 :: r
  ·obtain ⟨r, hr⟩ := hp
   have hrs : (ofList r).size ≤ 100000 := by
    have := len_data p
    rw [hr] at this
    rw [size_ofList]
    simp at this
    omega
   have e1 : Lib.hasPrefix p.data.toList (⟨#[47]⟩ : ByteArray).data.toList = true := by rw [hr]; rfl
   have e2 : (⟨(Lib.trimPrefix p.data.toList (⟨#[47]⟩ : ByteArray).data.toList).toArray⟩ : ByteArray) = ofList r := by rw [hr]; rfl
   have HS0 := Lib.hid (show checkL (parts (ofList r)) = 0 → splitN p = (parts (ofList r), 0) from fun h => by rw [splitN_path hr0 hr, if_pos h])
   have HS1 := Lib.hid (show ¬ checkL (parts (ofList r)) = 0 → splitN p = ([], checkL (parts (ofList r))) from fun h => by rw [splitN_path hr0 hr, if_neg h])
   have E1 := Lib.hid e1
   have E2 := Lib.hid e2
   have HM := Lib.hid hm
   clear e1 e2 hr hm
   go_enter Tryz.func18, Tryz.ntmps18
   go_wp2_with fail
   refine hC.out.mono ?_
   rintro e w' ⟨rfl, rfl⟩
   rw [E1.out, E2.out]
   go_wp2_with fail
   refine (split_in (ofList r) _ m hrs HM.out).mono ?_
   rintro e w1 ⟨v, rfl, hT, hb1⟩
   have HT := Lib.hid hT
   have HB1 := Lib.hid hb1
   clear hT hb1
   go_wp2_with fail
   refine (pcheck_any v _ w1 HT.out (fun u hu => by have := parts_size hu; omega)).mono ?_
   rintro e w2 ⟨rfl, hb2⟩
   have HB2 := Lib.hid (HB1.out.trans (hb2.mono HB1.out.size))
   have HT2 := Lib.hid (HT.out.below hb2)
   clear hb2
   generalize checkL (parts (ofList r)) = c at *
   by_cases hc0 : c = 0
   ·subst hc0
    have HF := Lib.hid (HS0.out rfl)
    go_wp2_with fail
    go_ret2
    exact ⟨_, by rw [HF.out]; rfl, by rw [HF.out]; exact HT2.out, HB2.out⟩
   ·have ht1 : (c != 0) = true := bne_iff_ne.2 hc0
    have HF := Lib.hid (HS1.out hc0)
    clear hc0
    go_wp2_with fail
    go_ret2
    exact ⟨_, by rw [HF.out]; rfl, by rw [HF.out]; exact Texts.nil _ _, HB2.out⟩
  ·have hp' : ∀ r, p.data.toList ≠ 47 :: r := fun r h => hp ⟨r, h⟩
   have e1 : Lib.hasPrefix p.data.toList (⟨#[47]⟩ : ByteArray).data.toList = false := by
    cases hl : p.data.toList with
    | nil => rfl
    | cons x xs =>
     have : ¬ x = 47 := fun e => hp' xs (by rw [hl, e])
     simp [Lib.hasPrefix, List.isPrefixOf]
     exact fun e => this e.symm
   have HF := Lib.hid (show PSplitPost p w (.returned (.tuple #[.slice none 0 0, .int .i64 45])) w from ⟨_, by rw [splitN_none hr0 hp'], by rw [splitN_none hr0 hp']; exact Texts.nil _ _, Below.refl _ _⟩)
   have E1 := Lib.hid e1
   clear e1 hp hp'
   go_enter Tryz.func18, Tryz.ntmps18
   go_wp2_with fail
   refine hC.out.mono ?_
   rintro e w' ⟨rfl, rfl⟩
   rw [E1.out]
   go_wp2_with fail
   go_ret2
   exact HF.out
end Go.Proofs.YtpkhglfhpggceaaGreatDoor
