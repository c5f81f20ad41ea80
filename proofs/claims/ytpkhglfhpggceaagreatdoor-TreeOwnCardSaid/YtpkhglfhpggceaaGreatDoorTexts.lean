/- Slices of texts: SameTexts, check, slices.Equal, and the reference's Split of package scupperbase. -/
import Derived.Test.YtpkhglfhpggceaaGreatDoorCheck
import Derived.Test.YtpkhglfhpggceaaGreatDoorShelf
import Derived.Deep.QuietTactic
import Derived.BigQuiet
namespace Go.Proofs.YtpkhglfhpggceaaGreatDoor
set_option maxRecDepth 100000
set_option maxHeartbeats 16000000
open Go.RowKit

/-- A slice of texts that reads as a list, in a block from B on. -/
def Texts (B : Nat) (w : World) (v : Value) (l : List ByteArray) : Prop :=
 ∃ (A : Option Addr) (c : Nat), v = .slice A l.length c ∧ l.length ≤ c ∧ c ≤ maxLen ∧
  ∀ (i : Nat) (u : ByteArray), l[i]? = some u → ∃ g o, A = some ⟨g, o, none⟩ ∧ B ≤ g ∧ g < w.heap.size ∧ w.cell? ⟨g, o + i, none⟩ = some (.string u)

theorem Texts.nil (B : Nat) (w : World) : Texts B w (.slice none 0 0) [] := ⟨none, 0, rfl, Nat.le_refl _, Nat.zero_le _, fun i u h => by simp at h⟩
theorem Texts.turn {B : Nat} {S : Nat → Prop} {w w' : World} {v : Value} {l : List ByteArray} (h : Texts B w v l) (hb : Turn S w w') (hs : ∀ k, B ≤ k → ¬ S k) : Texts B w' v l := by
 obtain ⟨A, c, e, hl, hm, hc⟩ := h
 refine ⟨A, c, e, hl, hm, fun i u hu => ?_⟩
 obtain ⟨g, o, eA, hB, hg, hv⟩ := hc i u hu
 exact ⟨g, o, eA, hB, Nat.lt_of_lt_of_le hg hb.size, (World.cell?_of_block (a := ⟨g, o + i, none⟩) (hb.block g hg (hs g hB))).trans hv⟩
theorem Texts.below {B : Nat} {w w' : World} {v : Value} {l : List ByteArray} (h : Texts B w v l) (hb : Below w.heap.size w w') : Texts B w' v l :=
 h.turn (S := fun _ => False) (Turn.of_below hb) fun _ _ => id
theorem Texts.mono {B B' : Nat} {w : World} {v : Value} {l : List ByteArray} (h : Texts B w v l) (hB : B' ≤ B) : Texts B' w v l := by
 obtain ⟨A, c, e, hl, hm, hc⟩ := h
 refine ⟨A, c, e, hl, hm, fun i u hu => ?_⟩
 obtain ⟨g, o, eA, hg⟩ := hc i u hu
 exact ⟨g, o, eA, Nat.le_trans hB hg.1, hg.2⟩
theorem Texts.drewN {B : Nat} {w : World} {v : Value} {l : List ByteArray} (h : Texts B w v l) (n : Nat) : Texts B (w.drewN n) v l := h
theorem Texts.of_own {w : World} {base : Nat} {e : TypeId} {v : Value} {l : List ByteArray} {n : Nat} (h : w.ownsRow base e 1 v n (l.map Value.string)) : Texts base w v l := by
 have hn : l.length = n := by simpa using h.1
 rcases h.2 with ⟨hv, h0⟩ | ⟨g, cap, cur, hv, hb, hg, hnc, hcm, hcs, ht⟩
 ·obtain rfl : l = [] := List.eq_nil_of_length_eq_zero (by omega)
  rw [hv]
  exact Texts.nil base w
 ·refine ⟨some ⟨g, 0, none⟩, cap, by rw [hv, hn], by omega, hcm, fun i u hu => ⟨g, 0, rfl, hb, (Array.getElem?_eq_some_iff.1 hg).1, ?_⟩⟩
  have := h.cells (g := g) (by rw [hv]; rfl) i (.string u) (by simp [hu])
  have e1 : (⟨g, 0, none⟩ : Addr).add i = ⟨g, 0 + i, none⟩ := by unfold Addr.add; split <;> simp_all
  rw [← e1]; exact this

theorem toList_inj {a b : ByteArray} : a.toList = b.toList ↔ a = b := by
 rw [ByteArray.toList_eq, ByteArray.toList_eq]
 constructor
 ·intro h
  cases a; cases b
  simp at h
  rw [h]
 ·intro h; rw [h]

theorem checkL_bad {l : List ByteArray} {k : Nat} {u : ByteArray} (h : l[k]? = some u) (hb : nameOk u = false) : checkL l = 45 := by
 unfold checkL
 rw [if_neg]
 intro hall
 rw [List.all_eq_true] at hall
 rw [hall u (List.mem_of_getElem? h)] at hb
 cases hb
theorem checkN_cases (u : ByteArray) : (nameOk u = true ∧ checkN u = 0) ∨ (nameOk u = false ∧ checkN u = 45) := by
 cases h : nameOk u
 ·exact .inr ⟨rfl, checkN_bad h⟩
 ·exact .inl ⟨rfl, checkN_ok h⟩
theorem take_ok {l : List ByteArray} {k : Nat} {u : ByteArray} (h : l[k]? = some u) (h0 : (l.take k).all nameOk = true) (hb : nameOk u = true) : (l.take (k + 1)).all nameOk = true := by
 rw [List.take_add_one, h, List.all_append, h0]
 simpa using hb

/-- What stands at the label. -/
def AtWrong (v : Value) (e : Int) (w : World) (a : Act) (w' : World) : Prop :=
 Below w.heap.size w w' ∧ ∃ u4 u5 u6 u7 u8 u9 u10 u11 u12 u13 u14 u15 u16 u17 u18 u19 u20 : Value,
  a = { tmps := #[v, undef, .int .i64 0, .int .i64 e, u4, u5, u6, u7, u8, u9, u10, u11, u12, u13, u14, u15, u16, u17, u18, u19, u20], defers := [] }

theorem pcheck_any (v : Value) (l : List ByteArray) (w : World) {B : Nat} (hv : Texts B w v l) (hs : ∀ u ∈ l, u.size ≤ 9223372036854775807) :
  Calls Tryz.prog 45 #[v] w fun e w' => e = .returned (.int .i64 (checkL l)) ∧ Below w.heap.size w w' := by
 obtain ⟨A, c, rfl, hlc, hcm, hA⟩ := hv
 have HA := Lib.hid hA
 have HS := Lib.hid hs
 clear hA hs
 unfold maxLen at hcm
 go_enter Tryz.func45, Tryz.ntmps45
 go_wp2
 refine wp_scope_jumps 0 (AtWrong (.slice A l.length c) (checkL l) w) (fun _ _ => 0) rfl ?_ ?_
 ·go_wp2
  go_loopw [3, 8] (fun e i wr => ∃ k : Nat, k ≤ l.length ∧ i = .int .i64 k ∧ e = .int .i64 0 ∧ Below w.heap.size w wr ∧ Hid ((l.take k).all nameOk = true)) (fun _ i _ => l.length - (intOf i).toNat)
  case atStart => exact ⟨0, Nat.zero_le _, rfl, rfl, Below.refl _ _, by unfold Hid; simp⟩
  case round =>
   obtain ⟨k, hk, rfl, rfl, hbel, hT⟩ := hrel
   by_cases hlt : k < l.length
   ·obtain ⟨u, hu⟩ : ∃ u, l[k]? = some u := ⟨_, List.getElem?_eq_getElem hlt⟩
    obtain ⟨g, o, eA, _, hg, hc⟩ := HA.out k u hu
    subst eA
    have hc1 := (hbel.cell (p := ⟨g, o + k, none⟩) hg).trans hc
    have HB := Lib.hid hbel
    have hC := Lib.hid fun W => check_any u W (HS.out u (List.mem_of_getElem? hu))
    have HU := Lib.hid hu
    clear hbel hu hc
    rcases checkN_cases u with ⟨hn, he⟩ | ⟨hn, he⟩
    ·have HN := Lib.hid hn
     have HE := Lib.hid he
     clear hn he
     go_wp2_with fail
     refine (hC.out _).mono ?_
     rintro e w1 ⟨rfl, hb1⟩
     rw [HE.out]
     have HB1 := Lib.hid (HB.out.trans (hb1.mono HB.out.size))
     clear hb1
     go_wp2
     go_roundw
     case rel => exact ⟨k + 1, by omega, by go_num, rfl, HB1.out, take_ok HU.out hT.out HN.out⟩
     case measure => simp [intOf]; omega
    ·have HN := Lib.hid (checkL_bad HU.out hn)
     have HE := Lib.hid he
     clear hn he
     go_wp2_with fail
     refine (hC.out _).mono ?_
     rintro e w1 ⟨rfl, hb1⟩
     rw [HE.out]
     have HB1 := Lib.hid (HB.out.trans (hb1.mono HB.out.size))
     clear hb1
     go_wp2
     go_step3
     show (0 = 0 ∧ AtWrong (.slice (some ⟨g, o, none⟩) l.length c) (checkL l) w _ _)
     exact ⟨rfl, HB1.out, _, _, _, _, _, _, _, _, _, _, _, _, _, _, _, _, _, by rw [HN.out]⟩
   ·obtain rfl : k = l.length := by omega
    have hall : l.all nameOk = true := by have h := hT.out; rwa [List.take_length] at h
    have HB := Lib.hid hbel
    clear hbel
    by_cases h16 : 16 < l.length
    ·have HN := Lib.hid (show checkL l = 3 by simp [checkL, hall, h16])
     clear hall
     go_wp2
     go_step3
     go_wp2
     simp only [Exit.jump]
     go_ret
     exact ⟨ret_int HN.out.symm, HB.out⟩
    ·have HN := Lib.hid (show checkL l = 0 by simp [checkL, hall]; omega)
     clear hall
     go_wp2
     go_step3
     go_wp2
     simp only [Exit.jump]
     go_ret
     exact ⟨ret_int HN.out.symm, HB.out⟩
 ·rintro a' w' ⟨hb, u4, u5, u6, u7, u8, u9, u10, u11, u12, u13, u14, u15, u16, u17, u18, u19, u20, rfl⟩
  have HB := Lib.hid hb
  clear hb
  go_wp2
  simp only [Exit.jump]
  go_ret
  exact ⟨rfl, HB.out⟩
end Go.Proofs.YtpkhglfhpggceaaGreatDoor
