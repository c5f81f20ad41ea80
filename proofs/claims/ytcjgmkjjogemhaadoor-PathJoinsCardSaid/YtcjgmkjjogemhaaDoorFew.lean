/- few: names of their own, so many at most. -/
import Derived.Test.YtcjgmkjjogemhaaDoorTexts
import Derived.Test.YtcjgmkjjogemhaaDoorSplit
import Derived.Deep.RegionHeld3
import Derived.Deep.AppendLies
import Derived.Deep.DrawnRows
import Derived.Deep.OwnRows
namespace Go.Proofs.YtcjgmkjjogemhaaDoor
open Go.RowKit
attribute [local go_sem ↓] Go.wp_at_zero Go.wp_at_succ

def brief (u : ByteArray) : ByteArray := u.extract 0 (min (u.size : Int) 40).toNat
def fewL (l : List ByteArray) : List ByteArray := (l.take 30).map brief
theorem brief_size (u : ByteArray) : (brief u).size ≤ 40 := by
  unfold brief; rw [ByteArray.size_extract]; omega
theorem fewL_len (l : List ByteArray) : (fewL l).length ≤ 30 := by unfold fewL; simp; omega
theorem fewL_size {l : List ByteArray} {u : ByteArray} (h : u ∈ fewL l) : u.size ≤ 40 := by
  unfold fewL at h
  obtain ⟨v, _, rfl⟩ := List.mem_map.1 h
  exact brief_size v
theorem few_on {l : List ByteArray} {k : Nat} {u : ByteArray} (h : l[k]? = some u) : (l.take (k + 1)).map brief = (l.take k).map brief ++ [brief u] := by
  rw [List.take_add_one, h, List.map_append]; rfl

/-- A list of texts that the call itself has built. -/
def Built (B : Nat) (w : World) (v : Value) (l : List ByteArray) : Prop := w.ownsRow B 9 1 v l.length (l.map Value.string)
theorem Built.texts {B : Nat} {w : World} {v : Value} {l : List ByteArray} (h : Built B w v l) : Texts B w v l := Texts.of_own h

set_option maxHeartbeats 400000 in
theorem few_any (v : Value) (l : List ByteArray) (w : World) {B : Nat} (hv : Texts B w v l) (hs : ∀ u ∈ l, u.size ≤ 9223372036854775807) :
    Calls Tryd.prog 14 #[v] w fun e w' => ∃ r, e = .returned r ∧ Built w.heap.size w' r (fewL l) ∧ Below w.heap.size w w' := by
  obtain ⟨i0, hi0, hz0, hz1, hz2⟩ := info_parts info9
  obtain ⟨A, c, rfl, hlc, hcm, hA⟩ := hv
  have HA := Lib.hid hA
  have HS := Lib.hid hs
  clear hA hs
  unfold maxLen at hcm
  go_enter Tryd.func14, Tryd.ntmps14
  go_wp2
  go_loopw [3, 4] (fun v i wr => ∃ k : Nat, i = .int .i64 k ∧ k ≤ l.length ∧ k ≤ 30 ∧ Built w.heap.size wr v ((l.take k).map brief) ∧ Below w.heap.size w wr) (fun _ i _ => 30 - (intOf i).toNat)
  case atStart => exact ⟨0, rfl, by omega, by omega, World.ownsRow_made w #[] 0 (Nat.le_refl _) (Nat.zero_le _) rfl, (Below.refl _ _).alloc (Nat.le_refl _) _⟩
  case round =>
    obtain ⟨k, rfl, hkl, hk, hown, hbel⟩ := hrel
    have hsz := hbel.size
    by_cases hlt : k < l.length ∧ k < 30
    · obtain ⟨hlt, h30⟩ := hlt
      obtain ⟨u, hu⟩ : ∃ u, l[k]? = some u := ⟨_, List.getElem?_eq_getElem hlt⟩
      obtain ⟨g, o, eA, _, hg, hc⟩ := HA.out k u hu
      subst eA
      have hc1 := (hbel.cell (p := ⟨g, o + k, none⟩) hg).trans hc
      have hus := HS.out u (List.mem_of_getElem? hu)
      have hmin : (0 : Int) ≤ min (u.size : Int) 40 := by omega
      have hmin2 : min (u.size : Int) 40 ≤ (u.size : Int) := by omega
      have HN := Lib.hid (few_on hu)
      have HC := Lib.hid hc
      have HO := Lib.hid hown
      have HB := Lib.hid hbel
      have HG := Lib.hid hg
      have hlk : ((l.take k).map brief).length = k := by simp; omega
      have HK := Lib.hid hlk
      clear hown hbel hu hc
      go_wp2
      go_region_held3 (fun w' => w'.cell? ⟨g, o + k, none⟩ = some (.string u)) (first | go_keep | exact (hbel1.cell (p := ⟨g, o + k, none⟩) HG.out).trans HC.out)
        (first | ((refine step_append_lies _ (by rfl) (.tmp 16) (.tmp 28) 22 (by rfl) w.heap.size 9 i0 (.string ByteArray.empty) 1 16 Tryd.underlying22 hi0 hz0 hz1 hz2 rfl (by decide) _ _ _ (by rfl) (HO.out.alloc _) ⟨wr.heap.size, 0, none⟩ 1 1 [.string (brief u)] (by rfl) rfl (one_new _ _ _) (by simp [Value.oneCell']) (by omega) (by simp only [maxLen]; omega) (by omega) (by simp; omega) (wr.heap.size + 1) (by simp) ?_); intro g1 cap1 w1 hown1 hgrow1 hat1 hlt1; have hbel1 : Below w.heap.size w w1 := (HB.out.drew.alloc HB.out.size _).grown hgrow1 (by simp; omega) (fun j hj => (HO.out.lt j hj).1)))
      have HR := Lib.hid (show Built w.heap.size w1 (.slice (some ⟨g1, 0, none⟩) (k + 1) cap1) ((l.take (k + 1)).map brief) from by
        unfold Built
        rw [HN.out, List.map_append, List.length_append, HK.out]
        have h1 := hown1
        rw [HK.out] at h1
        exact h1)
      have HB1 := Lib.hid hbel1
      clear hgrow1 hown1 hbel1 hc1 hat1 hlt1
      go_wp2
      go_roundw
      case rel => exact ⟨k + 1, by go_num, by omega, by omega, HR.out, HB1.out⟩
      case measure => simp [intOf]; omega
    · have HE := Lib.hid (show (l.take k).map brief = fewL l from by
        unfold fewL
        by_cases h30 : k = 30
        · rw [h30]
        · rw [List.take_of_length_le (show l.length ≤ k by omega), List.take_of_length_le (show l.length ≤ 30 by omega)])
      have HO := Lib.hid hown
      have HB := Lib.hid hbel
      clear hown hbel
      by_cases h1 : k < l.length
      · have h30 : ¬ k < 30 := fun e => hlt ⟨h1, e⟩
        clear hlt
        go_wp2
        go_ret
        exact ⟨_, rfl, by rw [← HE.out]; exact HO.out, HB.out⟩
      · clear hlt
        go_wp2
        go_ret
        exact ⟨_, rfl, by rw [← HE.out]; exact HO.out, HB.out⟩

theorem brief_brief (u : ByteArray) : brief (brief u) = brief u := by
  have hs := brief_size u
  generalize brief u = v at *
  unfold brief
  rw [show (min (v.size : Int) 40).toNat = v.size by omega]
  exact ByteArray.extract_zero_size
theorem few_few (l : List ByteArray) : fewL (fewL l) = fewL l := by
  have h1 : (fewL l).map brief = fewL l := by
    unfold fewL
    rw [List.map_map]
    exact List.map_congr_left fun u _ => brief_brief u
  have h2 : (fewL l).take 30 = fewL l := List.take_of_length_le (fewL_len l)
  calc fewL (fewL l) = ((fewL l).take 30).map brief := rfl
    _ = fewL l := by rw [h2, h1]

/-- few, from a slice that came of few. -/
theorem few_again (v : Value) (l : List ByteArray) (w : World) {B : Nat} (hv : Texts B w v (fewL l)) :
    Calls Tryd.prog 14 #[v] w fun e w' => ∃ r, e = .returned r ∧ Built w.heap.size w' r (fewL l) ∧ Below w.heap.size w w' := by
  have h := few_any v (fewL l) w hv (fun u hu => by have := fewL_size hu; omega)
  rwa [few_few] at h
end Go.Proofs.YtcjgmkjjogemhaaDoor
