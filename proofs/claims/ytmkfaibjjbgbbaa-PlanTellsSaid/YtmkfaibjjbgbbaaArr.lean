/- Slices that nobody writes any more, in blocks of their element's type; slices.Clone, Sort, Contains. -/
import Derived.Test.YtmkfaibjjbgbbaaMap
import Derived.Test.YtmkfaibjjbgbbaaShelf
import Derived.Sort.OwnSortedInts
namespace Go.Proofs.Ytmkfaibjjbgbbaa
open Go.RowKit
set_option linter.unusedVariables false

/-- A slice that reads as xs, in a block of its element's type e. -/
def Arr (w : World) (e : TypeId) (v : Value) (xs : List Value) : Prop :=
  (v = .slice none 0 0 ∧ xs = []) ∨ ∃ g o c cs, v = .slice (some ⟨g, o, none⟩) xs.length c ∧ xs.length ≤ c ∧ c ≤ maxLen ∧ Blk w g e cs ∧ ∀ i u, xs[i]? = some u → cs[o + i]? = some u

section
variable {w w' : World} {e : TypeId} {v : Value} {xs : List Value}
theorem Arr.nil (w : World) (e : TypeId) : Arr w e (.slice none 0 0) [] := .inl ⟨rfl, rfl⟩
theorem Arr.move (h : Arr w e v xs) (hb : ∀ g cs, Blk w g e cs → Blk w' g e cs) : Arr w' e v xs := by
  rcases h with ⟨rfl, rfl⟩ | ⟨g, o, c, cs, h1, h2, h3, h4, h5⟩
  · exact .nil _ _
  · exact .inr ⟨g, o, c, cs, h1, h2, h3, hb g cs h4, h5⟩
theorem Arr.turn {S : Nat → Prop} (h : Arr w e v xs) (hb : Turn S w w') (hs : ∀ g cs, Blk w g e cs → ¬ S g) : Arr w' e v xs := h.move fun g cs k => k.turn hb (hs g cs k)
theorem Arr.below (h : Arr w e v xs) (hb : Below w.heap.size w w') : Arr w' e v xs := h.move fun g cs k => k.below hb k.lt
theorem Arr.drewN (h : Arr w e v xs) (n : Nat) : Arr (w.drewN n) e v xs := h
theorem Arr.drew (h : Arr w e v xs) : Arr w.drew e v xs := h
theorem Arr.alloc (h : Arr w e v xs) (o : Obj) : Arr (w.alloc o) e v xs := h.move fun g cs k => k.alloc o
theorem Arr.far {g : Nat} {t : TypeId} {cs : Array Value} (h : Arr w e v xs) (hg : Blk w g t cs) (ht : e ≠ t) (i : Nat) (u : Value) : Arr (w.setCell ⟨g, i, none⟩ u) e v xs :=
  h.move fun g' cs' k => k.far (p := ⟨g, i, none⟩) (k.ne_ hg ht) u
theorem Arr.of_own {base n : Nat} (h : w.ownsRow base e 1 v n xs) : Arr w e v xs := by
  have hn : xs.length = n := by simpa using h.1
  rcases h.2 with ⟨hv, h0⟩ | ⟨g, cap, cur, hv, hb, hg, hnc, hcm, hcs, ht⟩
  · obtain rfl : xs = [] := List.eq_nil_of_length_eq_zero (by omega)
    rw [hv]
    exact .nil _ _
  · refine .inr ⟨g, 0, cap, cur, by rw [hv, hn], by omega, hcm, hg, fun i u hu => ?_⟩
    have h1 : (cur.toList.take n)[i]? = some u := by rw [← hu, ← ht, Nat.mul_one]
    have hi : i < n := by
      rcases Nat.lt_or_ge i n with hlt | hge
      · exact hlt
      · rw [List.getElem?_eq_none (by omega)] at hu; cases hu
    rw [List.getElem?_take_of_lt hi] at h1
    rw [Nat.zero_add, ← Array.getElem?_toList]
    exact h1
theorem Arr.len (h : Arr w e v xs) : ∃ A c, v = .slice A xs.length c ∧ xs.length ≤ c ∧ c ≤ maxLen := by
  rcases h with ⟨rfl, rfl⟩ | ⟨g, o, c, cs, h1, h2, h3, _⟩
  · exact ⟨none, 0, rfl, Nat.le_refl _, Nat.zero_le _⟩
  · exact ⟨_, c, h1, h2, h3⟩
theorem Arr.news {ad : Addr} {m c : Nat} (h : Arr w e (.slice (some ad) m c) xs) (hb : Below w.heap.size w w') : ∀ (j : Nat) (u : Value), xs[j]? = some u → w'.cell? (ad.add j) = some u := by
  rcases h with ⟨h1, _⟩ | ⟨g, o, c', cs, h1, h2, h3, h4, h5⟩
  · cases h1
  · injection h1 with h1
    injection h1 with h1
    subst h1
    intro j u hu
    have e1 : (⟨g, o, none⟩ : Addr).add j = ⟨g, o + j, none⟩ := by unfold Addr.add; split <;> simp_all
    rw [e1]
    exact ((h4.below hb h4.lt).cell (o + j)).trans (h5 j u hu)
end

def ints (l : List Int) : List Value := l.map (Value.int .i64)
theorem ints_len (l : List Int) : (ints l).length = l.length := by simp [ints]
theorem ints_one {l : List Int} : ∀ u ∈ ints l, u.oneCell' = true := by
  intro u hu
  obtain ⟨x, _, rfl⟩ := List.mem_map.1 hu
  simp [Value.oneCell']
theorem ints_at {l : List Int} {i : Nat} {x : Int} (h : l[i]? = some x) : (ints l)[i]? = some (.int .i64 x) := by simp [ints, h]

/-- slices.Sort of a slice of the call's own. -/
theorem sort_own {base n : Nat} {v : Value} {zs : List Int} (w : World) (h : w.ownsRow base 3 1 v n (ints zs)) (hz : zs.length < 4611686018427387904) :
    Calls Try.prog 52 #[v] w fun e w' => e = .returned (.tuple #[]) ∧ w'.ownsRow base 3 1 v n (ints (zs.mergeSort fun x y => decide (x ≤ y))) ∧ w.grownBy w' v.ownBlock := by
  have hn : zs.length = n := by have := h.1; simpa [ints] using this
  rcases h.2 with ⟨hv, h0⟩ | ⟨g, cap, cur, hv, hb, hg, hnc, hcm, hcs, ht⟩
  · obtain rfl : zs = [] := List.eq_nil_of_length_eq_zero (by omega)
    subst hv
    refine (Try.slices_Sort_int_none none 0 w).mono ?_
    rintro e w' ⟨rfl, rfl⟩
    exact ⟨rfl, by simpa using h, ⟨rfl, rfl, rfl, Nat.le_refl _, fun _ _ _ => rfl⟩⟩
  · subst hv
    subst hn
    refine (Try.slices_Sort_int g 0 cap zs w (holds_of_blockI hg (by rw [Nat.mul_one] at ht; exact ht)) (Array.getElem?_eq_some_iff.1 hg).1 hz).mono ?_
    rintro e w' ⟨rfl, n, os, rfl⟩
    have := ownsRow_sortedI (w := w) (n := n) (os := os) (ss := zs) (ts := zs.mergeSort fun x y => decide (x ≤ y)) (List.length_mergeSort _) hb hg hnc hcm hcs
    exact ⟨rfl, this, grownBy_sortedI _⟩

theorem info3 : (Try.prog.info? 3).map (fun i => (i.zero, i.size, i.bytes)) = some (some (.int .i64 0), 1, 8) := by kernel_rfl
theorem info5 : (Try.prog.info? 5).map (fun i => (i.zero, i.size, i.bytes)) = some (some (.int .u8 0), 1, 1) := by kernel_rfl

/-- slices.Clone at []int, at []byte. -/
theorem clone_ints (v : Value) (xs : List Value) (w : World) (h : Arr w 3 v xs) (h1 : ∀ u ∈ xs, u.oneCell' = true) (hl : xs.length ≤ 100000) :
    Calls Try.prog 78 #[v] w fun e w' => ∃ r, e = .returned r ∧ Arr w' 3 r xs ∧ Below w.heap.size w w' := by
  obtain ⟨i0, hi0, hz0, hz1, hz2⟩ := info_parts info3
  have hn := fun (w : World) (a : Option Addr) (n c n' c' : Nat) => Lib.run_eql_slice_nil (P := Try.prog) w 28 3 a n c n' c' Try.underlying28
  have H := Lib.hid h
  rcases h with ⟨rfl, rfl⟩ | ⟨g, o, c, cs, rfl, h2, h3, h4, h5⟩
  · clear h1
    go_enter Try.func78, Try.ntmps78
    go_wp2
    go_ret
    exact ⟨_, rfl, .nil _ _, Below.refl _ _⟩
  · have H1 := Lib.hid h1
    clear h1 h4 h5
    go_enter Try.func78, Try.ntmps78
    go_wp2_with (at_builtin; refine wpList_append_own _ rfl (.tmp 5) (.tmp 6) 28 rfl w.heap.size 3 i0 (.int .i64 0) 1 8 Try.underlying28 hi0 hz0 hz1 hz2 rfl (by decide) _ _ _ rfl (World.ownsRow_made w #[] 0 (Nat.le_refl _) (Nat.zero_le _) rfl) ⟨g, o, none⟩ xs.length c xs rfl ?c0 ?c1 ?c2 ?c3 ?c4 ?c5 ?_)
    case c0 => simp
    case c1 => exact H.out.news ((Below.refl _ _).alloc (Nat.le_refl _) _)
    case c2 => exact H1.out
    case c3 => simp only [maxLen]; omega
    case c4 => omega
    case c5 => simp
    intro v' w1 hown hgrow _
    have hb : Below w.heap.size w w1 := ((Below.refl _ _).alloc (Nat.le_refl _) _).grown hgrow (by simp) (fun j hj => by cases hj; exact Nat.le_refl _)
    have HA := Lib.hid (Arr.of_own (by simpa using hown))
    have HB := Lib.hid hb
    clear hown hgrow hb
    go_wp2
    go_ret
    exact ⟨_, rfl, HA.out, HB.out⟩
theorem clone_bytes (v : Value) (xs : List Value) (w : World) (h : Arr w 5 v xs) (h1 : ∀ u ∈ xs, u.oneCell' = true) (hl : xs.length ≤ 100000) :
    Calls Try.prog 85 #[v] w fun e w' => ∃ r, e = .returned r ∧ Arr w' 5 r xs ∧ Below w.heap.size w w' := by
  obtain ⟨i0, hi0, hz0, hz1, hz2⟩ := info_parts info5
  have hn := fun (w : World) (a : Option Addr) (n c n' c' : Nat) => Lib.run_eql_slice_nil (P := Try.prog) w 27 5 a n c n' c' Try.underlying27
  have H := Lib.hid h
  rcases h with ⟨rfl, rfl⟩ | ⟨g, o, c, cs, rfl, h2, h3, h4, h5⟩
  · clear h1
    go_enter Try.func85, Try.ntmps85
    go_wp2
    go_ret
    exact ⟨_, rfl, .nil _ _, Below.refl _ _⟩
  · have H1 := Lib.hid h1
    clear h1 h4 h5
    go_enter Try.func85, Try.ntmps85
    go_wp2_with (at_builtin; refine wpList_append_own _ rfl (.tmp 5) (.tmp 6) 27 rfl w.heap.size 5 i0 (.int .u8 0) 1 1 Try.underlying27 hi0 hz0 hz1 hz2 rfl (by decide) _ _ _ rfl (World.ownsRow_made w #[] 0 (Nat.le_refl _) (Nat.zero_le _) rfl) ⟨g, o, none⟩ xs.length c xs rfl ?c0 ?c1 ?c2 ?c3 ?c4 ?c5 ?_)
    case c0 => simp
    case c1 => exact H.out.news ((Below.refl _ _).alloc (Nat.le_refl _) _)
    case c2 => exact H1.out
    case c3 => simp only [maxLen]; omega
    case c4 => omega
    case c5 => simp
    intro v' w1 hown hgrow _
    have hb : Below w.heap.size w w1 := ((Below.refl _ _).alloc (Nat.le_refl _) _).grown hgrow (by simp) (fun j hj => by cases hj; exact Nat.le_refl _)
    have HA := Lib.hid (Arr.of_own (by simpa using hown))
    have HB := Lib.hid hb
    clear hown hgrow hb
    go_wp2
    go_ret
    exact ⟨_, rfl, HA.out, HB.out⟩
end Go.Proofs.Ytmkfaibjjbgbbaa
