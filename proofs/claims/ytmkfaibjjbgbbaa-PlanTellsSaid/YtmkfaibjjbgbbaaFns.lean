/- Among, Bytes, Ints of package scupperbase, whatever slice is handed. -/
import Derived.Test.YtmkfaibjjbgbbaaRight
import Derived.Laws.AppendOwnNone
namespace Go.Proofs.Ytmkfaibjjbgbbaa
open Go.RowKit
set_option linter.unusedVariables false

def amongF (x n : Int) : Int := if n < 1 then 0 else (x % 18446744073709551616) % n
theorem among_lem (x n : Int) (h1 : 1 ≤ n) (h2 : n ≤ 1000000) : wrap64 ((IntKind.u64.wrap x).tmod n) = amongF x n := by
  have hx : 0 ≤ IntKind.u64.wrap x := by simp [IntKind.wrap, IntKind.bits, IntKind.signed]; omega
  have e : IntKind.u64.wrap x = x % 18446744073709551616 := by simp [IntKind.wrap, IntKind.bits, IntKind.signed]
  have hm : (IntKind.u64.wrap x).tmod n = (x % 18446744073709551616) % n := by
    rw [Int.tmod_eq_emod_of_nonneg hx, e]
  unfold amongF
  rw [hm, if_neg (by omega)]
  have b1 := Int.emod_nonneg (x % 18446744073709551616) (show n ≠ 0 by omega)
  have b2 := Int.emod_lt_of_pos (x % 18446744073709551616) (show 0 < n by omega)
  generalize (x % 18446744073709551616) % n = y at *
  exact IntWalk.wrap64_in y ⟨by omega, by omega⟩
theorem wrap_u64_small (n : Int) (h1 : 1 ≤ n) (h2 : n ≤ 1000000) : IntKind.u64.wrap n = n := by
  simp [IntKind.wrap, IntKind.bits, IntKind.signed]; omega
theorem add_block (a : Addr) (i : Nat) : (a.add i).block = a.block := by unfold Addr.add; split <;> rfl
theorem among_any (x n : Int) (w : World) (h1 : 1 ≤ n) (h2 : n ≤ 1000000) : Calls Try.prog 12 #[.int .i64 x, .int .i64 n] w fun e w' => e = .returned (.int .i64 (amongF x n)) ∧ w' = w := by
  have HA := Lib.hid (among_lem x n h1 h2)
  have hw := wrap_u64_small n h1 h2
  have hn0 : ¬ n = 0 := by omega
  go_enter Try.func12, Try.ntmps12
  go_wp2
  go_ret
  exact ⟨ret_int HA.out, rfl⟩
theorem among_bd (x n : Int) (h1 : 1 ≤ n) : 0 ≤ amongF x n ∧ amongF x n < n := by
  unfold amongF
  rw [if_neg (by omega)]
  exact ⟨Int.emod_nonneg _ (by omega), Int.emod_lt_of_pos _ (by omega)⟩

/-- A slice that can be read as xs, wherever it lies. -/
def Row (w : World) (v : Value) (xs : List Value) : Prop :=
  ∃ A c, v = .slice A xs.length c ∧ xs.length ≤ c ∧ c ≤ maxLen ∧ (A = none → c = 0) ∧ ∀ ad, A = some ad → ∀ i u, xs[i]? = some u → ad.block < w.heap.size ∧ w.cell? (ad.add i) = some u
theorem Row.below {w w' : World} {v : Value} {xs : List Value} (h : Row w v xs) (hb : Below w.heap.size w w') : Row w' v xs := by
  obtain ⟨A, c, e, h1, h2, h0, h3⟩ := h
  exact ⟨A, c, e, h1, h2, h0, fun ad hA i u hu => ⟨Nat.lt_of_lt_of_le (h3 ad hA i u hu).1 hb.size, (hb.cell (p := ad.add i) (by rw [add_block]; exact (h3 ad hA i u hu).1)).trans (h3 ad hA i u hu).2⟩⟩
theorem Row.of_arr {w : World} {e : TypeId} {v : Value} {xs : List Value} (h : Arr w e v xs) : Row w v xs := by
  rcases h with ⟨rfl, rfl⟩ | ⟨g, o, c, cs, rfl, h2, h3, h4, h5⟩
  · exact ⟨none, 0, rfl, Nat.le_refl _, Nat.zero_le _, fun _ => rfl, fun ad h => by cases h⟩
  · exact ⟨_, c, rfl, h2, h3, (fun h => by cases h), fun ad hA i u hu => by
      cases hA
      have e1 : (⟨g, o, none⟩ : Addr).add i = ⟨g, o + i, none⟩ := by unfold Addr.add; split <;> simp_all
      rw [e1]
      exact ⟨h4.lt, (h4.cell (o + i)).trans (h5 i u hu)⟩⟩

theorem ints_copy (v : Value) (xs : List Value) (w : World) (h : Row w v xs) (h1 : ∀ u ∈ xs, u.oneCell' = true) (hl : xs.length ≤ 100000) :
    Calls Try.prog 33 #[v] w fun e w' => ∃ r, e = .returned r ∧ w'.ownsRow w.heap.size 3 1 r xs.length xs ∧ Below w.heap.size w w' := by
  obtain ⟨i0, hi0, hz0, hz1, hz2⟩ := info_parts info3
  obtain ⟨A, c, rfl, h2, h3, h0, h4⟩ := h
  rcases A with _ | ⟨g, o, sp⟩
  · obtain rfl := h0 rfl
    obtain rfl : xs = [] := List.eq_nil_of_length_eq_zero (by omega)
    clear h0 h2 h3 h4 h1
    go_enter Try.func33, Try.ntmps33
    go_wp2_with (at_builtin; refine wpList_append_own_none rfl (.tmp 3) (.tmp 4) 28 rfl w.heap.size 3 i0 1 Try.underlying28 hi0 _ _ _ rfl (World.ownsRow_made w #[] 0 (Nat.le_refl _) (Nat.zero_le _) rfl) rfl ?_)
    go_wp2
    go_ret
    exact ⟨_, rfl, World.ownsRow_made w #[] 0 (Nat.le_refl _) (Nat.zero_le _) rfl, (Below.refl _ _).alloc (Nat.le_refl _) _⟩
  · have hc := h4 _ rfl
    have HC := Lib.hid (show ∀ (j : Nat) (u : Value), xs[j]? = some u → (w.alloc (.cells #[] 3)).cell? ((⟨g, o, sp⟩ : Addr).add j) = some u from fun j u hu =>
      (((Below.refl w.heap.size w).alloc (Nat.le_refl _) _).cell (p := (⟨g, o, sp⟩ : Addr).add j) (by rw [add_block]; exact (hc j u hu).1)).trans (hc j u hu).2)
    have H1 := Lib.hid h1
    clear h1 hc h4 h0
    go_enter Try.func33, Try.ntmps33
    go_wp2_with (at_builtin; refine wpList_append_own _ rfl (.tmp 3) (.tmp 4) 28 rfl w.heap.size 3 i0 (.int .i64 0) 1 8 Try.underlying28 hi0 hz0 hz1 hz2 rfl (by decide) _ _ _ rfl (World.ownsRow_made w #[] 0 (Nat.le_refl _) (Nat.zero_le _) rfl) ⟨g, o, sp⟩ xs.length c xs rfl ?c0 ?c1 ?c2 ?c3 ?c4 ?c5 ?_)
    case c0 => simp
    case c1 => exact HC.out
    case c2 => exact H1.out
    case c3 => simp only [maxLen]; omega
    case c4 => omega
    case c5 => simp
    intro v' w1 hown hgrow _
    have HB := Lib.hid (((Below.refl w.heap.size w).alloc (Nat.le_refl _) _).grown hgrow (by simp) (fun j hj => by cases hj; exact Nat.le_refl _))
    have HA := Lib.hid (show w1.ownsRow w.heap.size 3 1 v' xs.length xs from by simpa using hown)
    clear hown hgrow
    go_wp2
    go_ret
    exact ⟨_, rfl, HA.out, HB.out⟩
theorem bytes_copy (v : Value) (xs : List Value) (w : World) (h : Row w v xs) (h1 : ∀ u ∈ xs, u.oneCell' = true) (hl : xs.length ≤ 100000) :
    Calls Try.prog 86 #[v] w fun e w' => ∃ r, e = .returned r ∧ w'.ownsRow w.heap.size 5 1 r xs.length xs ∧ Below w.heap.size w w' := by
  obtain ⟨i0, hi0, hz0, hz1, hz2⟩ := info_parts info5
  obtain ⟨A, c, rfl, h2, h3, h0, h4⟩ := h
  rcases A with _ | ⟨g, o, sp⟩
  · obtain rfl := h0 rfl
    obtain rfl : xs = [] := List.eq_nil_of_length_eq_zero (by omega)
    clear h0 h2 h3 h4 h1
    go_enter Try.func86, Try.ntmps86
    go_wp2_with (at_builtin; refine wpList_append_own_none rfl (.tmp 3) (.tmp 4) 27 rfl w.heap.size 5 i0 1 Try.underlying27 hi0 _ _ _ rfl (World.ownsRow_made w #[] 0 (Nat.le_refl _) (Nat.zero_le _) rfl) rfl ?_)
    go_wp2
    go_ret
    exact ⟨_, rfl, World.ownsRow_made w #[] 0 (Nat.le_refl _) (Nat.zero_le _) rfl, (Below.refl _ _).alloc (Nat.le_refl _) _⟩
  · have hc := h4 _ rfl
    have HC := Lib.hid (show ∀ (j : Nat) (u : Value), xs[j]? = some u → (w.alloc (.cells #[] 5)).cell? ((⟨g, o, sp⟩ : Addr).add j) = some u from fun j u hu =>
      (((Below.refl w.heap.size w).alloc (Nat.le_refl _) _).cell (p := (⟨g, o, sp⟩ : Addr).add j) (by rw [add_block]; exact (hc j u hu).1)).trans (hc j u hu).2)
    have H1 := Lib.hid h1
    clear h1 hc h4 h0
    go_enter Try.func86, Try.ntmps86
    go_wp2_with (at_builtin; refine wpList_append_own _ rfl (.tmp 3) (.tmp 4) 27 rfl w.heap.size 5 i0 (.int .u8 0) 1 1 Try.underlying27 hi0 hz0 hz1 hz2 rfl (by decide) _ _ _ rfl (World.ownsRow_made w #[] 0 (Nat.le_refl _) (Nat.zero_le _) rfl) ⟨g, o, sp⟩ xs.length c xs rfl ?c0 ?c1 ?c2 ?c3 ?c4 ?c5 ?_)
    case c0 => simp
    case c1 => exact HC.out
    case c2 => exact H1.out
    case c3 => simp only [maxLen]; omega
    case c4 => omega
    case c5 => simp
    intro v' w1 hown hgrow _
    have HB := Lib.hid (((Below.refl w.heap.size w).alloc (Nat.le_refl _) _).grown hgrow (by simp) (fun j hj => by cases hj; exact Nat.le_refl _))
    have HA := Lib.hid (show w1.ownsRow w.heap.size 5 1 v' xs.length xs from by simpa using hown)
    clear hown hgrow
    go_wp2
    go_ret
    exact ⟨_, rfl, HA.out, HB.out⟩
end Go.Proofs.Ytmkfaibjjbgbbaa
