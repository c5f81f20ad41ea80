/- What SameInts and Among of package scupperbase compute. -/
import Derived.Test.YtcjgmkjjogemhaaRows
import Derived.Test.YtcjgmkjjogemhaaBase
import Derived.Deep.QuietTactic
import Derived.BigQuiet
namespace Go.Proofs.Ytcjgmkjjogemhaa
open Go.RowKit

theorem ret_bool {a b : Bool} (h : a = b) : Ending.returned (.bool a) = .returned (.bool b) := by rw [h]
theorem ret_int {k : IntKind} {a b : Int} (h : a = b) : Ending.returned (.int k a) = .returned (.int k b) := by rw [h]
def amongF (x n : Int) : Int := if n < 1 then 0 else (x % 18446744073709551616) % n

set_option maxHeartbeats 400000 in
theorem sameInts_any (a b : Value) (l m : List Int) (w : World) {B C : Nat} (ha : Ints B w a l) (hb : Ints C w b m) :
    Calls Try.prog 21 #[a, b] w fun e w' => e = .returned (.bool (decide (l = m))) ∧ ∃ n, w' = w.drewN n := by
  obtain ⟨A, c, rfl, hlc, hcm, hA⟩ := ha
  obtain ⟨D, d, rfl, hld, hdm, hB⟩ := hb
  have HA := Lib.hid hA
  have HB := Lib.hid hB
  clear hA hB
  unfold maxLen at hcm hdm
  by_cases hlen : l.length = m.length
  · rw [← hlen]
    rw [← hlen] at hld
    have HL := Lib.hid hlen
    clear hlen
    go_enter Try.func21, Try.ntmps21
    go_wp2
    go_loopw [5] (fun i wr => ∃ k : Nat, k ≤ l.length ∧ i = .int .i64 k ∧ (∃ n, wr = w.drewN n) ∧ Hid (l.take k = m.take k)) (fun i _ => l.length - (intOf i).toNat)
    case atStart => exact ⟨0, Nat.zero_le _, rfl, ⟨0, rfl⟩, by unfold Hid; simp⟩
    case round =>
      obtain ⟨k, hk, rfl, ⟨n, rfl⟩, hT⟩ := hrel
      by_cases hlt : k < l.length
      · have hlt' : k < m.length := by rw [← HL.out]; exact hlt
        obtain ⟨g, o, eA, _, hg, hcA⟩ := HA.out k l[k] (List.getElem?_eq_getElem hlt)
        obtain ⟨g', o', eB, _, hg', hcB⟩ := HB.out k m[k] (List.getElem?_eq_getElem hlt')
        subst eA eB
        generalize hu : l[k] = u at hcA
        generalize hv : m[k] = v at hcB
        have HU := Lib.hid hu
        have HV := Lib.hid hv
        clear hu hv
        by_cases huv : u = v
        · subst huv
          have ht1 : (u != u) = false := by simp
          go_wp2
          go_quiet (fail)
          go_wp2
          go_roundw
          case rel => exact ⟨k + 1, by omega, by go_num, ⟨_, rfl⟩, by
            unfold Hid; rw [List.take_succ_eq_append_getElem hlt, List.take_succ_eq_append_getElem hlt', hT.out, HU.out, HV.out]⟩
          case measure => simp [intOf]; omega
        · have ht1 : (u != v) = true := by simp [huv]
          have HUV := Lib.hid huv
          clear huv
          go_wp2
          go_quiet (fail)
          go_wp2
          go_ret
          refine ⟨ret_bool ?_, _, World.drewN_drewN _ _ _⟩
          have : ¬ l = m := fun e => HUV.out (by subst e; rw [← HU.out, ← HV.out])
          simp [this]
      · obtain rfl : k = l.length := by omega
        go_wp2
        go_ret
        refine ⟨ret_bool ?_, _, rfl⟩
        have : l = m := by
          have h1 := hT.out
          have h2 : m.take l.length = m := List.take_of_length_le (by rw [HL.out]; exact Nat.le_refl _)
          rw [h2] at h1
          simpa using h1
        simp [this]
  · have h1 : ((l.length : Int) != (m.length : Int)) = true := by simp; omega
    have HL := Lib.hid hlen
    clear hlen
    go_enter Try.func21, Try.ntmps21
    go_wp2
    go_ret
    refine ⟨ret_bool ?_, 0, rfl⟩
    have : ¬ l = m := fun e => HL.out (by rw [e])
    simp [this]

theorem among_lem (x n : Int) (h1 : 1 ≤ n) (h2 : n ≤ 1000000) : wrap64 ((IntKind.u64.wrap x).tmod n) = amongF x n := by
  have hx : 0 ≤ IntKind.u64.wrap x := by simp [IntKind.wrap, IntKind.bits, IntKind.signed]; omega
  have e : IntKind.u64.wrap x = x % 18446744073709551616 := by simp [IntKind.wrap, IntKind.bits, IntKind.signed]
  have hm : (IntKind.u64.wrap x).tmod n = (x % 18446744073709551616) % n := by
    rw [Int.tmod_eq_emod_of_nonneg hx, e]
  unfold amongF
  rw [hm, if_neg (by omega)]
  have b1 := Int.emod_nonneg (x % 18446744073709551616) (show n ≠ 0 by omega)
  have b2 := Int.emod_lt_of_pos (x % 18446744073709551616) (show 0 < n by omega)
  generalize (x % 18446744073709551616) % n = y at *
  exact IntWalk.wrap64_in y ⟨by omega, by omega⟩
theorem wrap_u64_small (n : Int) (h1 : 1 ≤ n) (h2 : n ≤ 1000000) : IntKind.u64.wrap n = n := by
  simp [IntKind.wrap, IntKind.bits, IntKind.signed]; omega

theorem among_any (x n : Int) (w : World) (h1 : 1 ≤ n) (h2 : n ≤ 1000000) : Calls Try.prog 9 #[.int .i64 x, .int .i64 n] w fun e w' => e = .returned (.int .i64 (amongF x n)) ∧ w = w' := by
  have HA := Lib.hid (among_lem x n h1 h2)
  have hw := wrap_u64_small n h1 h2
  have hn0 : ¬ n = 0 := by omega
  go_enter Try.func9, Try.ntmps9
  go_wp2
  go_ret
  exact ⟨ret_int HA.out, rfl⟩
theorem among_bd (x n : Int) (h1 : 1 ≤ n) : 0 ≤ amongF x n ∧ amongF x n < n := by
  unfold amongF
  rw [if_neg (by omega)]
  exact ⟨Int.emod_nonneg _ (by omega), Int.emod_lt_of_pos _ (by omega)⟩
end Go.Proofs.Ytcjgmkjjogemhaa
