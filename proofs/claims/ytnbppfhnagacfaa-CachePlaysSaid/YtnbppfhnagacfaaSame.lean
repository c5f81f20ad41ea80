/- SameInts of package scupperbase. -/
import Derived.Test.YtnbppfhnagacfaaPut
namespace Go.Proofs.Ytnbppfhnagacfaa
open Go.RowKit
set_option linter.unusedVariables false

theorem ret_bool {a b : Bool} (h : a = b) : Ending.returned (.bool a) = .returned (.bool b) := by rw [h]
theorem IRow.at_ {w : World} {A : Option Addr} {n c : Nat} {l : List Int} (h : IRow w (.slice A n c) l) : ∀ (k : Nat) (y : Int), l[k]? = some y → ∃ gb o cs, A = some ⟨gb, o, none⟩ ∧ Blk w gb 3 cs ∧ cs[o + k]? = some (.int .i64 y) := fun k y hy => by
  rcases h.shape with ⟨_, e⟩ | ⟨g, c', cur, e1, _, _, hb, _, ht⟩
  · rw [e] at hy; cases hy
  · injection e1 with e1
    have hk : k < l.length := (List.getElem?_eq_some_iff.1 hy).1
    refine ⟨g, 0, cur, e1, hb, ?_⟩
    rw [Nat.zero_add, take_get ht hk, List.getD_eq_getElem?_getD, hy]
    rfl
theorem IRow.len_ {w : World} {v : Value} {l : List Int} (h : IRow w v l) : ∃ A c, v = .slice A l.length c ∧ l.length ≤ c ∧ c ≤ maxLen := by
  rcases h.shape with ⟨e, e2⟩ | ⟨g, c', cur, e, h1, h2, -⟩
  · subst e2; exact ⟨_, _, e, Nat.le_refl _, Nat.zero_le _⟩
  · exact ⟨_, _, e, h1, h2⟩

set_option maxHeartbeats 400000 in
theorem sameInts_any (a b : Value) (l m : List Int) (w : World) (ha : IRow w a l) (hb : IRow w b m) :
    Calls Try.prog 27 #[a, b] w fun e w' => e = .returned (.bool (decide (l = m))) ∧ ∃ n, w' = w.drewN n := by
  obtain ⟨A, c, rfl, hlc, hcm⟩ := ha.len_
  obtain ⟨D, d, rfl, hld, hdm⟩ := hb.len_
  have HA := Lib.hid ha.at_
  have HB := Lib.hid hb.at_
  clear ha hb
  unfold maxLen at hcm hdm
  by_cases hlen : l.length = m.length
  · rw [← hlen]
    rw [← hlen] at hld
    have HL := Lib.hid hlen
    clear hlen
    go_enter Try.func27, Try.ntmps27
    go_wp2
    go_loopw [5] (fun i wr => ∃ k : Nat, k ≤ l.length ∧ i = .int .i64 k ∧ (∃ n, wr = w.drewN n) ∧ Hid (l.take k = m.take k)) (fun i _ => l.length - (intOf i).toNat)
    case atStart => exact ⟨0, Nat.zero_le _, rfl, ⟨0, rfl⟩, by unfold Hid; simp⟩
    case round =>
      obtain ⟨k, hk, rfl, ⟨n, rfl⟩, hT⟩ := hrel
      by_cases hlt : k < l.length
      · have hlt' : k < m.length := by rw [← HL.out]; exact hlt
        obtain ⟨g, o, cs, eA, hbk, hcs⟩ := HA.out k l[k] (List.getElem?_eq_getElem hlt)
        obtain ⟨g', o', cs', eB, hbk', hcs'⟩ := HB.out k m[k] (List.getElem?_eq_getElem hlt')
        subst eA eB
        have hcA : w.cell? ⟨g, o + k, none⟩ = _ := (hbk.cell (o + k)).trans hcs
        have hcB : w.cell? ⟨g', o' + k, none⟩ = _ := (hbk'.cell (o' + k)).trans hcs'
        clear hbk hcs hbk' hcs'
        generalize hu : l[k] = u at hcA
        generalize hv : m[k] = v at hcB
        have HU := Lib.hid hu
        have HV := Lib.hid hv
        clear hu hv
        by_cases huv : u = v
        · subst huv
          have ht1 : (u != u) = false := by simp
          go_wp2
          go_quiet (fail)
          go_wp2
          go_roundw
          case rel => exact ⟨k + 1, by omega, by go_num, ⟨_, rfl⟩, by
            unfold Hid; rw [List.take_succ_eq_append_getElem hlt, List.take_succ_eq_append_getElem hlt', hT.out, HU.out, HV.out]⟩
          case measure => simp [intOf]; omega
        · have ht1 : (u != v) = true := bne_iff_ne.2 huv
          have HUV := Lib.hid huv
          clear huv
          go_wp2
          go_quiet (fail)
          go_wp2
          go_ret
          refine ⟨ret_bool ?_, _, World.drewN_drewN _ _ _⟩
          have : ¬ l = m := fun e => HUV.out (by subst e; rw [← HU.out, ← HV.out])
          simp [this]
      · obtain rfl : k = l.length := by omega
        go_wp2
        go_ret
        refine ⟨ret_bool ?_, _, rfl⟩
        have : l = m := by
          have h1 := hT.out
          have h2 : m.take l.length = m := List.take_of_length_le (by rw [HL.out]; exact Nat.le_refl _)
          rw [h2] at h1
          simpa using h1
        simp [this]
  · have h1 : ((l.length : Int) != (m.length : Int)) = true := by simp; omega
    have HL := Lib.hid hlen
    clear hlen
    go_enter Try.func27, Try.ntmps27
    go_wp2
    go_ret
    refine ⟨ret_bool ?_, 0, rfl⟩
    have : ¬ l = m := fun e => HL.out (by rw [e])
    simp [this]
end Go.Proofs.Ytnbppfhnagacfaa
