/- package cache: Changed; package scupperbase: Among. -/
import Derived.Test.YtnbppfhnagacfaaPins
namespace Go.Proofs.Ytnbppfhnagacfaa
open Go.RowKit
set_option linter.unusedVariables false
attribute [local go_sem ↓] Go.wp_at_zero Go.wp_at_succ

def amongF (x n : Int) : Int := if n < 1 then 0 else (x % 18446744073709551616) % n
theorem among_lem (x n : Int) (h1 : 1 ≤ n) (h2 : n ≤ 1000000) : wrap64 ((IntKind.u64.wrap x).tmod n) = amongF x n := by
  have hx : 0 ≤ IntKind.u64.wrap x := by simp [IntKind.wrap, IntKind.bits, IntKind.signed]; omega
  have e : IntKind.u64.wrap x = x % 18446744073709551616 := by simp [IntKind.wrap, IntKind.bits, IntKind.signed]
  have hm : (IntKind.u64.wrap x).tmod n = (x % 18446744073709551616) % n := by
    rw [Int.tmod_eq_emod_of_nonneg hx, e]
  unfold amongF
  rw [hm, if_neg (by omega)]
  have b1 := Int.emod_nonneg (x % 18446744073709551616) (show n ≠ 0 by omega)
  have b2 := Int.emod_lt_of_pos (x % 18446744073709551616) (show 0 < n by omega)
  generalize (x % 18446744073709551616) % n = y at *
  exact IntWalk.wrap64_in y ⟨by omega, by omega⟩
theorem wrap_u64_small (n : Int) (h1 : 1 ≤ n) (h2 : n ≤ 1000000) : IntKind.u64.wrap n = n := by
  simp [IntKind.wrap, IntKind.bits, IntKind.signed]; omega
theorem among_any (x n : Int) (w : World) (h1 : 1 ≤ n) (h2 : n ≤ 1000000) : Calls Try.prog 9 #[.int .i64 x, .int .i64 n] w fun e w' => e = .returned (.int .i64 (amongF x n)) ∧ w' = w := by
  have HA := Lib.hid (among_lem x n h1 h2)
  have hw := wrap_u64_small n h1 h2
  have hn0 : ¬ n = 0 := by omega
  go_enter Try.func9, Try.ntmps9
  go_wp2
  go_ret
  exact ⟨by rw [← HA.out]; first | rfl | simp, rfl⟩
theorem among_bd (x n : Int) (h1 : 1 ≤ n) : 0 ≤ amongF x n ∧ amongF x n < n := by
  unfold amongF
  rw [if_neg (by omega)]
  exact ⟨Int.emod_nonneg _ (by omega), Int.emod_lt_of_pos _ (by omega)⟩

theorem info3 : (Try.prog.info? 3).map (fun i => (i.zero, i.size, i.bytes)) = some (some (.int .i64 0), 1, 8) := by kernel_rfl
theorem filter_on {q : Int → Bool} {S : List Int} {k : Nat} {s : Int} (h : S[k]? = some s) : (S.take (k + 1)).filter q = (S.take k).filter q ++ (if q s then [s] else []) := by
  rw [List.take_add_one, h, List.filter_append]
  congr 1
  by_cases hq : q s = true
  · simp [hq]
  · simp [hq]
def chB (m : Int → Option Hd) (i : Int) : Bool := match m i with | some h => h.ch | none => false
/-- What is changed, in the cache's order. -/
def chs (a : CA) : List Int := a.os.filter (chB a.m)
def Built (B : Nat) (w : World) (v : Value) (l : List Int) : Prop := w.ownsRow B 3 1 v l.length (ints l)

set_option maxRecDepth 100000 in
set_option maxHeartbeats 4000000 in
theorem changed_any {F : Nat → Prop} {c d : Nat} {sp : Option Nat} {hp : Int → Nat} {a : CA} (w : World) (h : St F w c d sp hp a) (hl : a.os.length ≤ 1000) :
    Calls Try.prog 14 #[.pointer (some ⟨c, 0, none⟩)] w fun e w' => ∃ v', e = .returned v' ∧ IRow w' v' (sorted (chs a)) ∧ (∀ j, v'.ownBlock = some j → w.heap.size ≤ j) ∧ Below w.heap.size w w' := by
  obtain ⟨i0, hi0, hz0, hz1, hz2⟩ := info_parts info3
  have HH := Lib.hid (held_any w h hl)
  have HS := Lib.hid h
  clear h
  go_enter Try.func14, Try.ntmps14
  go_wp2_with fail
  refine HH.out.mono ?_
  rintro e w1 ⟨v1, rfl, hr1, ho1, hb1⟩
  obtain ⟨A, cp, rfl⟩ := hr1.sl'
  have HR1 := Lib.hid hr1
  have HB1 := Lib.hid hb1
  have hs1 := hb1.size
  clear hr1 ho1 hb1 HH
  go_wp2_with fail
  go_loopw [3, 9] (fun v i wr => ∃ k : Nat, k ≤ a.os.length ∧ i = .int .i64 k ∧ Built w1.heap.size wr v ((a.os.take k).filter (chB a.m)) ∧ Below w1.heap.size w1 wr) (fun _ i _ => a.os.length - (intOf i).toNat)
  case atStart => exact ⟨0, Nat.zero_le _, rfl, by rw [List.take_zero]; exact World.ownsRow_nil _ _ _ _, Below.refl _ _⟩
  case round =>
    obtain ⟨k, hk, rfl, hv, hbel⟩ := hrel
    have HV := Lib.hid hv
    have HB := Lib.hid hbel
    have hsz := hbel.size
    have HBw := Lib.hid (HB1.out.trans (hbel.mono (by omega)))
    have HSw := Lib.hid (HS.out.turn (S := fun _ => False) (Turn.of_below HBw.out) (fun _ _ => id) fun _ _ => id)
    clear hv hbel
    by_cases hlt : k < a.os.length
    · obtain ⟨s, hs⟩ : ∃ s, a.os[k]? = some s := ⟨_, List.getElem?_eq_getElem hlt⟩
      obtain ⟨g, cg, cur, hAe, -⟩ := (HR1.out.shape).resolve_left fun e => by rw [e.2] at hlt; simp at hlt
      have hA : A = some ⟨g, 0, none⟩ := by injection hAe
      subst hA
      have hR1w : IRow wr _ a.os := HR1.out.turn (S := fun _ => False) (Turn.of_below HB.out) fun _ _ => id
      have hc1 : wr.cell? ⟨g, k, none⟩ = some (.int .i64 s) := by
        have := hR1w.get (j := k) hlt
        rw [this, List.getD_eq_getElem?_getD, hs]
        rfl
      have him : s ∈ a.os := List.mem_of_getElem? hs
      have HON := Lib.hid (filter_on (q := chB a.m) hs)
      have hfl : ((a.os.take k).filter (chB a.m)).length ≤ 1000 := by
        have := List.length_filter_le (chB a.m) (a.os.take k)
        rw [List.length_take] at this
        omega
      obtain ⟨hd, hm⟩ : ∃ hd, a.m s = some hd := Option.isSome_iff_exists.1 ((HSw.out.link.iff s).1 him)
      obtain ⟨Fc, Fd, ml, ov, M⟩ := HSw.out
      obtain ⟨g1, hb, hkw, hFp, hpn⟩ := M.ca.held s hd hm
      have hlk := M.ca.map.is.look Try.underlying71 (zero75 _) hkw
      rw [hm] at hlk
      simp only [Option.map_some, Option.getD_some] at hlk
      have hpc := (g1.cell 64).trans (hd.at64 hb).1
      have c2 := M.ca.blk.cell 2
      simp at c2
      have hcb : chB a.m s = hd.ch := by unfold chB; rw [hm]
      rw [hcb] at HON
      clear M g1 hm hcb hAe hs hR1w
      generalize (a.os.take k).filter (chB a.m) = L at *
      obtain ⟨bb, ch, pins⟩ := hd
      simp only at hpc hpn hb HON
      cases ch with
      | true =>
        have HN := Lib.hid (show (a.os.take (k + 1)).filter (chB a.m) = L ++ [s] from by rw [HON.out, if_pos rfl])
        clear HON
        go_wp2_with (at_builtin; refine wpList_append_own _ rfl (.tmp 23) (.tmp 25) 40 rfl w1.heap.size 3 i0 (.int .i64 0) 1 8 Try.underlying40 hi0 hz0 hz1 hz2 rfl (by decide) _ _ _ rfl (World.ownsRow.alloc HV.out _) ⟨wr.heap.size, 0, none⟩ 1 1 [.int .i64 s] rfl rfl ?c1 ?c2 ?c3 ?c4 ?c5 ?_)
        case c1 => exact one_new _ _ _
        case c2 => simp [Value.oneCell']
        case c3 => simp only [maxLen]; omega
        case c4 => omega
        case c5 => simp; omega
        intro v' w5 hown5 hg5 _
        have HO5 := Lib.hid (show Built w1.heap.size w5 v' (L ++ [s]) from by
          unfold Built ints
          rw [List.map_append, List.length_append]
          exact hown5)
        have HB5 := Lib.hid ((HB.out.alloc hsz (.cells #[.int .i64 s] 3)).grown hg5 (by simp; omega) (fun j hj => (World.ownsRow.lt HV.out j hj).1))
        clear hown5 hg5 hlk hpc c2 hc1
        go_wp2
        go_roundw
        case rel => exact ⟨k + 1, by omega, by go_num, by rw [HN.out]; exact HO5.out, HB5.out⟩
        case measure => simp [intOf]; omega
      | false =>
        have HN := Lib.hid (show (a.os.take (k + 1)).filter (chB a.m) = L from by rw [HON.out, if_neg (by decide), List.append_nil])
        clear HON
        go_wp2
        go_roundw
        case rel => exact ⟨k + 1, by omega, by go_num, by rw [HN.out]; exact HV.out, HB.out⟩
        case measure => simp [intOf]; omega
    · obtain rfl : k = a.os.length := by omega
      have hv := HV.out
      rw [List.take_length] at hv
      obtain ⟨k1, k2⟩ := IRow.of_own hv
      have hcl : (chs a).length ≤ 1000000 := by
        have := List.length_filter_le (chB a.m) a.os
        unfold chs
        omega
      have HSo := Lib.hid (sort_any _ (chs a) wr k1 hcl)
      have HK2 := Lib.hid k2
      clear hv k1 k2 hcl
      go_wp2_with fail
      refine HSo.out.mono ?_
      rintro e w6 ⟨rfl, hr6, hT6⟩
      have HR6 := Lib.hid hr6
      have HB6 := Lib.hid (HBw.out.trans (hT6.below (B := w.heap.size) (by omega) fun j hj e => by have := HK2.out j e; omega))
      clear hr6 hT6 HSo
      go_wp2
      go_ret
      exact ⟨_, rfl, HR6.out, fun j hj => by have := HK2.out j hj; omega, HB6.out⟩
end Go.Proofs.Ytnbppfhnagacfaa
