/- The methods of package plan at a graph that is none. -/
import Derived.Test.YtmkfaibjjbgbbaaPlanD
namespace Go.Proofs.Ytmkfaibjjbgbbaa
open Go.RowKit
set_option linter.unusedVariables false
attribute [local go_sem ↓] Go.wp_at_zero Go.wp_at_succ

theorem next_nil (v : Value) (w : World) : Calls Try.prog 37 #[.pointer none, v] w fun e w' => e = .returned (.tuple #[batV (.slice none 0 0) false, .bool false]) ∧ Below w.heap.size w w' := by
  have hmm := @run_makeMap Try.prog
  have HK := fun (W : World) => needed_nil v W
  go_enter Try.func37, Try.ntmps37
  go_wp2_with fail
  obtain ⟨w2, hw2⟩ : ∃ w2, w2 = (w.alloc (.cells #[.slice none 0 0, .bool false] 61)).alloc (.map #[] 0) := ⟨_, rfl⟩
  rw [← hw2]
  have HB2 := Lib.hid (show Below w.heap.size w w2 from by rw [hw2]; exact ((Below.refl _ _).alloc (Nat.le_refl _) _).alloc (by simp) _)
  have HR2 := Lib.hid (show Blk w2 w.heap.size 61 #[.slice none 0 0, .bool false] from by rw [hw2]; exact (Blk.new _ _ _).alloc _)
  have HM2 := Lib.hid (show MapIs w2 (w.heap.size + 1) 0 (fun _ => none) from by
    rw [hw2]
    have := MapIs.new (w.alloc (.cells #[.slice none 0 0, .bool false] 61))
    simpa using this)
  have hs2 : w2.heap.size = w.heap.size + 2 := by rw [hw2]; simp
  clear hw2
  refine (HK _).mono ?_
  rintro e w3 ⟨rfl, hb3⟩
  have HB3 := Lib.hid (HB2.out.trans (hb3.mono (by omega)))
  have HR3 := Lib.hid (HR2.out.below hb3 (by omega))
  have hm3 := HM2.out.keep (hb3.block (w.heap.size + 1) (by omega))
  obtain ⟨m, hlen, hle, -⟩ := hm3.len Try.underlying84
  obtain rfl : m = 0 := by omega
  have hl0 : w.heap.size < w3.heap.size := HR3.out.lt
  have f0 := HR3.out.frozen 0
  have f1 := HR3.out.frozen 1
  have c0 := HR3.out.cell 0
  have c1 := HR3.out.cell 1
  simp at c0 c1
  clear hb3 hm3 hle HB2 HR2 HM2 hs2
  go_wp2_with fail
  refine wp_loop_rounds 1 ?_
  rw [rounds_succ]
  go_wp2
  have F := ((HR3.out.set_ 0 (.slice none 0 0)).set_ 1 (.bool false))
  have T := ((Turn.refl (fun j => j = w.heap.size) w3).setCell (p := ⟨w.heap.size, 0, none⟩) (fun _ => rfl) (.slice none 0 0)).setCell (p := ⟨w.heap.size, 1, none⟩) (fun _ => rfl) (.bool false)
  have hbl := HB3.out.trans (T.below (B := w.heap.size) (by omega) (fun i hi e => by omega))
  have z0 := F.cell 0
  have z1 := F.cell 1
  generalize (w3.setCell ⟨w.heap.size, 0, none⟩ (.slice none 0 0)).setCell ⟨w.heap.size, 1, none⟩ (.bool false) = X at *
  simp at z0 z1
  exact bodyPost_ret (v := .tuple #[batV (.slice none 0 0) false, .bool false]) (by simp [results, Try.results37, go_sem, batV, z0, z1]) rfl ⟨rfl, hbl⟩

theorem batches_nil (v : Value) (w : World) : Calls Try.prog 34 #[.pointer none, v] w fun e w' => e = .returned (.slice none 0 0) ∧ Below w.heap.size w w' := by
  have HC := fun (W : World) => copy_nil W
  have HN := fun (W : World) => next_nil v W
  go_enter Try.func34, Try.ntmps34
  go_wp2_with fail
  refine (HC _).mono ?_
  rintro e w1 ⟨rfl, hb1⟩
  have HB1 := Lib.hid hb1
  clear hb1
  go_wp2_with fail
  refine wp_loop_rounds 1 ?_
  rw [rounds_succ]
  go_wp2_with fail
  refine (HN _).mono ?_
  rintro e w2 ⟨rfl, hb2⟩
  have HB2 := Lib.hid (HB1.out.trans (hb2.mono HB1.out.size))
  clear hb2
  unfold batV
  go_wp2
  go_ret
  exact ⟨rfl, HB2.out.alloc HB2.out.size _⟩

set_option maxRecDepth 100000 in
theorem carry_nil (sv : Value) (S : List Int) (fb : Bool) (w : World) (hv : Arr w 3 sv (ints S)) : Calls Try.prog 35 #[.pointer none, batV sv fb] w fun e w' => ∃ A c, e = .returned (.slice A 0 c) ∧ Below w.heap.size w w' := by
  obtain ⟨A, c, rfl, h1, h2⟩ := hv.len
  have HA := Lib.hid hv.at
  rw [ints_len] at h1 ⊢
  unfold maxLen at h2
  have HR := Lib.hid fun (s : Int) (W : World) => ready_nil s W
  have HW := Lib.hid fun (W : World) => write_nil (.slice none 0 0) W
  have HS := Lib.hid fun (W : World) => settleAll_nil W
  clear hv
  unfold batV
  go_enter Try.func35, Try.ntmps35
  go_wp2_with fail
  obtain ⟨w1, hw1⟩ : ∃ w1, w1 = w.alloc (.cells #[.slice A S.length c, .bool fb] 61) := ⟨_, rfl⟩
  rw [← hw1]
  have HB1 := Lib.hid (show Below w.heap.size w w1 from by rw [hw1]; exact (Below.refl _ _).alloc (Nat.le_refl _) _)
  clear hw1
  go_loopw [5, 12] (fun v i wr => ∃ k : Nat, k ≤ S.length ∧ i = .int .i64 k ∧ Tail w1.heap.size wr v [] ∧ Below w1.heap.size w1 wr) (fun _ i _ => S.length - (intOf i).toNat)
  case atStart => exact ⟨0, Nat.zero_le _, rfl, .inl ⟨rfl, rfl⟩, Below.refl _ _⟩
  case round =>
    obtain ⟨k, hk, rfl, hv, hbel⟩ := hrel
    have HV := Lib.hid hv
    have HB := Lib.hid hbel
    have hsz := hbel.size
    have hs1 := HB1.out.size
    by_cases hlt : k < S.length
    · obtain ⟨s, hs⟩ : ∃ s, S[k]? = some s := ⟨_, List.getElem?_eq_getElem hlt⟩
      obtain ⟨gb, o, cs, rfl, hbk, hcs⟩ := HA.out k s hs
      have hc1 : wr.cell? ⟨gb, o + k, none⟩ = some (.int .i64 s) := ((hbk.below (HB1.out.trans (hbel.mono hs1)) hbk.lt).cell (o + k)).trans hcs
      clear hv hbel hbk hcs hs
      go_wp2_with fail
      refine (HR.out s _).mono ?_
      rintro e w5 ⟨rfl, hb⟩
      have HB5 := Lib.hid (HB.out.trans (hb.mono hsz))
      have HV5 := Lib.hid (HV.out.below hb)
      have hs5 := hb.size
      clear hb
      go_wp2_with fail
      refine (HW.out _).mono ?_
      rintro e w6 ⟨rfl, hw6⟩
      subst hw6
      go_wp2_with (at_builtin; refine wpList_append_tail rfl (.tmp 22) (.tmp 23) rfl _ [] rfl HV5.out _ [] rfl (show Row _ (.slice none 0 0) (ints []) from Row.of_arr (Arr.nil _ 3)) ?c1 ?c2 ?_)
      case c1 => decide
      case c2 => omega
      intro v7 w7 hT7 hg7 ho7
      have HV7 := Lib.hid (show Tail w1.heap.size w7 v7 [] from hT7)
      have HB7 := Lib.hid (HB5.out.grown hg7 (by omega) (fun j hj => (HV5.out.own j hj).1))
      clear hT7 hg7 ho7
      go_wp2
      go_roundw
      case rel => exact ⟨k + 1, by omega, by go_num, HV7.out, HB7.out⟩
      case measure => simp [intOf]; omega
    · obtain ⟨A7, c7, rfl, -, -⟩ := hv.shape
      clear hv hbel
      go_wp2_with fail
      refine (HS.out _).mono ?_
      rintro e w5 ⟨rfl, hb⟩
      have HB5 := Lib.hid (HB1.out.trans ((HB.out.trans (hb.mono hsz)).mono hs1))
      clear hb
      go_wp2
      go_ret
      exact ⟨_, _, rfl, HB5.out⟩

theorem cost_nil (w : World) : Calls Try.prog 45 #[.slice none 0 0] w fun e w' => e = .returned (.agg #[.int .i64 0, .int .i64 0, .int .i64 0]) ∧ Below w.heap.size w w' := by
  go_enter Try.func45, Try.ntmps45
  go_wp2_with fail
  refine wp_loop_rounds 1 ?_
  rw [rounds_succ]
  go_wp2
  exact bodyPost_ret (v := .agg #[.int .i64 0, .int .i64 0, .int .i64 0]) (by simp [results, Try.results45, go_sem]) rfl ⟨rfl, ((Below.refl _ _).alloc (Nat.le_refl _) _).alloc (by simp) _⟩
end Go.Proofs.Ytmkfaibjjbgbbaa
