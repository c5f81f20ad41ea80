/- package scupperref13: find, Held, Changed. package scupperref13: Changed. package scupperref13: front. The reference's cache: how its whole state goes on behind a step of its disk, of its own row. -/
import Derived.Test.YtnbppfhnagacfaaJp1
namespace Go.Proofs.Ytnbppfhnagacfaa
open Go.RowKit
set_option linter.unusedVariables false
attribute [local go_sem ↓] Go.wp_at_zero Go.wp_at_succ

theorem idxOf_at : ∀ (l : List Int) (k : Nat) (i : Int), l[k]? = some i → (∀ j : Nat, j < k → l[j]? ≠ some i) → l.idxOf i = k
  | [], k, i, h, _ => by cases h
  | a :: l, 0, i, h, _ => by
    obtain rfl : a = i := by simpa using h
    simp
  | a :: l, k + 1, i, h, hn => by
    have hne : a ≠ i := fun e => hn 0 (by omega) (by rw [e]; rfl)
    have hb : (a == i) = false := by simpa using hne
    have ih := idxOf_at l k i (by simpa using h) fun j hj e => hn (j + 1) (by omega) (by simpa using e)
    simp [List.idxOf_cons, hb, ih]
theorem idx_at {l : List Int} {k : Nat} {i : Int} (hk : l[k]? = some i) (hn : ∀ j : Nat, j < k → l[j]? ≠ some i) : idx l i = k := by
  unfold idx
  rw [if_pos (List.mem_of_getElem? hk), idxOf_at l k i hk hn]
theorem idx_no {l : List Int} {i : Int} (hn : ∀ j : Nat, l[j]? ≠ some i) : idx l i = -1 := by
  unfold idx
  rw [if_neg fun e => by
    obtain ⟨j, hj⟩ := List.mem_iff_getElem?.1 e
    exact hn j hj]
theorem idx_some {l : List Int} {i : Int} (h : i ∈ l) : ∃ k : Nat, idx l i = k ∧ l[k]? = some i ∧ k < l.length := by
  have h1 : l.idxOf i < l.length := List.idxOf_lt_length_iff.2 h
  exact ⟨l.idxOf i, by unfold idx; rw [if_pos h], by rw [List.getElem?_eq_getElem h1]; exact congrArg some (List.getElem_idxOf h1), h1⟩
theorem idx_neg {l : List Int} {i : Int} (h : i ∉ l) : idx l i = -1 := by unfold idx; rw [if_neg h]

set_option maxHeartbeats 2000000 in
theorem rfind_any {F : Nat → Prop} {c d g : Nat} {a : CA} {s : Sup} {Fc Fd : Nat → Prop} {lv sv wv : Value} {vs : List Value} (i : Int) (w : World) (M : RMem F w c d g a s Fc Fd lv sv wv vs) :
    Calls Try.prog 51 #[.pointer (some ⟨c, 0, none⟩), .int .i64 i] w fun e w' => e = .returned (.int .i64 (idx a.os i)) ∧ w' = w := by
  obtain ⟨A, cp, rfl, -, -⟩ := M.row.shape
  have c2 := M.blk.cell 2
  simp [ones_len] at c2
  have hln := M.num.2.2.2.2
  have HM := Lib.hid M
  clear M
  go_enter Try.func51, Try.ntmps51
  go_wp2_with fail
  go_loopw [5] (fun v wr => ∃ k : Nat, k ≤ a.os.length ∧ v = .int .i64 k ∧ wr = w ∧ Hid (∀ j, j < k → a.os[j]? ≠ some i)) (fun v _ => a.os.length - (intOf v).toNat)
  case atStart => exact ⟨0, Nat.zero_le _, rfl, by first | trivial | rfl, Lib.hid fun j hj => absurd hj (Nat.not_lt_zero _)⟩
  case round =>
    obtain ⟨k, hk, rfl, hwr, hno⟩ := hrel
    subst hwr
    by_cases hlt : k < a.os.length
    · obtain ⟨q, hq⟩ : ∃ q, a.os[k]? = some q := ⟨_, List.getElem?_eq_getElem hlt⟩
      obtain ⟨gl, cl, hAe, -⟩ := HM.out.row.form (by rw [ones_len]; omega)
      injection hAe with hA _ _
      subst hA
      have hck : wr.cell? ⟨gl, k * 67, none⟩ = some (.int .i64 q) := HM.out.row.cell (k := k) (j := 0) (ones_at hq) (by unfold oneA oneC; rfl)
      have hi1 : (0 : Int) ≤ (k : Int) := by omega
      have hi2 : (k : Int) < (a.os.length : Int) := by omega
      by_cases he : q = i
      · subst he
        have HE := Lib.hid (idx_at hq hno.out)
        clear hno hq
        go_wp2
        go_ret
        rw [HE.out]
        exact ⟨rfl, rfl⟩
      · have hqb : (q == i) = false := by simpa using he
        have HN := Lib.hid (show ∀ j, j < k + 1 → a.os[j]? ≠ some i from fun j hj e => by
          rcases Nat.lt_or_ge j k with h | h
          · exact hno.out j h e
          · obtain rfl : j = k := by omega
            rw [hq] at e
            exact he (Option.some.inj e))
        clear hno hq he
        go_wp2
        go_roundw
        case rel => exact ⟨k + 1, by omega, by go_num, by first | trivial | rfl, HN⟩
        case measure => simp [intOf]; omega
    · obtain rfl : k = a.os.length := by omega
      have HE := Lib.hid (show idx a.os i = -1 from idx_no fun j e => hno.out j (List.getElem?_eq_some_iff.1 e).1 e)
      clear hno
      go_wp2
      go_ret
      rw [HE.out]
      exact ⟨rfl, rfl⟩
set_option maxRecDepth 100000 in
set_option maxHeartbeats 4000000 in
theorem rheld_any {F : Nat → Prop} {c d g : Nat} {a : CA} (w : World) (h : RSt F w c d g a) :
    Calls Try.prog 28 #[.pointer (some ⟨c, 0, none⟩)] w fun e w' => ∃ v', e = .returned v' ∧ IRow w' v' a.os ∧ (∀ j, v'.ownBlock = some j → w.heap.size ≤ j) ∧ Below w.heap.size w w' := by
  obtain ⟨s, Fc, Fd, lv, sv, wv, vs, M⟩ := h
  obtain ⟨i0, hi0, hz0, hz1, hz2⟩ := info_parts info3
  obtain ⟨A, cp, rfl, -, -⟩ := M.row.shape
  have hln := M.num.2.2.2.2
  have HM := Lib.hid M
  have hb1 : Below w.heap.size w (w.alloc (.cells #[] 3)) := bel_alloc (Below.refl _ _) _
  have HO0 := Lib.hid (owns_mk0 w.heap.size w 3 1 (Nat.le_refl _))
  have HB0 := Lib.hid hb1
  clear M hb1
  go_enter Try.func28, Try.ntmps28
  go_wp2_with fail
  go_loopw [3, 4] (fun v i wr => ∃ k : Nat, k ≤ a.os.length ∧ i = .int .i64 k ∧ Built w.heap.size wr v (a.os.take k) ∧ Below w.heap.size w wr) (fun _ i _ => a.os.length - (intOf i).toNat)
  case atStart => exact ⟨0, Nat.zero_le _, rfl, by rw [List.take_zero]; exact HO0.out, HB0.out⟩
  case round =>
    clear HO0 HB0
    obtain ⟨k, hk, rfl, hv, hbel⟩ := hrel
    have HV := Lib.hid hv
    have HB := Lib.hid hbel
    have hsz := hbel.size
    have HMw := Lib.hid (HM.out.turn (S := fun _ => False) (Turn.of_below hbel) (fun _ _ => id) id)
    have c2 := HMw.out.blk.cell 2
    simp [ones_len] at c2
    clear hv hbel
    by_cases hlt : k < a.os.length
    · obtain ⟨q, hq⟩ : ∃ q, a.os[k]? = some q := ⟨_, List.getElem?_eq_getElem hlt⟩
      obtain ⟨gl, cl, hAe, -⟩ := HMw.out.row.form (by rw [ones_len]; omega)
      injection hAe with hA _ _
      subst hA
      have hck : wr.cell? ⟨gl, k * 67, none⟩ = some (.int .i64 q) := HMw.out.row.cell (k := k) (j := 0) (ones_at hq) (by unfold oneA oneC; rfl)
      have hi1 : (0 : Int) ≤ (k : Int) := by omega
      have hi2 : (k : Int) < (a.os.length : Int) := by omega
      have HN := Lib.hid (show a.os.take (k + 1) = a.os.take k ++ [q] from by rw [List.take_add_one, hq]; rfl)
      have hfl : (a.os.take k).length ≤ 1000 := by rw [List.length_take]; omega
      clear hq
      generalize a.os.take k = L at *
      go_wp2_with (at_builtin; refine wpList_append_own _ rfl (.tmp 15) (.tmp 24) 40 rfl w.heap.size 3 i0 (.int .i64 0) 1 8 Try.underlying40 hi0 hz0 hz1 hz2 rfl (by decide) _ _ _ rfl (World.ownsRow.alloc HV.out _) ⟨wr.heap.size, 0, none⟩ 1 1 [.int .i64 q] rfl rfl ?c1 ?c2 ?c3 ?c4 ?c5 ?_)
      try case c1 => exact one_new _ _ _
      case c2 => simp [Value.oneCell']
      case c3 => simp only [maxLen]; omega
      case c4 => omega
      case c5 => first | omega | (simp; omega)
      intro v' w5 hown5 hg5 _
      have HO5 := Lib.hid (show Built w.heap.size w5 v' (L ++ [q]) from by
        unfold Built ints
        rw [List.map_append, List.length_append]
        exact hown5)
      have HB5 := Lib.hid ((bel_alloc HB.out (.cells #[.int .i64 q] 3)).grown hg5 (by simp; omega) (fun j hj => (World.ownsRow.lt HV.out j hj).1))
      clear hown5 hg5 hck c2
      go_wp2
      go_roundw
      case rel => exact ⟨k + 1, by omega, by go_num, by rw [HN.out]; exact HO5.out, HB5.out⟩
      case measure => simp [intOf]; omega
    · obtain rfl : k = a.os.length := by omega
      have hv := HV.out
      rw [List.take_length] at hv
      have HR := Lib.hid (IRow.of_own hv)
      clear hv
      go_wp2
      go_ret
      exact ⟨_, rfl, HR.out.1, HR.out.2, HB.out⟩
end Go.Proofs.Ytnbppfhnagacfaa
namespace Go.Proofs.Ytnbppfhnagacfaa
open Go.RowKit
set_option linter.unusedVariables false
attribute [local go_sem ↓] Go.wp_at_zero Go.wp_at_succ

def nums (n : Nat) : List Int := (List.range n).map fun k : Nat => (k : Int)
theorem nums_succ (k : Nat) : nums (k + 1) = nums k ++ [(k : Int)] := by unfold nums; rw [List.range_succ, List.map_append]; rfl
/-- What the reference's Changed tells. -/
def chR (a : CA) : List Int := (nums a.x.stable.length).filter (chB a.m)
theorem chR_succ (q : Int → Bool) (k : Nat) : (nums (k + 1)).filter q = (nums k).filter q ++ (if q k = true then [(k : Int)] else []) := by
  rw [nums_succ, List.filter_append]
  congr 1
  by_cases h : q k = true
  · simp [h]
  · simp [h]
theorem nums_len (q : Int → Bool) (k : Nat) : ((nums k).filter q).length ≤ k := by
  have := List.length_filter_le q (nums k)
  unfold nums at this ⊢
  rw [List.length_map, List.length_range] at this
  exact this
set_option maxRecDepth 100000 in
set_option maxHeartbeats 8000000 in
theorem rchanged_any {F : Nat → Prop} {c d g : Nat} {a : CA} (w : World) (h : RSt F w c d g a) :
    Calls Try.prog 29 #[.pointer (some ⟨c, 0, none⟩)] w fun e w' => ∃ v', e = .returned v' ∧ IRow w' v' (chR a) ∧ (∀ j, v'.ownBlock = some j → w.heap.size ≤ j) ∧ Below w.heap.size w w' := by
  obtain ⟨s, Fc, Fd, lv, sv, wv, vs, M⟩ := h
  obtain ⟨i0, hi0, hz0, hz1, hz2⟩ := info_parts info3
  obtain ⟨A, cp, rfl, -, -⟩ := M.row.shape
  obtain ⟨gs, cs, rfl⟩ := M.dk.sv
  have hln := M.num.2.2.2.2
  have hn2 := M.dk.n2
  have HM := Lib.hid M
  have hb1 : Below w.heap.size w (w.alloc (.cells #[] 3)) := bel_alloc (Below.refl _ _) _
  have HO0 := Lib.hid (owns_mk0 w.heap.size w 3 1 (Nat.le_refl _))
  have HB0 := Lib.hid hb1
  clear M hb1
  unfold chR
  go_enter Try.func29, Try.ntmps29
  go_wp2_with fail
  go_loopw [3, 4] (fun v i wr => ∃ k : Nat, k ≤ a.x.stable.length ∧ i = .int .i64 k ∧ Built w.heap.size wr v ((nums k).filter (chB a.m)) ∧ Below w.heap.size w wr) (fun _ i _ => a.x.stable.length - (intOf i).toNat)
  case atStart => exact ⟨0, Nat.zero_le _, rfl, by rw [show nums 0 = [] from rfl]; exact HO0.out, HB0.out⟩
  case round =>
    clear HO0 HB0
    obtain ⟨k, hk, rfl, hv, hbel⟩ := hrel
    have HV := Lib.hid hv
    have HB := Lib.hid hbel
    have hsz := hbel.size
    have HMw := Lib.hid (HM.out.turn (S := fun _ => False) (Turn.of_below hbel) (fun _ _ => id) id)
    have c0 := HMw.out.blk.cell 0
    have c2 := HMw.out.blk.cell 2
    have d1 := HMw.out.dk.blk.cell 1
    simp [ones_len] at c0 c2 d1
    clear hv hbel
    by_cases hlt : k < a.x.stable.length
    · have HFn := Lib.hid (rfind_any (k : Int) wr HMw.out)
      have HN := Lib.hid (chR_succ (chB a.m) k)
      have hfl := nums_len (chB a.m) k
      have hkk : (k : Int) < (a.x.stable.length : Int) := by omega
      by_cases hin : (k : Int) ∈ a.os
      · obtain ⟨p, hp1, hp2, hp3⟩ := idx_some hin
        rw [hp1] at HFn
        obtain ⟨hd, hm⟩ : ∃ hd, a.m (k : Int) = some hd := Option.isSome_iff_exists.1 ((HMw.out.link.iff _).1 hin)
        obtain ⟨gl, cl, hAe, -⟩ := HMw.out.row.form (by rw [ones_len]; omega)
        injection hAe with hA _ _
        subst hA
        have hb64 := (HMw.out.hl _ hd hm).1
        have hck : wr.cell? ⟨gl, p * 67 + 65, none⟩ = some (.bool hd.ch) := HMw.out.row.cell (k := p) (j := 65) (ones_at hp2) (by
          rw [oneA_some hm]
          unfold oneC
          rw [List.getElem?_cons_succ, List.getElem?_append_right (by rw [bytes_len]; omega), bytes_len, hb64]
          rfl)
        have hi1 : (0 : Int) ≤ (p : Int) := by omega
        have hi2 : (p : Int) < (a.os.length : Int) := by omega
        have hcb : chB a.m (k : Int) = hd.ch := by unfold chB; rw [hm]
        rw [hcb] at HN
        clear hm hp1 hp2 hcb hin
        generalize (nums k).filter (chB a.m) = L at *
        obtain ⟨bb, ch, pins⟩ := hd
        simp only at hck HN hb64
        cases ch with
        | true =>
          rw [if_pos rfl] at HN
          go_wp2_with fail
          refine HFn.out.mono ?_
          rintro e w4 ⟨rfl, rfl⟩
          go_wp2_with (at_builtin; refine wpList_append_own _ rfl (.tmp 34) (.tmp 36) 40 rfl w.heap.size 3 i0 (.int .i64 0) 1 8 Try.underlying40 hi0 hz0 hz1 hz2 rfl (by decide) _ _ _ rfl (World.ownsRow.alloc HV.out _) ⟨w4.heap.size, 0, none⟩ 1 1 [.int .i64 (k : Int)] rfl rfl ?c1 ?c2 ?c3 ?c4 ?c5 ?_)
          try case c1 => exact one_new _ _ _
          case c2 => simp [Value.oneCell']
          case c3 => simp only [maxLen]; omega
          case c4 => omega
          case c5 => first | omega | (simp; omega)
          intro v' w5 hown5 hg5 _
          have HO5 := Lib.hid (show Built w.heap.size w5 v' (L ++ [(k : Int)]) from by
            unfold Built ints
            rw [List.map_append, List.length_append]
            exact hown5)
          have HB5 := Lib.hid ((bel_alloc HB.out (.cells #[.int .i64 (k : Int)] 3)).grown hg5 (by simp; omega) (fun j hj => (World.ownsRow.lt HV.out j hj).1))
          clear hown5 hg5 hck c2 c0 d1
          go_wp2
          go_roundw
          case rel => exact ⟨k + 1, by omega, by go_num, by rw [HN.out]; exact HO5.out, HB5.out⟩
          case measure => simp [intOf]; omega
        | false =>
          rw [if_neg (by decide), List.append_nil] at HN
          go_wp2_with fail
          refine HFn.out.mono ?_
          rintro e w4 ⟨rfl, rfl⟩
          go_wp2
          go_roundw
          case rel => exact ⟨k + 1, by omega, by go_num, by rw [HN.out]; exact HV.out, HB.out⟩
          case measure => simp [intOf]; omega
      · rw [idx_neg hin] at HFn
        have hcb : chB a.m (k : Int) = false := by
          unfold chB
          cases hm : a.m (k : Int) with
          | none => rfl
          | some hd => exact absurd ((HMw.out.link.iff _).2 (by rw [hm]; rfl)) hin
        rw [hcb, if_neg (by decide), List.append_nil] at HN
        clear hin hcb
        go_wp2_with fail
        refine HFn.out.mono ?_
        rintro e w4 ⟨rfl, rfl⟩
        go_wp2
        go_roundw
        case rel => exact ⟨k + 1, by omega, by go_num, by rw [HN.out]; exact HV.out, HB.out⟩
        case measure => simp [intOf]; omega
    · obtain rfl : k = a.x.stable.length := by omega
      have HR := Lib.hid (IRow.of_own HV.out)
      go_wp2
      go_ret
      exact ⟨_, rfl, HR.out.1, HR.out.2, HB.out⟩
end Go.Proofs.Ytnbppfhnagacfaa
namespace Go.Proofs.Ytnbppfhnagacfaa
open Go.RowKit
set_option linter.unusedVariables false
attribute [local go_sem ↓] Go.wp_at_zero Go.wp_at_succ

theorem info91 : ∃ i z, Try.prog.info? 91 = some i ∧ i.zero = some z ∧ i.size = 67 ∧ i.bytes = 88 ∧ z.cells.size = 67 := by
  obtain ⟨i, z, hi, hz⟩ := info_zero 91 (by kernel_rfl)
  have h1 : (Try.prog.info? 91).map (fun i => i.size) = some 67 := by kernel_rfl
  have h2 : (Try.prog.info? 91).map (fun i => i.bytes) = some 88 := by kernel_rfl
  have h3 : ((Try.prog.info? 91).bind fun i => i.zero).map (fun z => z.cells.size) = some 67 := by kernel_rfl
  rw [hi] at h1 h2 h3
  refine ⟨i, z, hi, hz, Option.some.inj h1, Option.some.inj h2, ?_⟩
  have h4 : (i.zero).map (fun z => z.cells.size) = some 67 := h3
  rw [hz] at h4
  exact Option.some.inj h4
theorem wl_load91 {ops : Array Oper} {rest : List Oper} {op : Oper} {a : Act} {w : World} {Q : Exit → Act → World → Prop} {g o : Nat} {x : List Value} (h : Hid (w.rangeAt g o x)) (hb : x.length = 67) (y : Operand) (ho : op.op = .load 91 y) (hgd : op.guard = none)
    (hx : a.eval y = .pointer (some ⟨g, o, none⟩)) (hk : wpList Try.prog ops Q rest (a.put op.dst (.agg x.toArray)) w) : wpList Try.prog ops Q (op :: rest) a w :=
  wpList_load_mid hgd 91 y ho g o hx x _ h.out Try.underlying91 rfl (by rw [hb]; kernel_rfl) hk
theorem wl_mk1 {P : Program} {ops : Array Oper} {rest : List Oper} {op : Oper} {a : Act} {w : World} {Q : Exit → Act → World → Prop} (t e : TypeId) (N : Nat) (ie : TypeInfo) (z : Value) (hu : P.underlying t = some (.slice e)) (hie : P.info? e = some ie) (hz : ie.zero = some z) (hs : ie.size = N) (h1 : 0 < N) (h2 : N ≤ 1000)
    {cs : List Value} (hc : cs.length = N) (x : Operand) (ho : op.op = .buildSlice t 1 #[(0, x)]) (hgd : op.guard = none) (hx : a.eval x = .agg cs.toArray)
    (hk : wpList P ops Q rest (a.put op.dst (.slice (some ⟨w.heap.size, 0, none⟩) 1 1)) (w.alloc (.cells cs.toArray e))) : wpList P ops Q (op :: rest) a w :=
  wpList_plain hgd fun _ hK => by
    unfold Oper.wp execOp
    simp only [ho, Sem.run_bind, List.map_toArray, List.map_cons, List.map_nil, hx, run_mk1 w t e N ie z hu hie hz hs h1 h2 hc, Result.andThen_ok]
    exact hK _ _ hk
theorem owns_sl {w : World} {base : Nat} {e : TypeId} {N : Nat} {v : Value} {n : Nat} {xs : List Value} (h : w.ownsRow base e N v n xs) : ∃ A n c, v = .slice A n c := by
  rcases h.2 with ⟨e, -⟩ | ⟨g, cap, cur, e, -⟩
  · exact ⟨_, _, _, e⟩
  · exact ⟨_, _, _, e⟩
def dropTo (L : List (List Value)) (k : Int) (j : Nat) : List (List Value) := if 0 ≤ k ∧ k.toNat < j then (L.take j).eraseIdx k.toNat else L.take j
def dropAt (L : List (List Value)) (k : Int) : List (List Value) := if 0 ≤ k then L.eraseIdx k.toNat else L
theorem dropTo_all {L : List (List Value)} {k : Int} (hk : k.toNat < L.length ∨ k < 0) : dropTo L k L.length = dropAt L k := by
  unfold dropTo dropAt
  rw [List.take_length]
  by_cases h : 0 ≤ k
  · rw [if_pos ⟨h, by omega⟩, if_pos h]
  · rw [if_neg (fun e => h e.1), if_neg h]
theorem dropTo_same {L : List (List Value)} {k : Int} {j : Nat} (hj : j < L.length) (e : (j : Int) = k) : dropTo L k (j + 1) = dropTo L k j := by
  subst e
  unfold dropTo
  rw [Int.toNat_natCast, if_pos ⟨by omega, by omega⟩, if_neg (by omega), List.eraseIdx_eq_take_drop_succ, List.take_take, Nat.min_eq_left (by omega), List.drop_eq_nil_of_le (by rw [List.length_take]; omega), List.append_nil]
theorem dropTo_next {L : List (List Value)} {k : Int} {j : Nat} {q : List Value} (hq : L[j]? = some q) (e : (j : Int) ≠ k) : dropTo L k (j + 1) = dropTo L k j ++ [q] := by
  have hj := (List.getElem?_eq_some_iff.1 hq).1
  unfold dropTo
  rw [List.take_add_one, hq]
  by_cases h : 0 ≤ k ∧ k.toNat < j
  · rw [if_pos ⟨h.1, by omega⟩, if_pos h, List.eraseIdx_append_of_lt_length (by rw [List.length_take]; omega)]
    rfl
  · rw [if_neg (by omega), if_neg h]
    rfl
theorem dropTo_len (L : List (List Value)) (k : Int) (j : Nat) : (dropTo L k j).length ≤ j := by
  unfold dropTo
  split
  · have := List.length_eraseIdx_le (L.take j) k.toNat
    rw [List.length_take] at this
    omega
  · rw [List.length_take]; omega
theorem dropTo_mem {L : List (List Value)} {k : Int} {j : Nat} {q : List Value} (h : q ∈ dropTo L k j) : q ∈ L := by
  unfold dropTo at h
  split at h
  · exact List.mem_of_mem_take (List.mem_of_mem_eraseIdx h)
  · exact List.mem_of_mem_take h
set_option maxRecDepth 100000 in
set_option maxHeartbeats 8000000 in
theorem front_any {c : Nat} {D S H M lv : Value} {L : List (List Value)} (x : List Value) (k : Int) (w : World) (hx : x.length = 67) (hx1 : ∀ v ∈ x, v.oneCell' = true) (hL1 : ∀ q ∈ L, ∀ v ∈ q, v.oneCell' = true) (hk : k.toNat < L.length ∨ k < 0) (hb : Blk w c 61 #[D, S, lv, H, M]) (hr : GRow w lv L) (hl : L.length ≤ 1000) (hlc : ∀ j, lv.ownBlock = some j → j ≠ c) :
    Calls Try.prog 78 #[.pointer (some ⟨c, 0, none⟩), .agg x.toArray, .int .i64 k] w fun e w' => e = .returned (.tuple #[]) ∧ ∃ lv', Blk w' c 61 #[D, S, lv', H, M] ∧ GRow w' lv' (x :: dropAt L k) ∧ (∀ j, lv'.ownBlock = some j → w.heap.size ≤ j ∧ j < w'.heap.size) ∧ Turn (fun j => j = c) w w' := by
  obtain ⟨i0, z0, hi0, hz0, hz1, hz2, hz3⟩ := info91
  obtain ⟨A, cp, rfl, -, -⟩ := hr.shape
  obtain ⟨w1, hw1⟩ : ∃ w1, w1 = w.alloc (.cells x.toArray 91) := ⟨_, rfl⟩
  have hb1 : Below w.heap.size w w1 := by rw [hw1]; exact bel_alloc (Below.refl _ _) _
  have hV1 : Blk w1 w.heap.size 91 x.toArray := by rw [hw1]; exact Blk.new _ _ _
  have HBl := Lib.hid hb
  have HR := Lib.hid hr
  have HB1 := Lib.hid hb1
  have hcl := hb.lt
  have HRg := Lib.hid (show w1.rangeAt w.heap.size 0 x from fun j v hv => by rw [Nat.zero_add, hV1.cell j]; simpa using hv)
  clear hb hr
  go_enter Try.func78, Try.ntmps78
  go_upto_region 1 with (fail)
  change Code.wp _ _ _ _ (World.alloc w (.cells x.toArray 91))
  rw [← hw1]
  obtain ⟨b1, hb1e⟩ : ∃ b1, b1 = w.heap.size := ⟨_, rfl⟩
  rw [← hb1e] at HRg ⊢
  clear hw1 hb1 hV1 hb1e
  go_upto_region 2 with (first | (refine wl_load91 HRg hx _ rfl rfl rfl ?_) | (refine wl_mk1 59 91 67 i0 z0 Try.underlying59 hi0 hz0 hz1 (by decide) (by decide) hx _ rfl rfl rfl ?_))
  obtain ⟨w2, hw2⟩ : ∃ w2, w2 = w1.alloc (.cells x.toArray 91) := ⟨_, rfl⟩
  obtain ⟨b2, hb2e⟩ : ∃ b2, b2 = w1.heap.size := ⟨_, rfl⟩
  rw [← hw2, ← hb2e]
  have HB2 := Lib.hid (show Below w.heap.size w w2 from by rw [hw2]; exact bel_alloc HB1.out _)
  have hs1 := HB1.out.size
  have HO2 := Lib.hid (show w2.ownsRow w.heap.size 91 67 (.slice (some ⟨b2, 0, none⟩) 1 1) 1 [x].flatten from by
    rw [hw2, hb2e]
    refine ⟨by simp [hx], .inr ⟨w1.heap.size, 1, x.toArray, rfl, hs1, Blk.new _ _ _, Nat.le_refl _, by unfold maxLen; omega, by simp [hx], by rw [show [x].flatten = x by simp, List.toList_toArray]; exact List.take_of_length_le (by omega)⟩⟩)
  clear hw2 hb2e HRg
  go_wp2_with fail
  go_loopw [6, 7] (fun v i wr => ∃ j : Nat, j ≤ L.length ∧ i = .int .i64 j ∧ wr.ownsRow w.heap.size 91 67 v ((dropTo L k j).length + 1) (x :: dropTo L k j).flatten ∧ Below w.heap.size w wr) (fun _ i _ => L.length - (intOf i).toNat)
  case atStart => exact ⟨0, Nat.zero_le _, rfl, by rw [show dropTo L k 0 = [] from by unfold dropTo; split <;> simp]; exact HO2.out, HB2.out⟩
  case round =>
    clear HB2 HO2 HB1
    obtain ⟨j, hj, rfl, hv, hbel⟩ := hrel
    have HV := Lib.hid hv
    have HB := Lib.hid hbel
    have hsz := hbel.size
    have hBw := HBl.out.turn (Turn.of_below (S := fun _ => False) hbel) id
    have hRw := HR.out.turn (Turn.of_below (S := fun _ => False) hbel) fun _ _ => id
    have c2 := hBw.cell 2
    have f2 := hBw.frozen 2
    simp at c2
    have hcw : c < wr.heap.size := hBw.lt
    have HBw := Lib.hid hBw
    have hdl := dropTo_len L k j
    clear hv hbel hBw
    by_cases hlt : j < L.length
    · obtain ⟨q, hq⟩ : ∃ q, L[j]? = some q := ⟨_, List.getElem?_eq_getElem hlt⟩
      obtain ⟨gl, cl, hAe, -⟩ := hRw.form (by omega)
      injection hAe with hA _ _
      subst hA
      have hq67 := hRw.2 q (List.mem_of_getElem? hq)
      have hq1 := hL1 q (List.mem_of_getElem? hq)
      have HRq := Lib.hid (hRw.range hq)
      have hi1 : (0 : Int) ≤ (j : Int) := by omega
      have hi2 : (j : Int) < (L.length : Int) := by omega
      by_cases he : (j : Int) = k
      · have hkb : ((j : Int) == k) = true := by simpa using he
        have HN := Lib.hid (dropTo_same (L := L) hlt he)
        clear hRw hq
        go_wp2
        go_roundw
        case rel => exact ⟨j + 1, by omega, by go_num, by rw [HN.out]; exact HV.out, HB.out⟩
        case measure => simp [intOf]; omega
      · have hkb : ((j : Int) == k) = false := by simpa using he
        have HN := Lib.hid (dropTo_next (k := k) hq he)
        clear hRw hq
        generalize dropTo L k j = T at *
        have hl1 : q.length = 1 * 67 := by omega
        have hnews : ∀ (p : Nat) (u : Value), q[p]? = some u → (wr.alloc (.cells q.toArray 91)).cell? ((⟨wr.heap.size, 0, none⟩ : Addr).add p) = some u := fun p u hu => by
          rw [Addr.add_mid, Nat.zero_add, (Blk.new wr 91 q.toArray).cell p]
          simpa using hu
        have h63 : T.length + 1 + 1 ≤ maxLen := by unfold maxLen; omega
        have hby : (T.length + 1 + 1) * 88 ≤ 140737488355328 := by omega
        have hbs : w.heap.size ≤ (wr.alloc (.cells q.toArray 91)).heap.size := by simp; omega
        go_wp2_with (first | (refine wl_load91 HRq hq67 _ rfl rfl rfl ?_) | (refine wl_mk1 59 91 67 i0 z0 Try.underlying59 hi0 hz0 hz1 (by decide) (by decide) hq67 _ rfl rfl rfl ?_) | (at_builtin; refine wpList_append_own _ rfl (.tmp 22) (.tmp 30) 59 rfl w.heap.size 91 i0 z0 67 88 Try.underlying59 hi0 hz0 hz1 hz2 hz3 (by decide) _ _ _ rfl (World.ownsRow.alloc HV.out _) ⟨wr.heap.size, 0, none⟩ 1 1 q rfl hl1 hnews hq1 h63 hby hbs ?_))
        intro v' w5 hown5 hg5 _
        have HO5 := Lib.hid (show w5.ownsRow w.heap.size 91 67 v' ((T ++ [q]).length + 1) (x :: (T ++ [q])).flatten from by
          rw [List.length_append, show (x :: (T ++ [q])).flatten = x ++ (T.flatten ++ q) by simp]
          exact hown5)
        have HB5 := Lib.hid ((bel_alloc HB.out (.cells q.toArray 91)).grown hg5 (by simp; omega) (fun j hj => (World.ownsRow.lt HV.out j hj).1))
        clear hown5 hg5 c2 f2 hnews
        go_wp2
        go_roundw
        case rel => exact ⟨j + 1, by omega, by go_num, by rw [HN.out]; exact HO5.out, HB5.out⟩
        case measure => simp [intOf]; omega
    · obtain rfl : j = L.length := by omega
      have hown := HV.out
      rw [dropTo_all hk] at hown
      have hT : Turn (fun j => j = c) w wr := Turn.of_below HB.out
      have hmem : ∀ q ∈ x :: dropAt L k, q.length = 67 := fun q hq => by
        rcases List.mem_cons.1 hq with rfl | hq
        · exact hx
        · rw [← dropTo_all hk] at hq; exact hRw.2 q (dropTo_mem hq)
      obtain ⟨A6, n6, c6, rfl⟩ := owns_sl hown
      have hO6 := World.ownsRow.lt hown
      have hcl6 : ∀ j, (Value.slice A6 n6 c6).ownBlock = some j → ¬ j = c := fun j hj e => by have := (hO6 j hj).1; omega
      have hT7 : Turn (fun j => j = c) wr (wr.setCell ⟨c, 2, none⟩ (.slice A6 n6 c6)) := (Turn.refl (fun j => j = c) wr).setCell (p := ⟨c, 2, none⟩) (fun _ => rfl) _
      have HF := Lib.hid (show ∃ lv', Blk (wr.setCell ⟨c, 2, none⟩ (.slice A6 n6 c6)) c 61 #[D, S, lv', H, M] ∧ GRow (wr.setCell ⟨c, 2, none⟩ (.slice A6 n6 c6)) lv' (x :: dropAt L k) ∧ (∀ j, lv'.ownBlock = some j → w.heap.size ≤ j ∧ j < (wr.setCell ⟨c, 2, none⟩ (.slice A6 n6 c6)).heap.size) ∧ Turn (fun j => j = c) w (wr.setCell ⟨c, 2, none⟩ (.slice A6 n6 c6)) from by
        refine ⟨_, HBw.out.set_ 2 _, ⟨owns_turn ⟨hown.1, ?_⟩ hT7 hcl6, hmem⟩, fun j hj => ⟨(hO6 j hj).1, Nat.lt_of_lt_of_le (hO6 j hj).2 hT7.size⟩, hT.trans hT7 fun j _ e => e⟩
        rcases hown.2 with h2 | ⟨g, cp, cur, e1, e2, e3⟩
        · exact .inl h2
        · exact .inr ⟨g, cp, cur, e1, Nat.zero_le _, e3⟩)
      clear hown hT hmem hO6 hcl6 hT7 hRw HV
      go_wp2
      go_end0
      exact ⟨rfl, HF.out⟩
end Go.Proofs.Ytnbppfhnagacfaa
namespace Go.Proofs.Ytnbppfhnagacfaa
open Go.RowKit
set_option linter.unusedVariables false

theorem RMem.goD {F : Nat → Prop} {w w' : World} {c d g : Nat} {a : CA} {s s' : Sup} {Fc Fd : Nat → Prop} {lv sv wv sv' wv' : Value} {vs vs' : List Value} {x' : Dk} (M : RMem F w c d g a s Fc Fd lv sv wv vs) (hT : Turn (fun j => Fd j ∨ j = g) w w') (hd : RDk (grow Fd w w') w' d g x' sv' wv' vs') (hs : Blk w' g 65 s'.cells) (hok : s'.ok) :
    RMem (grow F w w') w' c d g { a with x := x', s := some s' } s' Fc (grow Fd w w') lv sv' wv' vs' :=
  have hn : ∀ j, Fc j → ¬ (Fd j ∨ j = g) := fun j hj e => by
    rcases e with e | rfl
    · exact M.ap j hj e
    · exact M.gc hj
  { blk := M.blk.turn hT (hn _ M.fc)
    row := M.row.turn hT fun j hj => hn _ (M.fl j hj)
    dk := hd
    sup := hs
    as_ := rfl
    ok := hok
    link := M.link
    hl := M.hl
    num := M.num
    fc := M.fc
    fl := M.fl
    ap := fun j hj e => by
      rcases e with e | e
      · exact M.ap j hj e
      · have := M.cl j hj; omega
    gc := M.gc
    gd := fun e => by
      rcases e with e | e
      · exact M.gd e
      · have := M.sup.lt; omega
    cl := fun j hj => Nat.lt_of_lt_of_le (M.cl j hj) hT.size
    sub := fun j hj => by
      rcases hj with hj | hj | hj
      · exact .inl (M.sub j (.inl hj))
      · exact .inl (M.sub j (.inr hj))
      · exact .inr hj
    flt := fun j hj => by
      rcases hj with hj | hj
      · exact Nat.lt_of_lt_of_le (M.flt j hj) hT.size
      · exact hj.2
    gF := fun e => by
      rcases e with e | e
      · exact M.gF e
      · have := M.sup.lt; omega }
theorem RMem.goC {F : Nat → Prop} {w w' : World} {c d g : Nat} {a a' : CA} {s : Sup} {Fc Fd : Nat → Prop} {lv lv' sv wv : Value} {vs : List Value} (M : RMem F w c d g a s Fc Fd lv sv wv vs) (hT : Turn (fun j => Fc j) w w')
    (hb : Blk w' c 61 #[.pointer (some ⟨d, 0, none⟩), .int .i64 a'.size, lv', .int .i64 a'.hits, .int .i64 a'.misses]) (hr : GRow w' lv' (ones a')) (hx : a'.x = a.x) (hs : a'.s = a.s) (hlk : Link a'.os a'.m) (hhl : ∀ k h, a'.m k = some h → h.b.length = 64 ∧ 0 ≤ h.pins ∧ h.pins ≤ 1000000)
    (hnum : 0 ≤ a'.hits ∧ a'.hits ≤ 1000000 ∧ 0 ≤ a'.misses ∧ a'.misses ≤ 1000000 ∧ a'.os.length ≤ 1000) (hfl : ∀ j, lv'.ownBlock = some j → Fc j ∨ (w.heap.size ≤ j ∧ j < w'.heap.size)) :
    RMem (grow F w w') w' c d g a' s (grow Fc w w') Fd lv' sv wv vs :=
  { blk := hb
    row := hr
    dk := by rw [hx]; exact M.dk.turn hT fun j hj e => M.ap j e hj
    sup := M.sup.turn hT M.gc
    as_ := by rw [hs]; exact M.as_
    ok := M.ok
    link := hlk
    hl := hhl
    num := hnum
    fc := .inl M.fc
    fl := hfl
    ap := fun j hj e => by
      rcases hj with hj | hj
      · exact M.ap j hj e
      · have := M.dk.lt j e; omega
    gc := fun e => by
      rcases e with e | e
      · exact M.gc e
      · have := M.sup.lt; omega
    gd := M.gd
    cl := fun j hj => by
      rcases hj with hj | hj
      · exact Nat.lt_of_lt_of_le (M.cl j hj) hT.size
      · exact hj.2
    sub := fun j hj => by
      rcases hj with (hj | hj) | hj
      · exact .inl (M.sub j (.inl hj))
      · exact .inr hj
      · exact .inl (M.sub j (.inr hj))
    flt := fun j hj => by
      rcases hj with hj | hj
      · exact Nat.lt_of_lt_of_le (M.flt j hj) hT.size
      · exact hj.2
    gF := fun e => by
      rcases e with e | e
      · exact M.gF e
      · have := M.sup.lt; omega }
/-- The footprints, joined. -/
theorem RMem.chain {F : Nat → Prop} {w1 wr w' : World} {c d g : Nat} {a : CA} {s : Sup} {Fc Fd : Nat → Prop} {lv sv wv : Value} {vs : List Value} (M : RMem (grow (grow F w1 wr) wr w') w' c d g a s Fc Fd lv sv wv vs) (hs : w1.heap.size ≤ wr.heap.size) (hs' : wr.heap.size ≤ w'.heap.size) (hF : ∀ j, F j → j < w1.heap.size) (hg : ¬ F g) (hgl : g < w1.heap.size) : RMem (grow F w1 w') w' c d g a s Fc Fd lv sv wv vs :=
  { M with
    sub := fun j hj => by
      rcases M.sub j hj with (h | h) | h
      · exact .inl h
      · exact .inr ⟨h.1, by omega⟩
      · exact .inr ⟨by omega, h.2⟩
    flt := fun j hj => by
      rcases hj with hj | hj
      · have := hF j hj; omega
      · exact hj.2
    gF := fun e => by
      rcases e with e | e
      · exact hg e
      · omega }
theorem RSt.chain {F : Nat → Prop} {w1 wr w' : World} {c d g : Nat} {a : CA} (h : RSt (grow (grow F w1 wr) wr w') w' c d g a) (hs : w1.heap.size ≤ wr.heap.size) (hs' : wr.heap.size ≤ w'.heap.size) (hF : ∀ j, F j → j < w1.heap.size) (hg : ¬ F g) (hgl : g < w1.heap.size) : RSt (grow F w1 w') w' c d g a := by
  obtain ⟨s, Fc, Fd, lv, sv, wv, vs, M⟩ := h
  exact ⟨s, Fc, Fd, lv, sv, wv, vs, M.chain hs hs' hF hg hgl⟩
theorem Turn.chainG {F : Nat → Prop} {w1 wr w' : World} {g : Nat} (h1 : Turn (fun j => F j ∨ j = g) w1 wr) (h2 : Turn (fun j => grow F w1 wr j ∨ j = g) wr w') : Turn (fun j => F j ∨ j = g) w1 w' :=
  h1.trans h2 fun j hj e => by
    rcases e with (e | e) | e
    · exact .inl e
    · omega
    · exact .inr e
theorem RSt.same {F : Nat → Prop} {w w' : World} {c d g : Nat} {a : CA} (h : RSt F w c d g a) (hT : Turn (fun _ => False) w w') : RSt (grow F w w') w' c d g a :=
  (h.turn hT (fun _ _ => id) id).mono (fun j hj => .inl hj) (fun j hj => by
    rcases hj with hj | hj
    · exact Nat.lt_of_lt_of_le (h.lt.1 j hj) hT.size
    · exact hj.2) fun e => by
    rcases e with e | e
    · exact h.lt.2.1 e
    · have := h.lt.2.2.1; omega
theorem slice_to (W : World) (g n cap k : Nat) (h : k ≤ cap) : (Instr.slice 59 (.slice (some ⟨g, 0, none⟩) n cap) none (some (.int .i64 (k : Int))) none).run Try.prog W = .ok (.slice (some ⟨g, 0, none⟩) k cap) W := by
  have h3 : (k : Int) ≤ (cap : Int) := by omega
  have h4 : (0 : Int) ≤ (k : Int) := by omega
  simp [Try.underlying59, go_sem, h3, h4]
theorem slice_from (W : World) (g n cap k : Nat) (h1 : k ≤ n) (h2 : n ≤ cap) : (Instr.slice 59 (.slice (some ⟨g, 0, none⟩) n cap) (some (.int .i64 (k : Int))) none none).run Try.prog W = .ok (.slice (some ⟨g, if cap = k then 0 else k * 67, none⟩) (n - k) (cap - k)) W := by
  have h3 : (k : Int) ≤ (n : Int) := by omega
  have h4 : (0 : Int) ≤ (k : Int) := by omega
  by_cases hc : cap = k
  · simp [Try.underlying59, go_sem, h3, h4, hc]
  · have : ¬ cap - k = 0 := by omega
    simp [Try.underlying59, go_sem, h3, h4, hc, this]
end Go.Proofs.Ytnbppfhnagacfaa
