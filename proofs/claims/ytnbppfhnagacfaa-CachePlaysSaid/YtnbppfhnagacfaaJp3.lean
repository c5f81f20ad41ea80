/- package scupperref13: room. -/
import Derived.Test.YtnbppfhnagacfaaJp2
import Derived.Test.YtnbppfhnagacfaaActs
namespace Go.Proofs.Ytnbppfhnagacfaa
open Go.RowKit Go.Proofs.YtnbppfhnagacfaaW.PrintLast
set_option linter.unusedVariables false
set_option linter.unusedSimpArgs false
attribute [local go_sem ↓] Go.wp_at_zero Go.wp_at_succ

theorem size91 : Try.zeroCells91.size = 67 := by rfl
theorem there91 (w : World) : Hid ((w.alloc (.cells Try.zeroCells91 91)).there w.heap.size 0 67) := there_of (Blk.new w 91 _) (by rw [size91]; exact Nat.le_refl _)
theorem wl_store91 {ops : Array Oper} {rest : List Oper} {op : Oper} {a : Act} {w : World} {Q : Exit → Act → World → Prop} {g o : Nat} {v : List Value} (h : Hid (w.there g o 67)) (hb : v.length = 67) (h1 : ∀ u ∈ v, u.oneCell' = true) (x y : Operand) (ho : op.op = .store 91 x y) (hgd : op.guard = none)
    (hx : a.eval x = .pointer (some ⟨g, o, none⟩)) (hy : a.eval y = .agg v.toArray) (hk : wpList Try.prog ops Q rest (a.put op.dst undef) (w.setCells g o v)) : wpList Try.prog ops Q (op :: rest) a w := by
  have hs : v.toArray.size = 67 := by rw [List.size_toArray, hb]
  refine wpList_store_mid hgd 91 x y ho g o v.toArray hx hy (by rw [hs]; exact h.out) (by rw [hs]; kernel_rfl) (all_oneCell_toArray h1) ?_
  rw [List.toList_toArray]
  exact hk
theorem new91 (w : World) (x : List Value) (hx : x.length = 67) : ∃ W', W' = (w.alloc (.cells Try.zeroCells91 91)).setCells w.heap.size 0 x ∧ Below w.heap.size w W' ∧ Blk W' w.heap.size 91 x.toArray ∧ W'.heap.size = w.heap.size + 1 := by
  refine ⟨_, rfl, new_set _ _ _ _, ?_, by rw [cells_size]; simp⟩
  have := Blk.patch x _ 0 (Blk.new w 91 Try.zeroCells91)
  rw [patch_full (by rw [size91, hx])] at this
  exact this
theorem oneC_at (i : Int) (h : Hd) (hb : h.b.length = 64) : (oneC i h)[0]? = some (.int .i64 i) ∧ (oneC i h)[65]? = some (.bool h.ch) ∧ (oneC i h)[66]? = some (.int .i64 h.pins) ∧ ∀ j v, (bytes h.b)[j]? = some v → (oneC i h)[1 + j]? = some v := by
  have hl : (bytes h.b).length = 64 := by rw [bytes_len]; exact hb
  unfold oneC
  refine ⟨rfl, ?_, ?_, fun j v hv => ?_⟩
  · rw [List.getElem?_cons_succ, List.getElem?_append_right (by omega), hl]; rfl
  · rw [List.getElem?_cons_succ, List.getElem?_append_right (by omega), hl]; rfl
  · rw [Nat.add_comm, List.getElem?_cons_succ, List.getElem?_append_left (List.getElem?_eq_some_iff.1 hv).1]; exact hv
theorem ones_one {a : CA} : ∀ q ∈ ones a, ∀ v ∈ q, v.oneCell' = true := fun q hq => by
  unfold ones at hq
  obtain ⟨i, -, rfl⟩ := List.mem_map.1 hq
  exact oneC_one _ _
theorem ones_erase {a : CA} {k : Nat} {i : Int} (hn : a.os.Nodup) (hk : a.os[k]? = some i) (m' : Int → Option Hd) (hm : ∀ q, q ≠ i → m' q = a.m q) (x : Dk) (s : Option Sup) : ones { a with os := a.os.erase i, m := m', x := x, s := s } = (ones a).eraseIdx k := by
  have e1 : (ones a).eraseIdx k = (a.os.erase i).map (oneA a) := by
    unfold ones
    rw [List.eraseIdx_eq_take_drop_succ, ← List.map_take, ← List.map_drop, ← List.map_append, ← List.eraseIdx_eq_take_drop_succ, erase_at hn hk]
  rw [e1]
  refine List.map_congr_left fun q hq => ?_
  have hne : q ≠ i := fun e => by
    rw [e] at hq
    exact (List.Nodup.mem_erase_iff hn).1 hq |>.1 rfl
  unfold oneA
  show oneC q ((m' q).getD hd0) = _
  rw [hm q hne]
theorem take_drop_flat (L : List (List Value)) (k : Nat) : (List.take k L).flatten ++ (List.drop (k + 1) L).flatten = (L.eraseIdx k).flatten := by
  rw [List.eraseIdx_eq_take_drop_succ, List.flatten_append]
/-- The reference's room, at the whole's state. -/
def roomA (a : CA) : CA := { a with os := (roomR a.size a.os a.m a.x a.s).os, m := (roomR a.size a.os a.m a.x a.s).m, x := (roomR a.size a.os a.m a.x a.s).x, s := (roomR a.size a.os a.m a.x a.s).s }
def roomC (a : CA) : Int := (roomR a.size a.os a.m a.x a.s).code
theorem room_small {a : CA} (h : (a.os.length : Int) < a.size) : roomA a = a ∧ roomC a = 0 := by
  unfold roomA roomC roomR
  rw [if_pos h]
  exact ⟨rfl, rfl⟩
theorem room_full {a : CA} (h : ¬ (a.os.length : Int) < a.size) (hv : vic a.os a.m = none) : roomA a = a ∧ roomC a = 4 := by
  unfold roomA roomC roomR roomV
  rw [if_neg h, hv]
  exact ⟨rfl, rfl⟩
theorem room_vic {a : CA} {i : Int} {hd : Hd} (h : ¬ (a.os.length : Int) < a.size) (hv : vic a.os a.m = some i) (hm : a.m i = some hd) :
    roomC a = (if hd.ch then codeO a.x a.s i else 0) ∧ roomA a = if (if hd.ch then codeO a.x a.s i else 0) = 0 then { a with os := a.os.erase i, m := delm a.m i, x := if hd.ch then a.x.write i hd.b else a.x, s := if hd.ch then supO a.x a.s i else a.s } else { a with s := if hd.ch then supO a.x a.s i else a.s } := by
  unfold roomA roomC roomR roomV
  rw [if_neg h, hv]
  simp only [hm, Option.getD_some]
  by_cases hc : (if hd.ch = true then codeO a.x a.s i else 0) = 0
  · rw [if_pos hc, if_pos hc]; exact ⟨hc.symm, rfl⟩
  · rw [if_neg hc, if_neg hc]; exact ⟨rfl, rfl⟩
theorem RMem.widen {F : Nat → Prop} {w1 wr w' : World} {c d g : Nat} {a : CA} {s : Sup} {Fc Fd : Nat → Prop} {lv sv wv : Value} {vs : List Value} (M : RMem (grow F wr w') w' c d g a s Fc Fd lv sv wv vs) (hs : w1.heap.size ≤ wr.heap.size) (hF : ∀ j, F j → j < w1.heap.size) (hg : ¬ F g) (hgl : g < w1.heap.size) : RMem (grow F w1 w') w' c d g a s Fc Fd lv sv wv vs :=
  { M with
    sub := fun j hj => (M.sub j hj).imp id fun e => ⟨by omega, e.2⟩
    flt := fun j hj => by
      rcases hj with hj | hj
      · exact M.flt j (.inl hj)
      · exact hj.2
    gF := fun e => by
      rcases e with e | e
      · exact hg e
      · omega }
theorem sS_ok {x : Dk} {s : Sup} {i : Int} (h : s.ok) (hu : s.used < 1000000000) : (sS x s i).ok := by
  unfold sS
  split
  · exact use_ok h hu
  · exact h
set_option maxRecDepth 100000 in
set_option maxHeartbeats 16000000 in
theorem rroom_any {F : Nat → Prop} {c d g : Nat} {a : CA} (w : World) (h : RSt F w c d g a) (hw : a.x.writes ≤ 1000000) (hus : ∀ s', a.s = some s' → s'.used < 1000000000) :
    Calls Try.prog 79 #[.pointer (some ⟨c, 0, none⟩)] w fun e w' => e = .returned (.int .i64 (roomC a)) ∧ RSt (grow F w w') w' c d g (roomA a) ∧ Turn (fun j => F j ∨ j = g) w w' := by
  obtain ⟨hFl, hgF, hgl, -⟩ := h.lt
  have HFl := Lib.hid hFl
  have HgF := Lib.hid hgF
  obtain ⟨s, Fc, Fd, lv, sv, wv, vs, M⟩ := h
  obtain ⟨rc, hrc⟩ : ∃ r, roomC a = r := ⟨_, rfl⟩
  obtain ⟨ra, hra⟩ : ∃ r, roomA a = r := ⟨_, rfl⟩
  rw [hrc, hra]
  obtain ⟨A, cp, rfl, hcp, hcm⟩ := M.row.shape
  have c1 := M.blk.cell 1
  have c2 := M.blk.cell 2
  simp [ones_len] at c1 c2
  rw [ones_len] at hcp
  have hln := M.num.2.2.2.2
  have HM := Lib.hid M
  have HLk := Lib.hid M.link
  have hS0 : w.drew.cell? ⟨c, 2, none⟩ = some (.slice A a.os.length cp) ∧ w.drew.cell? ⟨c, 1, none⟩ = some (.int .i64 a.size) := ⟨c2, c1⟩
  have hT0 : Turn (fun _ => False) w w.drew := Turn.of_below ((Below.refl _ _).drew)
  have HS0 := Lib.hid (show RSt (grow F w w.drew) w.drew c d g a from RSt.same ⟨s, Fc, Fd, _, sv, wv, vs, M⟩ hT0)
  have HM0 := Lib.hid (M.turn hT0 (fun _ _ => id) id)
  have hwd : w.drew.heap.size = w.heap.size := rfl
  have HW0 := Lib.hid (show ∀ W, Below w.heap.size w.drew W → Below w.heap.size w W from fun W h => ⟨h.os, h.tape, h.output, h.size, h.block⟩)
  have ew : IntKind.i64.wrap ((a.os.length : Int) - 1) = (a.os.length : Int) - 1 := IntWalk.i64_in _ (by omega) |>.trans rfl
  unfold maxLen at hcm
  clear M hT0 hFl hgF
  by_cases hsz : (a.os.length : Int) < a.size
  · have hd1 : decide ((a.os.length : Int) < a.size) = true := decide_eq_true hsz
    obtain ⟨e1, e2⟩ := room_small hsz
    have HE := Lib.hid (show ra = a ∧ rc = 0 from ⟨hra.symm.trans e1, hrc.symm.trans e2⟩)
    have HT := Lib.hid (show Turn (fun j => F j ∨ j = g) w w.drew from (Turn.refl _ _).drew)
    clear hra hrc e1 e2
    go_enter Try.func79, Try.ntmps79
    go_upto_region 1 with (fail)
    go_region_held3 (fun W => W.cell? ⟨c, 2, none⟩ = some (.slice A a.os.length cp) ∧ W.cell? ⟨c, 1, none⟩ = some (.int .i64 a.size))
      (exact hS0) (fail)
    go_wp2
    go_ret
    rw [HE.out.1, HE.out.2]
    exact ⟨rfl, HS0.out, HT.out⟩
  · have hd1 : decide ((a.os.length : Int) < a.size) = false := decide_eq_false hsz
    have HRC := Lib.hid hrc
    have HRA := Lib.hid hra
    have HSz := Lib.hid hsz
    clear hra hrc hsz
    go_enter Try.func79, Try.ntmps79
    go_upto_region 1 with (fail)
    go_region_held3 (fun W => W.cell? ⟨c, 2, none⟩ = some (.slice A a.os.length cp) ∧ W.cell? ⟨c, 1, none⟩ = some (.int .i64 a.size))
      (exact hS0) (fail)
    have c2' : w.drew.cell? ⟨c, 2, none⟩ = some (.slice A a.os.length cp) := c2
    clear hS0 c1 c2
    go_wp2_with fail
    go_loopw [3] (fun v wr => ∃ k : Nat, v = .int .i64 ((k : Int) - 1) ∧ k ≤ a.os.length ∧ Below w.heap.size w.drew wr ∧ Hid (∀ (j : Nat) (q : Int), k ≤ j → a.os[j]? = some q → pinB a.m q = true)) (fun v _ => (intOf v + 1).toNat)
    case atStart => exact ⟨a.os.length, rfl, Nat.le_refl _, Below.refl _ _, Lib.hid fun j q hj hq => by rw [List.getElem?_eq_none hj] at hq; cases hq⟩
    case round =>
      obtain ⟨k, rfl, hk, hbw, hpin⟩ := hrel
      clear c2'
      have HBr := Lib.hid (HW0.out _ hbw)
      have HMr := Lib.hid (HM.out.turn (S := fun _ => False) (Turn.of_below HBr.out) (fun _ _ => id) id)
      have c2 := HMr.out.blk.cell 2
      simp [ones_len] at c2
      have hsr := HBr.out.size
      cases k with
      | zero =>
        obtain ⟨e1, e2⟩ := room_full (show ¬ (a.os.length : Int) < a.size from by have := HSz.out; omega) (vic_none fun j q hq => hpin.out j q (Nat.zero_le _) hq)
        have HE := Lib.hid (show ra = a ∧ rc = 4 from ⟨HRA.out.symm.trans e1, HRC.out.symm.trans e2⟩)
        have HF := Lib.hid (show RSt (grow F w wr) wr c d g a ∧ Turn (fun j => F j ∨ j = g) w wr from
          ⟨RSt.same ⟨s, Fc, Fd, _, sv, wv, vs, HM.out⟩ (Turn.of_below HBr.out), Turn.of_below HBr.out⟩)
        rw [show (((0 : Nat) : Int) - 1) = -1 by omega]
        clear hpin hbw e1 e2
        go_wp2
        go_ret
        rw [HE.out.1, HE.out.2]
        exact ⟨rfl, HF.out⟩
      | succ k =>
        rw [show (((k + 1 : Nat) : Int) - 1) = (k : Int) by omega]
        obtain ⟨i, hi⟩ : ∃ i, a.os[k]? = some i := ⟨_, List.getElem?_eq_getElem (by omega)⟩
        have him : i ∈ a.os := List.mem_of_getElem? hi
        obtain ⟨hd, hm⟩ : ∃ hd, a.m i = some hd := Option.isSome_iff_exists.1 ((HLk.out.iff i).1 him)
        obtain ⟨gl, hA⟩ : ∃ gl, A = some ⟨gl, 0, none⟩ := by
          obtain ⟨gl, cl, hAe, -⟩ := HMr.out.row.form (by rw [ones_len]; omega)
          injection hAe with hA _ _
          exact ⟨gl, hA⟩
        subst hA
        obtain ⟨hb64, hpn0, hpn1⟩ := HM.out.hl i hd hm
        have hx67 := oneC_len i hd hb64
        have hx1 := oneC_one i hd
        have HRg := Lib.hid (show wr.rangeAt gl (k * 67) (oneC i hd) from HMr.out.row.range (k := k) (by rw [ones_at hi, oneA_some hm]))
        obtain ⟨o0, o65, o66, oB⟩ := oneC_at i hd hb64
        have hk0 : (0 : Int) ≤ (k : Int) := by omega
        have hk1 : (k : Int) < (a.os.length : Int) := by omega
        have ewk : IntKind.i64.wrap ((k : Int) - 1) = (k : Int) - 1 := IntWalk.i64_in _ (by omega) |>.trans rfl
        have HPin := Lib.hid (show pinB a.m i = decide (hd.pins > 0) ∧ ∀ (j : Nat) (q : Int), k < j → a.os[j]? = some q → pinB a.m q = true from ⟨by unfold pinB; rw [hm], fun j q hj hq => hpin.out j q hj hq⟩)
        clear hpin hbw
        go_upto_region 7 with (first | (refine wl_load91 HRg hx67 _ rfl rfl rfl ?_) | (refine wl_store91 (there91 _) hx67 hx1 _ _ rfl rfl rfl rfl ?_))
        obtain ⟨w5, hw5, hb5, hV5, hs5⟩ := new91 wr (oneC i hd) hx67
        rw [← hw5]
        obtain ⟨b5, hb5e⟩ : ∃ b5, b5 = wr.heap.size := ⟨_, rfl⟩
        rw [← hb5e] at hV5 ⊢
        have HV5 := Lib.hid hV5
        have HB5 := Lib.hid (HBr.out.trans (hb5.mono hsr))
        have v0 : w5.cell? ⟨b5, 0, none⟩ = some (.int .i64 i) := by rw [hV5.cell 0]; simpa using o0
        have v65 : w5.cell? ⟨b5, 65, none⟩ = some (.bool hd.ch) := by rw [hV5.cell 65]; simpa using o65
        have v66 : w5.cell? ⟨b5, 66, none⟩ = some (.int .i64 hd.pins) := by rw [hV5.cell 66]; simpa using o66
        have hR5 : w5.rangeAt b5 1 (bytes hd.b) := fun j v hv => by rw [hV5.cell (1 + j)]; simpa using oB j v hv
        have hb5l : w.heap.size ≤ b5 := by omega
        clear hw5 hb5 hV5 hb5e HRg o0 o65 o66 oB hx67 hx1 c2
        by_cases hpp : hd.pins > 0
        · have hdp : decide (0 < hd.pins) = true := decide_eq_true hpp
          have HP := Lib.hid (show ∀ (j : Nat) (q : Int), k ≤ j → a.os[j]? = some q → pinB a.m q = true from fun j q hj hq => by
            rcases Nat.lt_or_ge k j with h | h
            · exact HPin.out.2 j q h hq
            · obtain rfl : j = k := by omega
              rw [hi] at hq
              obtain rfl := Option.some.inj hq
              rw [HPin.out.1]
              exact decide_eq_true hpp)
          have HBd := Lib.hid (show Below w.heap.size w.drew w5 from ⟨HB5.out.os, HB5.out.tape, HB5.out.output, HB5.out.size, HB5.out.block⟩)
          clear hi hm
          go_wp2
          go_roundw
          case rel => exact ⟨k, rfl, by omega, HBd.out, HP⟩
          case measure => (first | (simp [intOf]; done) | (simp [intOf]; omega))
        · have hdp : decide (0 < hd.pins) = false := decide_eq_false hpp
          have hvic : vic a.os a.m = some i := vic_at hi (by rw [HPin.out.1]; exact decide_eq_false hpp) HPin.out.2
          obtain ⟨e1, e2⟩ := room_vic (show ¬ (a.os.length : Int) < a.size from by have := HSz.out; omega) hvic hm
          have HRC := Lib.hid (e1.symm.trans HRC.out)
          have HRA := Lib.hid (e2.symm.trans HRA.out)
          obtain ⟨oo, hoo⟩ : ∃ oo, (if cp = k + 1 then 0 else (k + 1) * 67) = oo := ⟨_, rfl⟩
          have HOo := Lib.hid hoo
          have HMw5 := Lib.hid (HM.out.turn (S := fun _ => False) (Turn.of_below HB5.out) (fun _ _ => id) id)
          have hnd := HLk.out.nd
          clear hoo e1 e2 hvic
          obtain ⟨bb, ch, pins⟩ := hd
          simp only at v65 v66 hR5 hb64 HRC HRA hdp hpn0 hpn1 hpp
          cases ch with
          | false =>
            simp only [Bool.false_eq_true, if_false, if_true] at HRC HRA
            have HOe := Lib.hid (show ones { a with os := a.os.erase i, m := delm a.m i, x := a.x, s := a.s } = (ones a).eraseIdx k from ones_erase hnd hi (delm a.m i) (fun q hq => by unfold delm; rw [if_neg hq]) a.x a.s)
            have HMz := HMw5
            have HTz := Lib.hid (show Turn (fun j => F j ∨ j = g) w w5 from Turn.of_below HB5.out)
            have hwz : w.heap.size ≤ w5.heap.size := HB5.out.size
            generalize w5 = wz at *
            obtain ⟨i0, z0, hi0, hz0, hz1, hz2, hz3⟩ := info91
            have hol : ∀ q ∈ ones a, q.length = 67 := HMz.out.row.2
            have hon := ones_len a
            have HK := Lib.hid (show ∀ W, Below wz.heap.size wz W → W.cell? ⟨c, 2, none⟩ = some (.slice (some ⟨gl, 0, none⟩) a.os.length cp) ∧ (∀ j u, (List.take k (ones a)).flatten[j]? = some u → W.cell? ⟨gl, j, none⟩ = some u) ∧ (∀ j u, (List.drop (k + 1) (ones a)).flatten[j]? = some u → W.cell? ⟨gl, oo + j, none⟩ = some u) from fun W hW => by
              have hT := Turn.of_below (S := fun _ => False) hW
              have hB' := HMz.out.blk.turn hT id
              have hR' : GRow W (.slice (some ⟨gl, 0, none⟩) (ones a).length cp) (ones a) := HMz.out.row.turn hT fun _ _ => id
              have hfl := fl_len hol
              refine ⟨by have := hB'.cell 2; simpa [hon] using this, fun j u hu => ?_, fun j u hu => ?_⟩
              · have hj := (List.getElem?_eq_some_iff.1 hu).1
                have htl : (List.take k (ones a)).flatten.length = k * 67 := by
                  rw [fl_len fun q hq => hol q (List.mem_of_mem_take hq), List.length_take, hon, Nat.min_eq_left (by omega)]
                have hc := World.ownsRow.cellAt hR'.1 j (by rw [hon]; omega)
                rw [hc]
                have e : (ones a).flatten = (List.take k (ones a)).flatten ++ (List.drop k (ones a)).flatten := by rw [← List.flatten_append, List.take_append_drop]
                show (ones a).flatten[j]? = some u
                rw [e, List.getElem?_append_left hj]
                exact hu
              · have hj := (List.getElem?_eq_some_iff.1 hu).1
                have hdl : (List.drop (k + 1) (ones a)).flatten.length = (a.os.length - (k + 1)) * 67 := by
                  rw [fl_len fun q hq => hol q (List.mem_of_mem_drop hq), List.length_drop, hon]
                have htl : (List.take (k + 1) (ones a)).flatten.length = (k + 1) * 67 := by
                  rw [fl_len fun q hq => hol q (List.mem_of_mem_take hq), List.length_take, hon, Nat.min_eq_left (by omega)]
                have ho : oo = (k + 1) * 67 := by
                  rw [← HOo.out, if_neg (by omega)]
                have hc := World.ownsRow.cellAt hR'.1 (oo + j) (by rw [hon]; omega)
                rw [hc]
                have e : (ones a).flatten = (List.take (k + 1) (ones a)).flatten ++ (List.drop (k + 1) (ones a)).flatten := by rw [← List.flatten_append, List.take_append_drop]
                show (ones a).flatten[oo + j]? = some u
                rw [e, List.getElem?_append_right (by omega), htl, show oo + j - (k + 1) * 67 = j by omega]
                exact hu)
            have HFz := Lib.hid (show ∀ W, Below wz.heap.size wz W → W.frozen? ⟨c, 2, none⟩ = false from fun W hW => (HMz.out.blk.turn (Turn.of_below (S := fun _ => False) hW) id).frozen 2)
            have hl1 : (List.take k (ones a)).flatten.length = k * 67 := by
              rw [fl_len fun q hq => hol q (List.mem_of_mem_take hq), List.length_take, hon, Nat.min_eq_left (by omega)]
            have hl2 : (List.drop (k + 1) (ones a)).flatten.length = (a.os.length - (k + 1)) * 67 := by
              rw [fl_len fun q hq => hol q (List.mem_of_mem_drop hq), List.length_drop, hon]
            have ho1 : ∀ u ∈ (List.take k (ones a)).flatten, u.oneCell' = true := fun u hu => by
              obtain ⟨q, hq, hu⟩ := List.mem_flatten.1 hu
              exact ones_one q (List.mem_of_mem_take hq) u hu
            have ho2 : ∀ u ∈ (List.drop (k + 1) (ones a)).flatten, u.oneCell' = true := fun u hu => by
              obtain ⟨q, hq, hu⟩ := List.mem_flatten.1 hu
              exact ones_one q (List.mem_of_mem_drop hq) u hu
            have hnm : k + (a.os.length - (k + 1)) = a.os.length - 1 := by omega
            have h631 : 0 + k ≤ maxLen := by unfold maxLen; omega
            have hby1 : (0 + k) * 88 ≤ 140737488355328 := by omega
            have h632 : k + (a.os.length - (k + 1)) ≤ maxLen := by unfold maxLen; omega
            have hby2 : (k + (a.os.length - (k + 1))) * 88 ≤ 140737488355328 := by omega
            have hcz : c < wz.heap.size := HMz.out.blk.lt
            have hkc : k ≤ cp := by omega
            have hks : (0 : Int) ≤ (k : Int) + 1 := by omega
            have hke : (k : Int) + 1 ≤ (a.os.length : Int) := by omega
            have hoo : (if cp = k + 1 then some (⟨gl, 0, none⟩ : Addr) else some ⟨gl, (k + 1) * 67, none⟩) = some ⟨gl, oo, none⟩ := by rw [← HOo.out]; split <;> rfl
            have ewk1 : IntKind.i64.wrap ((k : Int) + 1) = (k : Int) + 1 := IntWalk.i64_in _ (by omega) |>.trans rfl
            clear hol hon
            go_upto_region 12 with (fail)
            have hB : Below wz.heap.size wz wz.drew := (Below.refl _ _).drew
            refine start_ (n := 20) (S := fun w' => w'.cell? ⟨c, 2, none⟩ = some (.slice (some ⟨gl, 0, none⟩) a.os.length cp)) (ds := [19]) #[false, false, false, false, false, false, false, false, false, false, false, false, false, false, false, false, false, false, false, false] (by kernel_rfl) rfl rfl ((HK.out _ hB).1) (fun hHeld => ?_)
            refine pure_ (i := 0) (N := some 50) (v := ?_) (a' := ?_) #[true, false, false, false, false, false, false, false, false, false, false, false, false, false, false, false, false, false, false, false] rfl rfl (by kernel_rfl) (fun _ _ _ h => h) (Or.inl ⟨by rfl, ?_⟩) ?_ ?_
            rotate_left
            · intro w'
              go_simp
              with_reducible rfl
            rotate_left
            · simp only [Act.put, List.setIfInBounds_toArray, List.set_cons_zero, List.set_cons_succ, i64_w, i32_w]
              rfl
            refine pure_ (i := 2) (N := some 52) (v := ?_) (a' := ?_) #[true, false, true, false, false, false, false, false, false, false, false, false, false, false, false, false, false, false, false, false] rfl rfl (by kernel_rfl) (fun _ _ _ h => h) (Or.inl ⟨by rfl, ?_⟩) ?_ ?_
            rotate_left
            · intro w'
              go_simp
              with_reducible rfl
            rotate_left
            · simp only [Act.put, List.setIfInBounds_toArray, List.set_cons_zero, List.set_cons_succ, i64_w, i32_w]
              rfl
            refine pure_ (i := 3) (N := some 53) (v := ?_) (a' := ?_) #[true, false, true, true, false, false, false, false, false, false, false, false, false, false, false, false, false, false, false, false] rfl rfl (by kernel_rfl) (fun _ _ _ h => h) (Or.inl ⟨by rfl, ?_⟩) ?_ ?_
            rotate_left
            · intro w'
              go_simp
              with_reducible rfl
            rotate_left
            · simp only [Act.put, List.setIfInBounds_toArray, List.set_cons_zero, List.set_cons_succ, i64_w, i32_w]
              rfl
            refine pure_ (i := 4) (N := some 54) (v := ?_) (a' := ?_) #[true, false, true, true, true, false, false, false, false, false, false, false, false, false, false, false, false, false, false, false] rfl rfl (by kernel_rfl) (fun _ _ _ h => h) (Or.inl ⟨by rfl, ?_⟩) ?_ ?_
            rotate_left
            · intro w'
              go_simp
              with_reducible rfl
            rotate_left
            · simp only [Act.put, List.setIfInBounds_toArray, List.set_cons_zero, List.set_cons_succ, i64_w, i32_w]
              rfl
            refine pure_ (i := 6) (N := some 56) (v := ?_) (a' := ?_) #[true, false, true, true, true, false, true, false, false, false, false, false, false, false, false, false, false, false, false, false] rfl rfl (by kernel_rfl) (fun _ _ _ h => h) (Or.inl ⟨by rfl, ?_⟩) ?_ ?_
            rotate_left
            · intro w'
              go_simp
              with_reducible rfl
            rotate_left
            · simp only [Act.put, List.setIfInBounds_toArray, List.set_cons_zero, List.set_cons_succ, i64_w, i32_w]
              rfl
            refine pure_ (i := 9) (N := some 59) (v := ?_) (a' := ?_) #[true, false, true, true, true, false, true, false, false, true, false, false, false, false, false, false, false, false, false, false] rfl rfl (by kernel_rfl) (fun _ _ _ h => h) (Or.inl ⟨by rfl, ?_⟩) ?_ ?_
            rotate_left
            · intro w'
              go_simp
              with_reducible rfl
            rotate_left
            · simp only [Act.put, List.setIfInBounds_toArray, List.set_cons_zero, List.set_cons_succ, i64_w, i32_w]
              rfl
            refine pure_ (i := 10) (N := some 60) (v := ?_) (a' := ?_) #[true, false, true, true, true, false, true, false, false, true, true, false, false, false, false, false, false, false, false, false] rfl rfl (by kernel_rfl) (fun _ _ _ h => h) (Or.inl ⟨by rfl, ?_⟩) ?_ ?_
            rotate_left
            · intro w'
              go_simp
              with_reducible rfl
            rotate_left
            · simp only [Act.put, List.setIfInBounds_toArray, List.set_cons_zero, List.set_cons_succ, i64_w, i32_w]
              rfl
            refine pure_ (i := 11) (N := some 61) (v := ?_) (a' := ?_) #[true, false, true, true, true, false, true, false, false, true, true, true, false, false, false, false, false, false, false, false] rfl rfl (by kernel_rfl) (fun _ _ _ h => h) (Or.inl ⟨by rfl, ?_⟩) ?_ ?_
            rotate_left
            · intro w'
              go_simp
              with_reducible rfl
            rotate_left
            · simp only [Act.put, List.setIfInBounds_toArray, List.set_cons_zero, List.set_cons_succ, i64_w, i32_w]
              rfl
            refine pure_ (i := 13) (N := some 63) (v := ?_) (a' := ?_) #[true, false, true, true, true, false, true, false, false, true, true, true, false, true, false, false, false, false, false, false] rfl rfl (by kernel_rfl) (fun _ _ _ h => h) (Or.inl ⟨by rfl, ?_⟩) ?_ ?_
            rotate_left
            · intro w'
              go_simp
              with_reducible rfl
            rotate_left
            · simp only [Act.put, List.setIfInBounds_toArray, List.set_cons_zero, List.set_cons_succ, i64_w, i32_w]
              rfl
            refine pure_ (i := 14) (N := some 64) (v := ?_) (a' := ?_) #[true, false, true, true, true, false, true, false, false, true, true, true, false, true, true, false, false, false, false, false] rfl rfl (by kernel_rfl) (fun _ _ _ h => h) (Or.inl ⟨by rfl, ?_⟩) ?_ ?_
            rotate_left
            · intro w'
              go_simp
              with_reducible rfl
            rotate_left
            · simp only [Act.put, List.setIfInBounds_toArray, List.set_cons_zero, List.set_cons_succ, i64_w, i32_w]
              rfl
            refine take_ (i := 5) (N := some 55) (v := ?_) (a' := ?_) #[true, false, true, true, true, true, true, false, false, true, true, true, false, true, true, false, false, false, false, false] rfl rfl (by kernel_rfl) (fun _ _ _ h => h) (Or.inl ⟨by rfl, ?_⟩) hHeld ?_ ?_
            rotate_left
            · intro w' s0
              go_simp
              with_reducible rfl
            rotate_left
            · simp only [Act.put, List.setIfInBounds_toArray, List.set_cons_zero, List.set_cons_succ, i64_w, i32_w]
              rfl
            refine pure_ (i := 7) (N := some 57) (v := ?_) (a' := ?_) #[true, false, true, true, true, true, true, true, false, true, true, true, false, true, true, false, false, false, false, false] rfl rfl (by kernel_rfl) (fun _ _ _ h => h) (Or.inl ⟨by rfl, ?_⟩) ?_ ?_
            rotate_left
            · intro w'
              go_simp
              with_reducible rfl
            rotate_left
            · simp only [Act.put, List.setIfInBounds_toArray, List.set_cons_zero, List.set_cons_succ, i64_w, i32_w]
              rfl
            refine take_ (i := 12) (N := some 62) (v := ?_) (a' := ?_) #[true, false, true, true, true, true, true, true, false, true, true, true, true, true, true, false, false, false, false, false] rfl rfl (by kernel_rfl) (fun _ _ _ h => h) (Or.inl ⟨by rfl, ?_⟩) hHeld ?_ ?_
            rotate_left
            · intro w' s0
              go_simp
              with_reducible rfl
            rotate_left
            · simp only [Act.put, List.setIfInBounds_toArray, List.set_cons_zero, List.set_cons_succ, i64_w, i32_w]
              rfl
            refine pure_ (i := 15) (N := some 65) (v := ?_) (a' := ?_) #[true, false, true, true, true, true, true, true, false, true, true, true, true, true, true, true, false, false, false, false] rfl rfl (by kernel_rfl) (fun _ _ _ h => h) (Or.inl ⟨by rfl, ?_⟩) ?_ ?_
            rotate_left
            · intro w'
              go_simp
              with_reducible rfl
            rotate_left
            · simp only [Act.put, List.setIfInBounds_toArray, List.set_cons_zero, List.set_cons_succ, i64_w, i32_w]
              rfl
            refine one_ (i := 1) (N := some 51) #[true, true, true, true, true, true, true, true, false, true, true, true, true, true, true, true, false, false, false, false] rfl rfl (by kernel_rfl) (by decide) (fun K hK => ?_)
            refine step_mk0 59 91 i0 z0 Try.underlying59 hi0 hz0 rfl rfl ?_
            intro g5 W5 hg5 hW5
            have hE : W5.ownsRow wz.heap.size 91 67 (.slice (some ⟨g5, 0, none⟩) 0 0) 0 [] := by rw [hW5, hg5]; exact owns_mk0 _ _ _ _ hB.size
            have hgb5 : wz.heap.size ≤ g5 := by rw [hg5]; exact hB.size
            have hB : Below wz.heap.size wz W5 := by rw [hW5]; exact bel_alloc hB _
            clear hg5 hW5
            refine hK.out _ _ ((HK.out _ hB).1) (fun hHeld => ?_)
            clear hK K
            refine norm_ (a' := ?_) ?_ ?_
            rotate_left
            · show Act.put _ (some 51) _ = _
              simp only [Act.put, List.setIfInBounds_toArray, List.set_cons_zero, List.set_cons_succ, i64_w, i32_w]
              rfl
            refine one_ (i := 8) (N := some 58) #[true, true, true, true, true, true, true, true, true, true, true, true, true, true, true, true, false, false, false, false] rfl rfl (by kernel_rfl) (by decide) (fun K hK => ?_)
            refine step_append_some rfl (.tmp 51) (.tmp 57) 59 rfl wz.heap.size 91 i0 z0 67 88 Try.underlying59 hi0 hz0 hz1 hz2 hz3 (by decide) g5 0 0 [] rfl hE (some ⟨gl, 0, none⟩) k cp (List.take k (ones a)).flatten rfl hl1 (fun h => by cases h) (fun ad had j u hu => by
              obtain rfl := Option.some.inj had
              rw [Addr.add_mid, Nat.zero_add]
              exact (HK.out _ hB).2.1 j u hu) ho1 _ (Nat.zero_add _) h631 hby1 hB.size ?_
            intro g8 cap8 W8 hO hg8 hat8 hlt8
            have hO : W8.ownsRow wz.heap.size 91 67 (.slice (some ⟨g8, 0, none⟩) k cap8) k (List.take k (ones a)).flatten := hO
            have hgb8 : wz.heap.size ≤ g8 := by
              rcases hat8 with e | e
              · rw [← e]; exact hgb5
              · rw [e]; exact hB.size
            have hB : Below wz.heap.size wz W8 := bel_grown hB hg8 hgb5
            clear hE hg8 hat8 hlt8
            refine hK.out _ _ ((HK.out _ hB).1) (fun hHeld => ?_)
            clear hK K
            refine norm_ (a' := ?_) ?_ ?_
            rotate_left
            · show Act.put _ (some 58) _ = _
              simp only [Act.put, List.setIfInBounds_toArray, List.set_cons_zero, List.set_cons_succ, i64_w, i32_w]
              rfl
            refine one_ (i := 16) (N := some 66) #[true, true, true, true, true, true, true, true, true, true, true, true, true, true, true, true, true, false, false, false] rfl rfl (by kernel_rfl) (by decide) (fun K hK => ?_)
            refine step_append_some rfl (.tmp 58) (.tmp 65) 59 rfl wz.heap.size 91 i0 z0 67 88 Try.underlying59 hi0 hz0 hz1 hz2 hz3 (by decide) g8 cap8 k (List.take k (ones a)).flatten rfl hO (some ⟨gl, oo, none⟩) (a.os.length - (k + 1)) (cp - (k + 1)) (List.drop (k + 1) (ones a)).flatten rfl hl2 (fun h => by cases h) (fun ad had j u hu => by
              obtain rfl := Option.some.inj had
              rw [Addr.add_mid]
              exact (HK.out _ hB).2.2 j u hu) ho2 _ hnm h632 hby2 hB.size ?_
            intro g16 cap16 W16 hO16 hg16 hat16 hlt16
            have hgb16 : wz.heap.size ≤ g16 := by
              rcases hat16 with e | e
              · rw [← e]; exact hgb8
              · rw [e]; exact hB.size
            have hB : Below wz.heap.size wz W16 := bel_grown hB hg16 hgb8
            clear hO hg16 hat16
            refine hK.out _ _ ((HK.out _ hB).1) (fun hHeld => ?_)
            clear hK K
            refine norm_ (a' := ?_) ?_ ?_
            rotate_left
            · show Act.put _ (some 66) _ = _
              simp only [Act.put, List.setIfInBounds_toArray, List.set_cons_zero, List.set_cons_succ, i64_w, i32_w]
              rfl
            refine pure_ (i := 17) (N := some 67) (v := ?_) (a' := ?_) #[true, true, true, true, true, true, true, true, true, true, true, true, true, true, true, true, true, true, false, false] rfl rfl (by kernel_rfl) (fun _ _ _ h => h) (Or.inl ⟨by rfl, ?_⟩) ?_ ?_
            rotate_left
            · intro w'
              go_simp
              with_reducible rfl
            rotate_left
            · simp only [Act.put, List.setIfInBounds_toArray, List.set_cons_zero, List.set_cons_succ, i64_w, i32_w]
              rfl
            refine pure_ (i := 18) (N := some 68) (v := ?_) (a' := ?_) #[true, true, true, true, true, true, true, true, true, true, true, true, true, true, true, true, true, true, true, false] rfl rfl (by kernel_rfl) (fun _ _ _ h => h) (Or.inl ⟨by rfl, ?_⟩) ?_ ?_
            rotate_left
            · intro w'
              go_simp
              with_reducible rfl
            rotate_left
            · simp only [Act.put, List.setIfInBounds_toArray, List.set_cons_zero, List.set_cons_succ, i64_w, i32_w]
              rfl
            refine last_ (i := 19) (N := none) #[true, true, true, true, true, true, true, true, true, true, true, true, true, true, true, true, true, true, true, true] rfl rfl (by kernel_rfl) (by decide) (fun K hK => ?_)
            have hcw := (HK.out _ hB).1
            have hfz := HFz.out _ hB
            refine skip_ (w1 := ?_) (by rfl) rfl ?_ ?_
            rotate_left
            · go_simp
              rfl
            refine hK.out _ _ ?_
            clear hK K
            refine done_ (by kernel_rfl) ?_


            have hTz : Turn (fun j => Fc j) wz (W16.setCell ⟨c, 2, none⟩ (.slice (some ⟨g16, 0, none⟩) (a.os.length - 1) cap16)) := (Turn.of_below hB).setCell (p := ⟨c, 2, none⟩) (fun _ => HMz.out.fc) _
            have hTcc : Turn (fun j => j = c) W16 (W16.setCell ⟨c, 2, none⟩ (.slice (some ⟨g16, 0, none⟩) (a.os.length - 1) cap16)) := (Turn.refl (fun j => j = c) W16).setCell (p := ⟨c, 2, none⟩) (fun _ => rfl) _
            have hBz := (HMz.out.blk.turn (Turn.of_below (S := fun _ => False) hB) id).set_ 2 (.slice (some ⟨g16, 0, none⟩) (a.os.length - 1) cap16)
            have hlen : ((ones a).eraseIdx k).length = a.os.length - 1 := by rw [List.length_eraseIdx, ones_len, if_pos (by omega)]
            have hg16 := (World.ownsRow.lt hO16 g16 rfl).2
            have hRz : GRow (W16.setCell ⟨c, 2, none⟩ (.slice (some ⟨g16, 0, none⟩) (a.os.length - 1) cap16)) (.slice (some ⟨g16, 0, none⟩) (a.os.length - 1) cap16) ((ones a).eraseIdx k) := by
              refine ⟨?_, fun q hq => HMz.out.row.2 q (List.mem_of_mem_eraseIdx hq)⟩
              rw [hlen, ← take_drop_flat]
              have h1 := owns_turn hO16 hTcc fun j hj e => by
                have : g16 = j := Option.some.inj hj
                omega
              refine ⟨h1.1, ?_⟩
              rcases h1.2 with h2 | ⟨g, cq, cur, e1, e2, e3⟩
              · exact .inl h2
              · exact .inr ⟨g, cq, cur, e1, Nat.zero_le _, e3⟩
            have hszc := hTcc.size
            have HF := Lib.hid (show RSt (grow F w (W16.setCell ⟨c, 2, none⟩ (.slice (some ⟨g16, 0, none⟩) (a.os.length - 1) cap16))) (W16.setCell ⟨c, 2, none⟩ (.slice (some ⟨g16, 0, none⟩) (a.os.length - 1) cap16)) c d g ra ∧ Turn (fun j => F j ∨ j = g) w (W16.setCell ⟨c, 2, none⟩ (.slice (some ⟨g16, 0, none⟩) (a.os.length - 1) cap16)) from by
              rw [← HRA.out]
              have hM := HMz.out.goC (a' := { a with os := a.os.erase i, m := delm a.m i, x := a.x, s := a.s }) hTz hBz (by rw [HOe.out]; exact hRz) rfl rfl (HLk.out.erase i) (fun q hq hm => by
                  have hm' : delm a.m i q = some hq := hm
                  unfold delm at hm'
                  split at hm'
                  · cases hm'
                  · exact HM.out.hl q hq hm') (by
                  have h9 := HM.out.num
                  have h8 : (a.os.erase i).length ≤ a.os.length := List.length_erase_le
                  exact ⟨h9.1, h9.2.1, h9.2.2.1, h9.2.2.2.1, by show (a.os.erase i).length ≤ 1000; omega⟩) (fun j hj => by
                  have : g16 = j := Option.some.inj hj
                  exact .inr ⟨by omega, by omega⟩)
              exact ⟨⟨_, _, _, _, _, _, _, RMem.widen hM hwz HFl.out HgF.out hgl⟩, HTz.out.trans hTz fun j hj e => .inl (HM.out.sub j (.inl e))⟩)
            clear hTz hTcc hBz hRz hO16 hB hHeld hcw hfz hkc hks hke hoo HK HFz
            go_wp2_with fail
            go_ret
            exact ⟨by rw [← HRC.out]; first | rfl | simp, HF.out⟩
          | true =>
            simp only [if_true] at HRC HRA
            have has := HM.out.as_
            rw [has, sS_supO] at HRA
            rw [has] at HRC
            have HRA := HRA
            have hdr : Turn (fun _ => False) w5 w5.drew := Turn.of_below ((Below.refl _ _).drew)
            have hMd := HMw5.out.turn hdr (fun _ _ => id) id
            have c0 := hMd.blk.cell 0
            simp at c0
            have hFb : ¬ (Fd b5 ∨ b5 = g) := fun e => by
              rcases e with e | e
              · have := HFl.out b5 (HM.out.sub b5 (.inr e)); omega
              · omega
            have HWr := Lib.hid (rwrite_any i bb w5.drew hMd.dk hMd.sup hMd.gd hMd.ok hb64 (by exact hw))
            have HMd := Lib.hid hMd
            have hS0 : w5.drew.cell? ⟨c, 0, none⟩ = some (.pointer (some ⟨d, 0, none⟩)) ∧ w5.drew.cell? ⟨b5, 0, none⟩ = some (.int .i64 i) ∧ w5.drew.rangeAt b5 1 (bytes bb) := ⟨c0, v0, hR5⟩
            have HFd := Lib.hid hFb
            have hu32 := Try.underlying32
            have hi32 : (Try.prog.info? 32).map (fun i => i.size) = some (bytes bb).length := by rw [bytes_len, hb64]; kernel_rfl
            have hsz64 : (bytes bb).length = 64 := by rw [bytes_len]; exact hb64
            clear hMd hdr hFb c0
            go_upto_region 9 with (fail)
            go_region_held3 (fun W => W.cell? ⟨c, 0, none⟩ = some (.pointer (some ⟨d, 0, none⟩)) ∧ W.cell? ⟨b5, 0, none⟩ = some (.int .i64 i) ∧ W.rangeAt b5 1 (bytes bb))
              (first | exact hS0 | exact hS1)
              (first
                | (go_at_call 62
                   refine HWr.out.mono ?_
                   rintro e w6 ⟨rfl, hG6, ⟨vs6, hD6⟩, hT6⟩
                   have hM6 := HMd.out.goD hT6 hD6 hG6 (by exact sS_ok HMd.out.ok (hus s has))
                   have hV6 : Blk w6 b5 91 _ := (HV5.out.drew).turn hT6 HFd.out
                   have hS1 : w6.cell? ⟨c, 0, none⟩ = some (.pointer (some ⟨d, 0, none⟩)) ∧ w6.cell? ⟨b5, 0, none⟩ = some (.int .i64 i) ∧ w6.rangeAt b5 1 (bytes bb) := ⟨by have := hM6.blk.cell 0; simpa using this, by rw [hV6.cell 0]; rfl, fun j v hv => by rw [hV6.cell (1 + j)]; simpa using (oneC_at i ⟨bb, true, pins⟩ hb64).2.2.2 j v hv⟩
                   have HM6 := Lib.hid hM6
                   have HT6 := Lib.hid hT6
                   have hs6 := hT6.size
                   clear hG6 hD6 hT6 hM6 hV6))
            clear hS0 hS1 hu32 hi32 hsz64 HWr v0 v65 v66 hR5
            have hw5s := HB5.out.size
            have hw5d : w5.drew.heap.size = w5.heap.size := rfl
            have HMy := Lib.hid (HM6.out.widen (w1 := w) (by omega) HFl.out HgF.out hgl)
            have HTz := Lib.hid (show Turn (fun j => F j ∨ j = g) w w6 from (Turn.of_below (S := fun j => F j ∨ j = g) HB5.out).trans (show Turn (fun j => Fd j ∨ j = g) w5 w6 from ⟨HT6.out.os, HT6.out.tape, HT6.out.output, HT6.out.size, HT6.out.block⟩) fun j hj e => e.imp (fun e => HM.out.sub j (.inr e)) id)
            have hwz : w.heap.size ≤ w6.heap.size := HTz.out.size
            clear HM6 HT6 hs6 HMd HMw5 HV5
            generalize hcd : codeO a.x (some s) i = cd at *
            clear hcd
            by_cases hc : cd = 0
            · subst hc
              rw [if_pos rfl] at HRA
              have HMz := Lib.hid (show RMem (grow F w w6) w6 c d g { a with x := a.x.write i bb, s := some (sS a.x s i) } _ _ _ _ _ _ _ from HMy.out)
              have HOe := Lib.hid (show ones { a with os := a.os.erase i, m := delm a.m i, x := a.x.write i bb, s := some (sS a.x s i) } = (ones a).eraseIdx k from ones_erase hnd hi (delm a.m i) (fun q hq => by unfold delm; rw [if_neg hq]) _ _)
              generalize w6 = wz at *
              obtain ⟨i0, z0, hi0, hz0, hz1, hz2, hz3⟩ := info91
              have hol : ∀ q ∈ ones a, q.length = 67 := HMz.out.row.2
              have hon := ones_len a
              have HK := Lib.hid (show ∀ W, Below wz.heap.size wz W → W.cell? ⟨c, 2, none⟩ = some (.slice (some ⟨gl, 0, none⟩) a.os.length cp) ∧ (∀ j u, (List.take k (ones a)).flatten[j]? = some u → W.cell? ⟨gl, j, none⟩ = some u) ∧ (∀ j u, (List.drop (k + 1) (ones a)).flatten[j]? = some u → W.cell? ⟨gl, oo + j, none⟩ = some u) from fun W hW => by
                have hT := Turn.of_below (S := fun _ => False) hW
                have hB' := HMz.out.blk.turn hT id
                have hR' : GRow W (.slice (some ⟨gl, 0, none⟩) (ones a).length cp) (ones a) := HMz.out.row.turn hT fun _ _ => id
                have hfl := fl_len hol
                refine ⟨by have := hB'.cell 2; simpa [hon] using this, fun j u hu => ?_, fun j u hu => ?_⟩
                · have hj := (List.getElem?_eq_some_iff.1 hu).1
                  have htl : (List.take k (ones a)).flatten.length = k * 67 := by
                    rw [fl_len fun q hq => hol q (List.mem_of_mem_take hq), List.length_take, hon, Nat.min_eq_left (by omega)]
                  have hc := World.ownsRow.cellAt hR'.1 j (by rw [hon]; omega)
                  rw [hc]
                  have e : (ones a).flatten = (List.take k (ones a)).flatten ++ (List.drop k (ones a)).flatten := by rw [← List.flatten_append, List.take_append_drop]
                  show (ones a).flatten[j]? = some u
                  rw [e, List.getElem?_append_left hj]
                  exact hu
                · have hj := (List.getElem?_eq_some_iff.1 hu).1
                  have hdl : (List.drop (k + 1) (ones a)).flatten.length = (a.os.length - (k + 1)) * 67 := by
                    rw [fl_len fun q hq => hol q (List.mem_of_mem_drop hq), List.length_drop, hon]
                  have htl : (List.take (k + 1) (ones a)).flatten.length = (k + 1) * 67 := by
                    rw [fl_len fun q hq => hol q (List.mem_of_mem_take hq), List.length_take, hon, Nat.min_eq_left (by omega)]
                  have ho : oo = (k + 1) * 67 := by
                    rw [← HOo.out, if_neg (by omega)]
                  have hc := World.ownsRow.cellAt hR'.1 (oo + j) (by rw [hon]; omega)
                  rw [hc]
                  have e : (ones a).flatten = (List.take (k + 1) (ones a)).flatten ++ (List.drop (k + 1) (ones a)).flatten := by rw [← List.flatten_append, List.take_append_drop]
                  show (ones a).flatten[oo + j]? = some u
                  rw [e, List.getElem?_append_right (by omega), htl, show oo + j - (k + 1) * 67 = j by omega]
                  exact hu)
              have HFz := Lib.hid (show ∀ W, Below wz.heap.size wz W → W.frozen? ⟨c, 2, none⟩ = false from fun W hW => (HMz.out.blk.turn (Turn.of_below (S := fun _ => False) hW) id).frozen 2)
              have hl1 : (List.take k (ones a)).flatten.length = k * 67 := by
                rw [fl_len fun q hq => hol q (List.mem_of_mem_take hq), List.length_take, hon, Nat.min_eq_left (by omega)]
              have hl2 : (List.drop (k + 1) (ones a)).flatten.length = (a.os.length - (k + 1)) * 67 := by
                rw [fl_len fun q hq => hol q (List.mem_of_mem_drop hq), List.length_drop, hon]
              have ho1 : ∀ u ∈ (List.take k (ones a)).flatten, u.oneCell' = true := fun u hu => by
                obtain ⟨q, hq, hu⟩ := List.mem_flatten.1 hu
                exact ones_one q (List.mem_of_mem_take hq) u hu
              have ho2 : ∀ u ∈ (List.drop (k + 1) (ones a)).flatten, u.oneCell' = true := fun u hu => by
                obtain ⟨q, hq, hu⟩ := List.mem_flatten.1 hu
                exact ones_one q (List.mem_of_mem_drop hq) u hu
              have hnm : k + (a.os.length - (k + 1)) = a.os.length - 1 := by omega
              have h631 : 0 + k ≤ maxLen := by unfold maxLen; omega
              have hby1 : (0 + k) * 88 ≤ 140737488355328 := by omega
              have h632 : k + (a.os.length - (k + 1)) ≤ maxLen := by unfold maxLen; omega
              have hby2 : (k + (a.os.length - (k + 1))) * 88 ≤ 140737488355328 := by omega
              have hcz : c < wz.heap.size := HMz.out.blk.lt
              have hkc : k ≤ cp := by omega
              have hks : (0 : Int) ≤ (k : Int) + 1 := by omega
              have hke : (k : Int) + 1 ≤ (a.os.length : Int) := by omega
              have hoo : (if cp = k + 1 then some (⟨gl, 0, none⟩ : Addr) else some ⟨gl, (k + 1) * 67, none⟩) = some ⟨gl, oo, none⟩ := by rw [← HOo.out]; split <;> rfl
              have ewk1 : IntKind.i64.wrap ((k : Int) + 1) = (k : Int) + 1 := IntWalk.i64_in _ (by omega) |>.trans rfl
              clear hol hon
              go_upto_region 12 with (fail)
              have hB : Below wz.heap.size wz wz.drew := (Below.refl _ _).drew
              refine start_ (n := 20) (S := fun w' => w'.cell? ⟨c, 2, none⟩ = some (.slice (some ⟨gl, 0, none⟩) a.os.length cp)) (ds := [19]) #[false, false, false, false, false, false, false, false, false, false, false, false, false, false, false, false, false, false, false, false] (by kernel_rfl) rfl rfl ((HK.out _ hB).1) (fun hHeld => ?_)
              refine pure_ (i := 0) (N := some 50) (v := ?_) (a' := ?_) #[true, false, false, false, false, false, false, false, false, false, false, false, false, false, false, false, false, false, false, false] rfl rfl (by kernel_rfl) (fun _ _ _ h => h) (Or.inl ⟨by rfl, ?_⟩) ?_ ?_
              rotate_left
              · intro w'
                go_simp
                with_reducible rfl
              rotate_left
              · simp only [Act.put, List.setIfInBounds_toArray, List.set_cons_zero, List.set_cons_succ, i64_w, i32_w]
                rfl
              refine pure_ (i := 2) (N := some 52) (v := ?_) (a' := ?_) #[true, false, true, false, false, false, false, false, false, false, false, false, false, false, false, false, false, false, false, false] rfl rfl (by kernel_rfl) (fun _ _ _ h => h) (Or.inl ⟨by rfl, ?_⟩) ?_ ?_
              rotate_left
              · intro w'
                go_simp
                with_reducible rfl
              rotate_left
              · simp only [Act.put, List.setIfInBounds_toArray, List.set_cons_zero, List.set_cons_succ, i64_w, i32_w]
                rfl
              refine pure_ (i := 3) (N := some 53) (v := ?_) (a' := ?_) #[true, false, true, true, false, false, false, false, false, false, false, false, false, false, false, false, false, false, false, false] rfl rfl (by kernel_rfl) (fun _ _ _ h => h) (Or.inl ⟨by rfl, ?_⟩) ?_ ?_
              rotate_left
              · intro w'
                go_simp
                with_reducible rfl
              rotate_left
              · simp only [Act.put, List.setIfInBounds_toArray, List.set_cons_zero, List.set_cons_succ, i64_w, i32_w]
                rfl
              refine pure_ (i := 4) (N := some 54) (v := ?_) (a' := ?_) #[true, false, true, true, true, false, false, false, false, false, false, false, false, false, false, false, false, false, false, false] rfl rfl (by kernel_rfl) (fun _ _ _ h => h) (Or.inl ⟨by rfl, ?_⟩) ?_ ?_
              rotate_left
              · intro w'
                go_simp
                with_reducible rfl
              rotate_left
              · simp only [Act.put, List.setIfInBounds_toArray, List.set_cons_zero, List.set_cons_succ, i64_w, i32_w]
                rfl
              refine pure_ (i := 6) (N := some 56) (v := ?_) (a' := ?_) #[true, false, true, true, true, false, true, false, false, false, false, false, false, false, false, false, false, false, false, false] rfl rfl (by kernel_rfl) (fun _ _ _ h => h) (Or.inl ⟨by rfl, ?_⟩) ?_ ?_
              rotate_left
              · intro w'
                go_simp
                with_reducible rfl
              rotate_left
              · simp only [Act.put, List.setIfInBounds_toArray, List.set_cons_zero, List.set_cons_succ, i64_w, i32_w]
                rfl
              refine pure_ (i := 9) (N := some 59) (v := ?_) (a' := ?_) #[true, false, true, true, true, false, true, false, false, true, false, false, false, false, false, false, false, false, false, false] rfl rfl (by kernel_rfl) (fun _ _ _ h => h) (Or.inl ⟨by rfl, ?_⟩) ?_ ?_
              rotate_left
              · intro w'
                go_simp
                with_reducible rfl
              rotate_left
              · simp only [Act.put, List.setIfInBounds_toArray, List.set_cons_zero, List.set_cons_succ, i64_w, i32_w]
                rfl
              refine pure_ (i := 10) (N := some 60) (v := ?_) (a' := ?_) #[true, false, true, true, true, false, true, false, false, true, true, false, false, false, false, false, false, false, false, false] rfl rfl (by kernel_rfl) (fun _ _ _ h => h) (Or.inl ⟨by rfl, ?_⟩) ?_ ?_
              rotate_left
              · intro w'
                go_simp
                with_reducible rfl
              rotate_left
              · simp only [Act.put, List.setIfInBounds_toArray, List.set_cons_zero, List.set_cons_succ, i64_w, i32_w]
                rfl
              refine pure_ (i := 11) (N := some 61) (v := ?_) (a' := ?_) #[true, false, true, true, true, false, true, false, false, true, true, true, false, false, false, false, false, false, false, false] rfl rfl (by kernel_rfl) (fun _ _ _ h => h) (Or.inl ⟨by rfl, ?_⟩) ?_ ?_
              rotate_left
              · intro w'
                go_simp
                with_reducible rfl
              rotate_left
              · simp only [Act.put, List.setIfInBounds_toArray, List.set_cons_zero, List.set_cons_succ, i64_w, i32_w]
                rfl
              refine pure_ (i := 13) (N := some 63) (v := ?_) (a' := ?_) #[true, false, true, true, true, false, true, false, false, true, true, true, false, true, false, false, false, false, false, false] rfl rfl (by kernel_rfl) (fun _ _ _ h => h) (Or.inl ⟨by rfl, ?_⟩) ?_ ?_
              rotate_left
              · intro w'
                go_simp
                with_reducible rfl
              rotate_left
              · simp only [Act.put, List.setIfInBounds_toArray, List.set_cons_zero, List.set_cons_succ, i64_w, i32_w]
                rfl
              refine pure_ (i := 14) (N := some 64) (v := ?_) (a' := ?_) #[true, false, true, true, true, false, true, false, false, true, true, true, false, true, true, false, false, false, false, false] rfl rfl (by kernel_rfl) (fun _ _ _ h => h) (Or.inl ⟨by rfl, ?_⟩) ?_ ?_
              rotate_left
              · intro w'
                go_simp
                with_reducible rfl
              rotate_left
              · simp only [Act.put, List.setIfInBounds_toArray, List.set_cons_zero, List.set_cons_succ, i64_w, i32_w]
                rfl
              refine take_ (i := 5) (N := some 55) (v := ?_) (a' := ?_) #[true, false, true, true, true, true, true, false, false, true, true, true, false, true, true, false, false, false, false, false] rfl rfl (by kernel_rfl) (fun _ _ _ h => h) (Or.inl ⟨by rfl, ?_⟩) hHeld ?_ ?_
              rotate_left
              · intro w' s0
                go_simp
                with_reducible rfl
              rotate_left
              · simp only [Act.put, List.setIfInBounds_toArray, List.set_cons_zero, List.set_cons_succ, i64_w, i32_w]
                rfl
              refine pure_ (i := 7) (N := some 57) (v := ?_) (a' := ?_) #[true, false, true, true, true, true, true, true, false, true, true, true, false, true, true, false, false, false, false, false] rfl rfl (by kernel_rfl) (fun _ _ _ h => h) (Or.inl ⟨by rfl, ?_⟩) ?_ ?_
              rotate_left
              · intro w'
                go_simp
                with_reducible rfl
              rotate_left
              · simp only [Act.put, List.setIfInBounds_toArray, List.set_cons_zero, List.set_cons_succ, i64_w, i32_w]
                rfl
              refine take_ (i := 12) (N := some 62) (v := ?_) (a' := ?_) #[true, false, true, true, true, true, true, true, false, true, true, true, true, true, true, false, false, false, false, false] rfl rfl (by kernel_rfl) (fun _ _ _ h => h) (Or.inl ⟨by rfl, ?_⟩) hHeld ?_ ?_
              rotate_left
              · intro w' s0
                go_simp
                with_reducible rfl
              rotate_left
              · simp only [Act.put, List.setIfInBounds_toArray, List.set_cons_zero, List.set_cons_succ, i64_w, i32_w]
                rfl
              refine pure_ (i := 15) (N := some 65) (v := ?_) (a' := ?_) #[true, false, true, true, true, true, true, true, false, true, true, true, true, true, true, true, false, false, false, false] rfl rfl (by kernel_rfl) (fun _ _ _ h => h) (Or.inl ⟨by rfl, ?_⟩) ?_ ?_
              rotate_left
              · intro w'
                go_simp
                with_reducible rfl
              rotate_left
              · simp only [Act.put, List.setIfInBounds_toArray, List.set_cons_zero, List.set_cons_succ, i64_w, i32_w]
                rfl
              refine one_ (i := 1) (N := some 51) #[true, true, true, true, true, true, true, true, false, true, true, true, true, true, true, true, false, false, false, false] rfl rfl (by kernel_rfl) (by decide) (fun K hK => ?_)
              refine step_mk0 59 91 i0 z0 Try.underlying59 hi0 hz0 rfl rfl ?_
              intro g5 W5 hg5 hW5
              have hE : W5.ownsRow wz.heap.size 91 67 (.slice (some ⟨g5, 0, none⟩) 0 0) 0 [] := by rw [hW5, hg5]; exact owns_mk0 _ _ _ _ hB.size
              have hgb5 : wz.heap.size ≤ g5 := by rw [hg5]; exact hB.size
              have hB : Below wz.heap.size wz W5 := by rw [hW5]; exact bel_alloc hB _
              clear hg5 hW5
              refine hK.out _ _ ((HK.out _ hB).1) (fun hHeld => ?_)
              clear hK K
              refine norm_ (a' := ?_) ?_ ?_
              rotate_left
              · show Act.put _ (some 51) _ = _
                simp only [Act.put, List.setIfInBounds_toArray, List.set_cons_zero, List.set_cons_succ, i64_w, i32_w]
                rfl
              refine one_ (i := 8) (N := some 58) #[true, true, true, true, true, true, true, true, true, true, true, true, true, true, true, true, false, false, false, false] rfl rfl (by kernel_rfl) (by decide) (fun K hK => ?_)
              refine step_append_some rfl (.tmp 51) (.tmp 57) 59 rfl wz.heap.size 91 i0 z0 67 88 Try.underlying59 hi0 hz0 hz1 hz2 hz3 (by decide) g5 0 0 [] rfl hE (some ⟨gl, 0, none⟩) k cp (List.take k (ones a)).flatten rfl hl1 (fun h => by cases h) (fun ad had j u hu => by
                obtain rfl := Option.some.inj had
                rw [Addr.add_mid, Nat.zero_add]
                exact (HK.out _ hB).2.1 j u hu) ho1 _ (Nat.zero_add _) h631 hby1 hB.size ?_
              intro g8 cap8 W8 hO hg8 hat8 hlt8
              have hO : W8.ownsRow wz.heap.size 91 67 (.slice (some ⟨g8, 0, none⟩) k cap8) k (List.take k (ones a)).flatten := hO
              have hgb8 : wz.heap.size ≤ g8 := by
                rcases hat8 with e | e
                · rw [← e]; exact hgb5
                · rw [e]; exact hB.size
              have hB : Below wz.heap.size wz W8 := bel_grown hB hg8 hgb5
              clear hE hg8 hat8 hlt8
              refine hK.out _ _ ((HK.out _ hB).1) (fun hHeld => ?_)
              clear hK K
              refine norm_ (a' := ?_) ?_ ?_
              rotate_left
              · show Act.put _ (some 58) _ = _
                simp only [Act.put, List.setIfInBounds_toArray, List.set_cons_zero, List.set_cons_succ, i64_w, i32_w]
                rfl
              refine one_ (i := 16) (N := some 66) #[true, true, true, true, true, true, true, true, true, true, true, true, true, true, true, true, true, false, false, false] rfl rfl (by kernel_rfl) (by decide) (fun K hK => ?_)
              refine step_append_some rfl (.tmp 58) (.tmp 65) 59 rfl wz.heap.size 91 i0 z0 67 88 Try.underlying59 hi0 hz0 hz1 hz2 hz3 (by decide) g8 cap8 k (List.take k (ones a)).flatten rfl hO (some ⟨gl, oo, none⟩) (a.os.length - (k + 1)) (cp - (k + 1)) (List.drop (k + 1) (ones a)).flatten rfl hl2 (fun h => by cases h) (fun ad had j u hu => by
                obtain rfl := Option.some.inj had
                rw [Addr.add_mid]
                exact (HK.out _ hB).2.2 j u hu) ho2 _ hnm h632 hby2 hB.size ?_
              intro g16 cap16 W16 hO16 hg16 hat16 hlt16
              have hgb16 : wz.heap.size ≤ g16 := by
                rcases hat16 with e | e
                · rw [← e]; exact hgb8
                · rw [e]; exact hB.size
              have hB : Below wz.heap.size wz W16 := bel_grown hB hg16 hgb8
              clear hO hg16 hat16
              refine hK.out _ _ ((HK.out _ hB).1) (fun hHeld => ?_)
              clear hK K
              refine norm_ (a' := ?_) ?_ ?_
              rotate_left
              · show Act.put _ (some 66) _ = _
                simp only [Act.put, List.setIfInBounds_toArray, List.set_cons_zero, List.set_cons_succ, i64_w, i32_w]
                rfl
              refine pure_ (i := 17) (N := some 67) (v := ?_) (a' := ?_) #[true, true, true, true, true, true, true, true, true, true, true, true, true, true, true, true, true, true, false, false] rfl rfl (by kernel_rfl) (fun _ _ _ h => h) (Or.inl ⟨by rfl, ?_⟩) ?_ ?_
              rotate_left
              · intro w'
                go_simp
                with_reducible rfl
              rotate_left
              · simp only [Act.put, List.setIfInBounds_toArray, List.set_cons_zero, List.set_cons_succ, i64_w, i32_w]
                rfl
              refine pure_ (i := 18) (N := some 68) (v := ?_) (a' := ?_) #[true, true, true, true, true, true, true, true, true, true, true, true, true, true, true, true, true, true, true, false] rfl rfl (by kernel_rfl) (fun _ _ _ h => h) (Or.inl ⟨by rfl, ?_⟩) ?_ ?_
              rotate_left
              · intro w'
                go_simp
                with_reducible rfl
              rotate_left
              · simp only [Act.put, List.setIfInBounds_toArray, List.set_cons_zero, List.set_cons_succ, i64_w, i32_w]
                rfl
              refine last_ (i := 19) (N := none) #[true, true, true, true, true, true, true, true, true, true, true, true, true, true, true, true, true, true, true, true] rfl rfl (by kernel_rfl) (by decide) (fun K hK => ?_)
              have hcw := (HK.out _ hB).1
              have hfz := HFz.out _ hB
              refine skip_ (w1 := ?_) (by rfl) rfl ?_ ?_
              rotate_left
              · go_simp
                rfl
              refine hK.out _ _ ?_
              clear hK K
              refine done_ (by kernel_rfl) ?_


              have hTz : Turn (fun j => Fc j) wz (W16.setCell ⟨c, 2, none⟩ (.slice (some ⟨g16, 0, none⟩) (a.os.length - 1) cap16)) := (Turn.of_below hB).setCell (p := ⟨c, 2, none⟩) (fun _ => HMz.out.fc) _
              have hTcc : Turn (fun j => j = c) W16 (W16.setCell ⟨c, 2, none⟩ (.slice (some ⟨g16, 0, none⟩) (a.os.length - 1) cap16)) := (Turn.refl (fun j => j = c) W16).setCell (p := ⟨c, 2, none⟩) (fun _ => rfl) _
              have hBz := (HMz.out.blk.turn (Turn.of_below (S := fun _ => False) hB) id).set_ 2 (.slice (some ⟨g16, 0, none⟩) (a.os.length - 1) cap16)
              have hlen : ((ones a).eraseIdx k).length = a.os.length - 1 := by rw [List.length_eraseIdx, ones_len, if_pos (by omega)]
              have hg16 := (World.ownsRow.lt hO16 g16 rfl).2
              have hRz : GRow (W16.setCell ⟨c, 2, none⟩ (.slice (some ⟨g16, 0, none⟩) (a.os.length - 1) cap16)) (.slice (some ⟨g16, 0, none⟩) (a.os.length - 1) cap16) ((ones a).eraseIdx k) := by
                refine ⟨?_, fun q hq => HMz.out.row.2 q (List.mem_of_mem_eraseIdx hq)⟩
                rw [hlen, ← take_drop_flat]
                have h1 := owns_turn hO16 hTcc fun j hj e => by
                  have : g16 = j := Option.some.inj hj
                  omega
                refine ⟨h1.1, ?_⟩
                rcases h1.2 with h2 | ⟨g, cq, cur, e1, e2, e3⟩
                · exact .inl h2
                · exact .inr ⟨g, cq, cur, e1, Nat.zero_le _, e3⟩
              have hszc := hTcc.size
              have HF := Lib.hid (show RSt (grow F w (W16.setCell ⟨c, 2, none⟩ (.slice (some ⟨g16, 0, none⟩) (a.os.length - 1) cap16))) (W16.setCell ⟨c, 2, none⟩ (.slice (some ⟨g16, 0, none⟩) (a.os.length - 1) cap16)) c d g ra ∧ Turn (fun j => F j ∨ j = g) w (W16.setCell ⟨c, 2, none⟩ (.slice (some ⟨g16, 0, none⟩) (a.os.length - 1) cap16)) from by
                rw [← HRA.out]
                have hM := HMz.out.goC (a' := { a with os := a.os.erase i, m := delm a.m i, x := a.x.write i bb, s := some (sS a.x s i) }) hTz hBz (by rw [HOe.out]; exact hRz) rfl rfl (HLk.out.erase i) (fun q hq hm => by
                    have hm' : delm a.m i q = some hq := hm
                    unfold delm at hm'
                    split at hm'
                    · cases hm'
                    · exact HM.out.hl q hq hm') (by
                    have h9 := HM.out.num
                    have h8 : (a.os.erase i).length ≤ a.os.length := List.length_erase_le
                    exact ⟨h9.1, h9.2.1, h9.2.2.1, h9.2.2.2.1, by show (a.os.erase i).length ≤ 1000; omega⟩) (fun j hj => by
                    have : g16 = j := Option.some.inj hj
                    exact .inr ⟨by omega, by omega⟩)
                exact ⟨⟨_, _, _, _, _, _, _, hM.chain hwz hTz.size HFl.out HgF.out hgl⟩, HTz.out.trans hTz fun j hj e => .inl (HM.out.sub j (.inl e))⟩)
              clear hTz hTcc hBz hRz hO16 hB hHeld hcw hfz hkc hks hke hoo HK HFz
              go_wp2_with fail
              go_ret
              exact ⟨by rw [← HRC.out]; first | rfl | simp, HF.out⟩

            · rw [if_neg hc] at HRA
              have hcn : (cd == 0) = false := by simpa using hc
              have HF := Lib.hid (show RSt (grow F w w6) w6 c d g ra from by
                rw [← HRA.out]
                have := HMy.out
                rw [if_neg hc] at this
                exact ⟨_, _, _, _, _, _, _, this⟩)
              go_wp2
              go_ret
              rw [← HRC.out]
              exact ⟨rfl, HF.out, HTz.out⟩
end Go.Proofs.Ytnbppfhnagacfaa
