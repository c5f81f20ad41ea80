/- PlanAll, the walk. -/
import Derived.Test.YtmkfaibjjbgbbaaMade
import Derived.Test.YtmkfaibjjbgbbaaPlanW
import Derived.Test.YtmkfaibjjbgbbaaGet
namespace Go.Proofs.Ytmkfaibjjbgbbaa
open Go.RowKit
set_option linter.unusedVariables false
attribute [local go_sem ↓] Go.wp_at_zero Go.wp_at_succ

theorem has_at {l : List Int} {y : Int} {k : Nat} (h : l[k]? = some y) : l.contains y = true := by
  rw [List.contains_iff_mem]; exact List.mem_of_getElem? h
theorem has_none {l : List Int} {y : Int} (h : ∀ (k : Nat) (z : Int), k < l.length → l[k]? = some z → z ≠ y) : l.contains y = false := by
  cases hc : l.contains y with
  | false => rfl
  | true =>
    rw [List.contains_iff_mem] at hc
    obtain ⟨k, hk⟩ := List.mem_iff_getElem?.1 hc
    have hkl : k < l.length := by
      rcases Nat.lt_or_ge k l.length with h | h
      · exact h
      · rw [List.getElem?_eq_none h] at hk; cases hk
    exact absurd rfl (h k y hkl hk)
theorem hasInt_any (v : Value) (l : List Int) (y : Int) (w : World) (hv : Arr w 3 v (ints l)) : Calls Try.prog 36 #[v, .int .i64 y] w fun e w' => e = .returned (.bool (l.contains y)) ∧ w' = w := by
  obtain ⟨A, c, rfl, h1, h2⟩ := hv.len
  have HA := Lib.hid hv.at
  rw [ints_len] at h1 ⊢
  unfold maxLen at h2
  clear hv
  go_enter Try.func36, Try.ntmps36
  go_wp2
  go_loopw [5] (fun i wr => ∃ k : Nat, k ≤ l.length ∧ i = .int .i64 k ∧ wr = w ∧ Hid (∀ (j : Nat) (z : Int), j < k → l[j]? = some z → z ≠ y)) (fun i _ => l.length - (intOf i).toNat)
  case atStart => exact ⟨0, Nat.zero_le _, rfl, rfl, fun j p hj => by omega⟩
  case round =>
    obtain ⟨k, hk, rfl, rfl, hT⟩ := hrel
    by_cases hlt : k < l.length
    · obtain ⟨z, hz⟩ : ∃ z, l[k]? = some z := ⟨_, List.getElem?_eq_getElem hlt⟩
      obtain ⟨gb, o, cs, rfl, hbk, hcs⟩ := HA.out k z hz
      have hc1 : wr.cell? ⟨gb, o + k, none⟩ = some (.int .i64 z) := (hbk.cell (o + k)).trans hcs
      have HZ := Lib.hid hz
      clear hbk hcs hz
      by_cases hzy : z = y
      · have ht : (z == y) = true := by simp [hzy]
        have HF := Lib.hid (show l.contains y = true from by rw [← hzy]; exact has_at HZ.out)
        clear hzy
        go_wp2
        go_ret
        exact ⟨by rw [HF.out]; rfl, rfl⟩
      · have ht : (z == y) = false := by simp [hzy]
        have HI := Lib.hid hzy
        clear hzy
        go_wp2
        go_roundw
        case rel => exact ⟨k + 1, by omega, by go_num, by first | trivial | rfl, fun j q hj hq => by
          rcases Nat.lt_or_ge j k with h | h
          · exact hT.out j q h hq
          · obtain rfl : j = k := by omega
            rw [HZ.out] at hq
            rw [← Option.some.inj hq]
            exact HI.out⟩
        case measure => simp [intOf]; omega
    · obtain rfl : k = l.length := by omega
      have HF := Lib.hid (has_none (l := l) (y := y) hT.out)
      go_wp2
      go_ret
      exact ⟨by rw [HF.out]; rfl, rfl⟩
theorem end_on {bs : List (List Int × Bool)} {k : Nat} {b : List Int × Bool} (y : G) (h : bs[k]? = some b) : endG y (bs.drop k) = endG (carryG y b.1) (bs.drop (k + 1)) := by
  have hk : k < bs.length := by
    rcases Nat.lt_or_ge k bs.length with h1 | h1
    · exact h1
    · rw [List.getElem?_eq_none h1] at h; cases h
  rw [List.drop_eq_getElem_cons hk]
  rw [List.getElem?_eq_getElem hk] at h
  rw [Option.some.inj h]
  rfl
theorem secs_le (x : G) : (secsG x).length ≤ x.l.length := by
  unfold secsG
  rw [List.length_mergeSort]
  have h1 := secs_len (liveL x) []
  have h2 := List.length_filter_le (fun p : Pt => !p.written) x.l
  unfold secsRaw
  unfold liveL at *
  simp at h1
  omega
theorem batch_len (ids : List Int) : ∀ (n : Nat) (x : G), Rise x.l → ∀ b ∈ batchesF ids n x, b.1.length ≤ x.l.length := by
  intro n
  induction n with
  | zero => intro x _ b hb; cases hb
  | succ n ih =>
    intro x hx b hb
    have e : batchesF ids (n + 1) x = match planNext x ids with | none => [] | some b => b :: batchesF ids n (carryG x b.1) := rfl
    rw [e] at hb
    cases hp : planNext x ids with
    | none => rw [hp] at hb; cases hb
    | some c =>
      rw [hp] at hb
      have hs := carry_sub hx c.1
      rcases List.mem_cons.1 hb with rfl | h
      · unfold planNext at hp
        split at hp
        · cases hp
        · injection hp with hp
          rw [← hp]
          unfold planSecs
          exact Nat.le_trans (List.length_filter_le _ _) (secs_le x)
      · exact Nat.le_trans (ih _ (hx.sublist hs) b h) hs.length_le
theorem need_wf {x : G} (h : Fine x) {ids : List Int} : ∀ k ∈ neededG x ids, (key k).wf = true := fun k hk => by
  obtain ⟨p, hp, rfl⟩ := List.mem_map.1 hk
  have := (h.all p ((neededL_sub _ _).subset hp)).1.2.1
  exact key_wf (by omega) (by omega)

set_option maxHeartbeats 4000000 in
set_option maxRecDepth 100000 in
theorem planAll_any (A : Option Addr) (n c : Nat) (l : List PtD) (v u : Value) (wids ids : List Int) (w : World) (hA : PatsR w A n l) (hn : n ≤ c) (hc : c ≤ 9223372036854775807) (hv : Row w v (ints wids)) (hk : ∀ k ∈ wids, (key k).wf = true) (hu : Row w u (ints ids)) (hku : ∀ k ∈ ids, (key k).wf = true) :
    Calls Try.prog 6 #[.slice A n c, v, u] w fun e w' => e = .returned (.bool true) ∧ Below w.heap.size w w' := by
  have HM := Lib.hid fun (W : World) (h : Below w.heap.size w W) => made_any A n c l v wids W ⟨hA.1, fun i a ha => by
    obtain ⟨⟨g, o, e, h1, h2⟩, h3, h4⟩ := hA.2 i a ha
    exact ⟨⟨g, o, e, Nat.lt_of_lt_of_le h1 h.size, fun j u hu => (h.cell (p := ⟨g, o + i * 9 + j, none⟩) h1).trans (h2 j u hu)⟩, h3.below h, h4.below h⟩⟩ hn hc (hv.below h) hk
  have HV := Lib.hid hu
  obtain ⟨B, d, rfl, k1, k2, k0, -⟩ := hu
  obtain ⟨I, hI⟩ : ∃ I, I = ids.take 8 := ⟨_, rfl⟩
  have hIl : I.length ≤ 8 := by rw [hI]; simp; omega
  have HIk := Lib.hid (show ∀ k ∈ I, (key k).wf = true from fun k hk => hku k (List.mem_of_mem_take (by rw [← hI]; exact hk)))
  rw [ints_len] at k1 HV ⊢
  unfold maxLen at k2
  have m1 : (min (↑ids.length : Int) 8).toNat = min ids.length 8 := by omega
  have HI := Lib.hid fun (W : World) (h : Below w.heap.size w W) => show Calls Try.prog 33 #[.slice B (min (↑ids.length : Int) 8).toNat d] W fun e w' => ∃ r, e = .returned r ∧ Built W.heap.size w' r I ∧ Below W.heap.size W w' from by
    have h3 := ((HV.out).take 8).1.below h
    rw [ints_take, ← hI] at h3
    have := ints_copy (.slice B (min ids.length 8) d) (ints I) W h3 ints_one (by rw [ints_len]; omega)
    rw [m1]
    rw [ints_len] at this
    exact this
  clear m1 HV hA hv hk hku hI
  go_enter Try.func6, Try.ntmps6
  go_wp2_with fail
  refine (works16_any w).mono ?_
  rintro e w1 ⟨rfl, hb1⟩
  have HB1 := Lib.hid hb1
  clear hb1
  go_wp2_with fail
  refine (HM.out _ HB1.out).mono ?_
  rintro e w2 ⟨g, mb, b, nb, x, rfl, hG2, -, hF2, hD2, hxl, hnb, hb2, hg2, hmb2, -⟩
  have hs1 := HB1.out.size
  have HG2 := Lib.hid hG2
  have HF := Lib.hid hF2
  have HD := Lib.hid hD2
  have HB2 := Lib.hid (HB1.out.trans (hb2.mono hs1))
  have hg0 : w.heap.size ≤ g := by omega
  have hmb0 : w.heap.size ≤ mb := by omega
  clear hG2 hF2 hD2 hb2 hg2 hmb2
  go_wp2_with fail
  refine (HI.out _ HB2.out).mono ?_
  rintro e w3 ⟨r3, rfl, hr3, hb3⟩
  have HN3 := Lib.hid (needed_any g mb nb x r3 I w3 (HG2.out.below hb3) HF.out hr3.arr (by omega) HIk.out)
  have HG3 := Lib.hid (HG2.out.below hb3)
  have HB3 := Lib.hid (HB2.out.trans (hb3.mono HB2.out.size))
  clear hr3 hb3 HG2 HB2
  go_wp2_with fail
  refine HN3.out.mono ?_
  rintro e w4 ⟨r4, rfl, hr4, hb4⟩
  obtain ⟨A4, c4, rfl, h41, h42⟩ := hr4.arr.len
  rw [ints_len] at h41 ⊢
  have HA4 := Lib.hid (show Arr w4 3 (.slice A4 (neededG x I).length c4) (ints (neededG x I)) from by have := hr4.arr; rw [ints_len] at this; exact this)
  have HG4 := Lib.hid (HG3.out.below hb4)
  have HB4 := Lib.hid (HB3.out.trans (hb4.mono HB3.out.size))
  clear hr4 hb4 HN3 HG3 HB3
  go_wp2_with fail
  refine (HI.out _ HB4.out).mono ?_
  rintro e w5 ⟨r5, rfl, hr5, hb5⟩
  have HA5 := Lib.hid (HA4.out.below hb5)
  have HG5 := Lib.hid (HG4.out.below hb5)
  have HB5 := Lib.hid (HB4.out.trans (hb5.mono HB4.out.size))
  have HBa := Lib.hid (batches_any g mb nb x r5 I w5 HG5.out HF.out (by omega) hr5.arr (by omega) HIk.out)
  clear hr5 hb5 HA4 HG4 HB4
  have HEnd := Lib.hid (end_batches I (x.l.length + 1) x HF.out HD.out (Nat.le_refl _))
  have hfew := batches_few (x.l.length + 1) x HF.out I
  have hnl : (neededG x I).length ≤ x.l.length := by unfold neededG; rw [List.length_map]; exact neededL_len _ _
  have HNw := Lib.hid (need_wf HF.out (ids := I))
  unfold batchesG at HBa
  have HBl := Lib.hid (batch_len I (x.l.length + 1) x HF.out.rise)
  generalize batchesF I (x.l.length + 1) x = bs at *
  go_wp2_with fail
  refine HBa.out.mono ?_
  rintro e w6 ⟨r6, rfl, hB6, hb6⟩
  obtain ⟨A6, c6, rfl⟩ := hB6.len
  have HBs := Lib.hid hB6
  have HA6 := Lib.hid (HA5.out.below hb6)
  have HG6 := Lib.hid (HG5.out.below hb6)
  have HB6 := Lib.hid (HB5.out.trans (hb6.mono HB5.out.size))
  have hs6 := HB6.out.size
  clear hB6 hb6 HBa HA5 HG5 HB5
  generalize hNd : neededG x I = Nd at *
  have hgt : decide (Nd.length < bs.length) = false := decide_eq_false (by omega)
  go_wp2_with fail
  go_loopw [11] (fun i wr => ∃ (k : Nat) (y : G) (nb2 : Nat), k ≤ bs.length ∧ i = .int .i64 k ∧ Hid (endG x bs = endG y (bs.drop k)) ∧ Hid (Fine y) ∧ y.l.length ≤ 30 ∧ nb2 ≤ 100 + 1000 * k ∧ Gr wr g mb nb2 y ∧ Turn (fun j => j = mb) w6 wr) (fun i _ => bs.length - (intOf i).toNat)
  case atStart => exact ⟨0, x, nb, Nat.zero_le _, rfl, by unfold Hid; rfl, HF, hxl, by omega, HG6.out, Turn.refl _ _⟩
  case round =>
    obtain ⟨k, y, nb2, hk, rfl, hE, hFy, hyl, hnb2, hG, hT⟩ := hrel
    have HG := Lib.hid hG
    have HT := Lib.hid hT
    have hsz := hT.size
    have hmm : ∀ (j : Nat) (t : TypeId) (cs : Array Value), Blk w6 j t cs → ¬ j = mb := fun j t cs kk e => by
      obtain ⟨_, f, hm, _⟩ := HG6.out
      subst e
      exact hm.not_blk kk rfl
    have HMM := Lib.hid hmm
    clear hmm
    by_cases hlt : k < bs.length
    · obtain ⟨bt, hbt⟩ : ∃ bt, bs[k]? = some bt := ⟨_, List.getElem?_eq_getElem hlt⟩
      have HE2 := Lib.hid (show endG x bs = endG (carryG y bt.1) (bs.drop (k + 1)) from by rw [hE.out, end_on y hbt])
      have HFc := Lib.hid (hFy.out.carry bt.1)
      have hless := (carry_sub hFy.out.rise bt.1).length_le
      have HAll := Lib.hid (alls_any g mb nb2 y wr hG hFy.out.rise (by omega))
      have hBw := HBs.out.turn hT HMM.out
      have HBw := Lib.hid hBw
      have HIds := Lib.hid (fun z (hz : z ∈ (carryW y bt.1).1) => show (idsOf y fun _ => true).contains z = true from by
        obtain ⟨p, hp, e⟩ := carry_ids bt.1 y hFy.out.rise z hz
        rw [List.contains_iff_mem]
        unfold idsOf
        exact List.mem_map.2 ⟨p, List.mem_filter.2 ⟨hp, rfl⟩, e⟩)
      have HBt := Lib.hid hbt
      clear hG hT hBw hbt
      go_wp2_with fail
      refine HAll.out.mono ?_
      rintro e w7 ⟨r7, rfl, hr7, hb7⟩
      have HA7 := Lib.hid hr7.arr
      have HG7 := Lib.hid (HG.out.below hb7)
      have HT7 := Lib.hid (HT.out.trans (Turn.of_below (S := fun _ => False) hb7) (fun _ _ e => e.elim))
      have hmb7 : ∀ (j : Nat) (cs : Array Value), Blk w7 j 3 cs → ¬ j = mb := fun j cs kk e => by
        obtain ⟨_, f, hm, _⟩ := HG7.out
        subst e
        exact hm.not_blk kk rfl
      obtain ⟨g7, c7, e7, -, -, hgl7, hat7⟩ := (HBw.out.below hb7).at (by omega)
      injection e7 with e71 e72 e73
      subst e71 e73
      obtain ⟨sv, hsv, hcv, -⟩ := hat7 k bt HBt.out
      have hbl : bt.1.length ≤ 100000 := by
        have := HBl.out bt (List.mem_of_getElem? HBt.out)
        omega
      have HIn := Lib.hid (ints_copy sv (ints bt.1) w7 (Row.of_arr hsv) ints_one (by rw [ints_len]; exact hbl))
      obtain ⟨As, cs, rfl, -, -⟩ := hsv.len
      have HMb7 := Lib.hid hmb7
      have hk0 : (0 : Int) ≤ (k : Int) := by omega
      have hk1 : (k : Int) < (bs.length : Int) := by omega
      clear hr7 hb7 hsv hat7 hmb7 HAll HG HT HBw e72
      go_wp2_with fail
      refine HIn.out.mono ?_
      rintro e w8 ⟨r8, rfl, hr8, hb8⟩
      obtain ⟨A8, m8, c8, rfl⟩ := owns_shape hr8
      have HA8 := Lib.hid (HA7.out.below hb8)
      have HG8 := Lib.hid (HG7.out.below hb8)
      have HT8 := Lib.hid (HT7.out.trans (Turn.of_below (S := fun _ => False) hb8) (fun _ _ e => e.elim))
      have HC8 := Lib.hid (carry_any g mb nb2 y _ bt.1 false w8 HG8.out hFy.out (by omega) (Arr.of_own (by simpa using hr8)))
      have hmb8 : ∀ (j : Nat) (cs : Array Value), Blk w8 j 3 cs → ¬ j = mb := fun j cs kk e => by
        obtain ⟨_, f, hm, _⟩ := HG8.out
        subst e
        exact hm.not_blk kk rfl
      have HM8 := Lib.hid hmb8
      clear hr8 hb8 hcv HG7 HT7 HA7 hmb8 HIn
      unfold batV at HC8
      go_wp2_with fail
      refine HC8.out.mono ?_
      rintro e w9 ⟨r9, nb9, rfl, hr9, hG9, hnb9, hT9⟩
      obtain ⟨A9, c9, rfl, h91, h92⟩ := hr9.len
      have HAt := Lib.hid hr9.at
      have HA9 := Lib.hid (HA8.out.turn hT9 HM8.out)
      have HT9 := Lib.hid (HT8.out.trans hT9 (fun _ _ e => e))
      have HG9 := Lib.hid hG9
      rw [ints_len] at h91 ⊢
      unfold maxLen at h92
      generalize (carryW y bt.1).1 = out at *
      obtain ⟨A7, c7', rfl, -, -⟩ := HA9.out.len
      have hsz9 := HT9.out.size
      clear hr9 hG9 hT9 HC8 HA8 HM8 HG8 HT8
      go_wp2_with fail
      go_loopw [14] (fun i wr => ∃ j : Nat, j ≤ out.length ∧ i = .int .i64 j ∧ wr = w9) (fun i _ => out.length - (intOf i).toNat)
      case atStart => exact ⟨0, Nat.zero_le _, rfl, rfl⟩
      case round =>
        rename_i wo
        obtain ⟨j, hj, rfl, rfl⟩ := hrel
        by_cases hlt : j < out.length
        · obtain ⟨z, hz⟩ : ∃ z, out[j]? = some z := ⟨_, List.getElem?_eq_getElem hlt⟩
          obtain ⟨gb, o, cs, rfl, hbk, hcs⟩ := HAt.out j z hz
          have hc1 : wr.cell? ⟨gb, o + j, none⟩ = some (.int .i64 z) := (hbk.cell (o + j)).trans hcs
          have HH := Lib.hid (hasInt_any _ _ z wr HA9.out)
          rw [HIds.out z (List.mem_of_getElem? hz)] at HH
          clear hbk hcs hz
          go_wp2_with fail
          refine HH.out.mono ?_
          rintro e w10 ⟨rfl, rfl⟩
          go_wp2
          go_roundw
          case rel => exact ⟨j + 1, by omega, by go_num, by first | trivial | rfl⟩
          case measure => simp [intOf]; omega
        · obtain rfl : j = out.length := by omega
          go_wp2_with fail
          go_roundw
          case rel => exact ⟨k + 1, carryG y bt.1, nb9, by omega, by go_num, HE2, HFc, by omega, by omega, HG9.out, HT9.out⟩
          case measure => simp [intOf]; omega
    · obtain rfl : k = bs.length := by omega
      have hEq : endG x bs = y := by rw [hE.out, List.drop_length]; rfl
      obtain ⟨e1, -, e3⟩ := HEnd.out
      rw [hEq] at e1 e3
      have HE1 := Lib.hid e1
      have HE3 := Lib.hid e3
      have HA6w := Lib.hid (HA6.out.turn hT (fun jj cs kk => HMM.out jj 3 cs kk))
      have HNat := Lib.hid HA6w.out.at
      have HBw := Lib.hid (HB6.out.trans (hT.below (B := w.heap.size) hs6 (fun i hi e => by omega)))
      have hr2 : Nd.length ≤ c4 := h41
      unfold maxLen at h42
      clear hG hT e1 e3
      go_wp2_with fail
      go_loopw [15] (fun i W => ∃ j : Nat, j ≤ Nd.length ∧ i = .int .i64 j ∧ Below wr.heap.size wr W) (fun i _ => Nd.length - (intOf i).toNat)
      case atStart => exact ⟨0, Nat.zero_le _, rfl, Below.refl _ _⟩
      case round =>
        clear HM HD HBs HA6 HG6 HB6 HEnd HBl HMM
        rename World => wo
        obtain ⟨j, hj, rfl, hb⟩ := hrel
        have HBj := Lib.hid hb
        have hszj := hb.size
        by_cases hlt : j < Nd.length
        · obtain ⟨z, hz⟩ : ∃ z, Nd[j]? = some z := ⟨_, List.getElem?_eq_getElem hlt⟩
          obtain ⟨gb, o, cs, rfl, hbk, hcs⟩ := HNat.out j z hz
          have hc1 : wo.cell? ⟨gb, o + j, none⟩ = some (.int .i64 z) := ((hbk.below hb hbk.lt).cell (o + j)).trans hcs
          have hzm := List.mem_of_getElem? hz
          have HGt := Lib.hid (get_none g mb nb2 y z wo (HG.out.below hb) (HNw.out z hzm) (HE3.out z hzm))
          clear hb hbk hcs hz hzm
          unfold zeroV at HGt
          go_wp2_with fail
          refine HGt.out.mono ?_
          rintro e w10 ⟨rfl, hb10⟩
          have HB10 := Lib.hid (HBj.out.trans (hb10.mono hszj))
          clear hb10
          go_wp2
          go_roundw
          case rel => exact ⟨j + 1, by omega, by go_num, HB10.out.alloc HB10.out.size _⟩
          case measure => simp [intOf]; omega
        · obtain rfl : j = Nd.length := by omega
          have HGj := Lib.hid (HG.out.below hb)
          have HWj := Lib.hid (HBw.out.trans (hb.mono HBw.out.size))
          clear hb
          go_wp2_with fail
          refine (HI.out _ HWj.out).mono ?_
          rintro e w11 ⟨r11, rfl, hr11, hb11⟩
          have HN := Lib.hid (needed_any g mb nb2 y r11 I w11 (HGj.out.below hb11) hFy.out hr11.arr (by omega) HIk.out)
          have HW11 := Lib.hid (HWj.out.trans (hb11.mono HWj.out.size))
          clear hr11 hb11
          go_wp2_with fail
          refine HN.out.mono ?_
          rintro e w12 ⟨r12, rfl, hr12, hb12⟩
          obtain ⟨A12, c12, rfl, -, -⟩ := hr12.arr.len
          rw [HE1.out]
          have HW12 := Lib.hid (HW11.out.trans (hb12.mono HW11.out.size))
          clear hr12 hb12
          go_wp2
          go_ret
          exact ⟨rfl, HW12.out⟩
end Go.Proofs.Ytmkfaibjjbgbbaa
