/- PlanAll, the walk. PlanTells, the walk. PlanTells answers true for every input, and each argument reads behind the call as it read before. No condition. -/
import Derived.Test.YtmkfaibjjbgbbaaJt1
import Derived.Test.YtmkfaibjjbgbbaaJt4
import Derived.Test.YtmkfaibjjbgbbaaGet
import Derived.Test.YtmkfaibjjbgbbaaJt5
namespace Go.Proofs.Ytmkfaibjjbgbbaa
open Go.RowKit
set_option linter.unusedVariables false
attribute [local go_sem ↓] Go.wp_at_zero Go.wp_at_succ

theorem has_at {l : List Int} {y : Int} {k : Nat} (h : l[k]? = some y) : l.contains y = true := by
  rw [List.contains_iff_mem]; exact List.mem_of_getElem? h
theorem has_none {l : List Int} {y : Int} (h : ∀ (k : Nat) (z : Int), k < l.length → l[k]? = some z → z ≠ y) : l.contains y = false := by
  cases hc : l.contains y with
  | false => rfl
  | true =>
    rw [List.contains_iff_mem] at hc
    obtain ⟨k, hk⟩ := List.mem_iff_getElem?.1 hc
    have hkl : k < l.length := by
      rcases Nat.lt_or_ge k l.length with h | h
      · exact h
      · rw [List.getElem?_eq_none h] at hk; cases hk
    exact absurd rfl (h k y hkl hk)
theorem hasInt_any (v : Value) (l : List Int) (y : Int) (w : World) (hv : Arr w 3 v (ints l)) : Calls Try.prog 36 #[v, .int .i64 y] w fun e w' => e = .returned (.bool (l.contains y)) ∧ w' = w := by
  obtain ⟨A, c, rfl, h1, h2⟩ := hv.len
  have HA := Lib.hid hv.at
  rw [ints_len] at h1 ⊢
  unfold maxLen at h2
  clear hv
  go_enter Try.func36, Try.ntmps36
  go_wp2
  go_loopw [5] (fun i wr => ∃ k : Nat, k ≤ l.length ∧ i = .int .i64 k ∧ wr = w ∧ Hid (∀ (j : Nat) (z : Int), j < k → l[j]? = some z → z ≠ y)) (fun i _ => l.length - (intOf i).toNat)
  case atStart => exact ⟨0, Nat.zero_le _, rfl, rfl, fun j p hj => by omega⟩
  case round =>
    obtain ⟨k, hk, rfl, rfl, hT⟩ := hrel
    by_cases hlt : k < l.length
    · obtain ⟨z, hz⟩ : ∃ z, l[k]? = some z := ⟨_, List.getElem?_eq_getElem hlt⟩
      obtain ⟨gb, o, cs, rfl, hbk, hcs⟩ := HA.out k z hz
      have hc1 : wr.cell? ⟨gb, o + k, none⟩ = some (.int .i64 z) := (hbk.cell (o + k)).trans hcs
      have HZ := Lib.hid hz
      clear hbk hcs hz
      by_cases hzy : z = y
      · have ht : (z == y) = true := by simp [hzy]
        have HF := Lib.hid (show l.contains y = true from by rw [← hzy]; exact has_at HZ.out)
        clear hzy
        go_wp2
        go_ret
        exact ⟨by rw [HF.out]; rfl, rfl⟩
      · have ht : (z == y) = false := by simp [hzy]
        have HI := Lib.hid hzy
        clear hzy
        go_wp2
        go_roundw
        case rel => exact ⟨k + 1, by omega, by go_num, by first | trivial | rfl, fun j q hj hq => by
          rcases Nat.lt_or_ge j k with h | h
          · exact hT.out j q h hq
          · obtain rfl : j = k := by omega
            rw [HZ.out] at hq
            rw [← Option.some.inj hq]
            exact HI.out⟩
        case measure => simp [intOf]; omega
    · obtain rfl : k = l.length := by omega
      have HF := Lib.hid (has_none (l := l) (y := y) hT.out)
      go_wp2
      go_ret
      exact ⟨by rw [HF.out]; rfl, rfl⟩
theorem end_on {bs : List (List Int × Bool)} {k : Nat} {b : List Int × Bool} (y : G) (h : bs[k]? = some b) : endG y (bs.drop k) = endG (carryG y b.1) (bs.drop (k + 1)) := by
  have hk : k < bs.length := by
    rcases Nat.lt_or_ge k bs.length with h1 | h1
    · exact h1
    · rw [List.getElem?_eq_none h1] at h; cases h
  rw [List.drop_eq_getElem_cons hk]
  rw [List.getElem?_eq_getElem hk] at h
  rw [Option.some.inj h]
  rfl
theorem secs_le (x : G) : (secsG x).length ≤ x.l.length := by
  unfold secsG
  rw [List.length_mergeSort]
  have h1 := secs_len (liveL x) []
  have h2 := List.length_filter_le (fun p : Pt => !p.written) x.l
  unfold secsRaw
  unfold liveL at *
  simp at h1
  omega
theorem batch_len (ids : List Int) : ∀ (n : Nat) (x : G), Rise x.l → ∀ b ∈ batchesF ids n x, b.1.length ≤ x.l.length := by
  intro n
  induction n with
  | zero => intro x _ b hb; cases hb
  | succ n ih =>
    intro x hx b hb
    have e : batchesF ids (n + 1) x = match planNext x ids with | none => [] | some b => b :: batchesF ids n (carryG x b.1) := rfl
    rw [e] at hb
    cases hp : planNext x ids with
    | none => rw [hp] at hb; cases hb
    | some c =>
      rw [hp] at hb
      have hs := carry_sub hx c.1
      rcases List.mem_cons.1 hb with rfl | h
      · unfold planNext at hp
        split at hp
        · cases hp
        · injection hp with hp
          rw [← hp]
          unfold planSecs
          exact Nat.le_trans (List.length_filter_le _ _) (secs_le x)
      · exact Nat.le_trans (ih _ (hx.sublist hs) b h) hs.length_le
theorem need_wf {x : G} (h : Fine x) {ids : List Int} : ∀ k ∈ neededG x ids, (key k).wf = true := fun k hk => by
  obtain ⟨p, hp, rfl⟩ := List.mem_map.1 hk
  have := (h.all p ((neededL_sub _ _).subset hp)).1.2.1
  exact key_wf (by omega) (by omega)

set_option maxHeartbeats 4000000 in
set_option maxRecDepth 100000 in
theorem planAll_any (A : Option Addr) (n c : Nat) (l : List PtD) (v u : Value) (wids ids : List Int) (w : World) (hA : PatsR w A n l) (hn : n ≤ c) (hc : c ≤ 9223372036854775807) (hv : Row w v (ints wids)) (hk : ∀ k ∈ wids, (key k).wf = true) (hu : Row w u (ints ids)) (hku : ∀ k ∈ ids, (key k).wf = true) :
    Calls Try.prog 6 #[.slice A n c, v, u] w fun e w' => e = .returned (.bool true) ∧ Below w.heap.size w w' := by
  have HM := Lib.hid fun (W : World) (h : Below w.heap.size w W) => made_any A n c l v wids W ⟨hA.1, fun i a ha => by
    obtain ⟨⟨g, o, e, h1, h2⟩, h3, h4⟩ := hA.2 i a ha
    exact ⟨⟨g, o, e, Nat.lt_of_lt_of_le h1 h.size, fun j u hu => (h.cell (p := ⟨g, o + i * 9 + j, none⟩) h1).trans (h2 j u hu)⟩, h3.below h, h4.below h⟩⟩ hn hc (hv.below h) hk
  have HV := Lib.hid hu
  obtain ⟨B, d, rfl, k1, k2, k0, -⟩ := hu
  obtain ⟨I, hI⟩ : ∃ I, I = ids.take 8 := ⟨_, rfl⟩
  have hIl : I.length ≤ 8 := by rw [hI]; simp; omega
  have HIk := Lib.hid (show ∀ k ∈ I, (key k).wf = true from fun k hk => hku k (List.mem_of_mem_take (by rw [← hI]; exact hk)))
  rw [ints_len] at k1 HV ⊢
  unfold maxLen at k2
  have m1 : (min (↑ids.length : Int) 8).toNat = min ids.length 8 := by omega
  have HI := Lib.hid fun (W : World) (h : Below w.heap.size w W) => show Calls Try.prog 33 #[.slice B (min (↑ids.length : Int) 8).toNat d] W fun e w' => ∃ r, e = .returned r ∧ Built W.heap.size w' r I ∧ Below W.heap.size W w' from by
    have h3 := ((HV.out).take 8).1.below h
    rw [ints_take, ← hI] at h3
    have := ints_copy (.slice B (min ids.length 8) d) (ints I) W h3 ints_one (by rw [ints_len]; omega)
    rw [m1]
    rw [ints_len] at this
    exact this
  clear m1 HV hA hv hk hku hI
  go_enter Try.func6, Try.ntmps6
  go_wp2_with fail
  refine (works16_any w).mono ?_
  rintro e w1 ⟨rfl, hb1⟩
  have HB1 := Lib.hid hb1
  clear hb1
  go_wp2_with fail
  refine (HM.out _ HB1.out).mono ?_
  rintro e w2 ⟨g, mb, b, nb, x, rfl, hG2, -, hF2, hD2, hxl, hnb, hb2, hg2, hmb2, -⟩
  have hs1 := HB1.out.size
  have HG2 := Lib.hid hG2
  have HF := Lib.hid hF2
  have HD := Lib.hid hD2
  have HB2 := Lib.hid (HB1.out.trans (hb2.mono hs1))
  have hg0 : w.heap.size ≤ g := by omega
  have hmb0 : w.heap.size ≤ mb := by omega
  clear hG2 hF2 hD2 hb2 hg2 hmb2
  go_wp2_with fail
  refine (HI.out _ HB2.out).mono ?_
  rintro e w3 ⟨r3, rfl, hr3, hb3⟩
  have HN3 := Lib.hid (needed_any g mb nb x r3 I w3 (HG2.out.below hb3) HF.out hr3.arr (by omega) HIk.out)
  have HG3 := Lib.hid (HG2.out.below hb3)
  have HB3 := Lib.hid (HB2.out.trans (hb3.mono HB2.out.size))
  clear hr3 hb3 HG2 HB2
  go_wp2_with fail
  refine HN3.out.mono ?_
  rintro e w4 ⟨r4, rfl, hr4, hb4⟩
  obtain ⟨A4, c4, rfl, h41, h42⟩ := hr4.arr.len
  rw [ints_len] at h41 ⊢
  have HA4 := Lib.hid (show Arr w4 3 (.slice A4 (neededG x I).length c4) (ints (neededG x I)) from by have := hr4.arr; rw [ints_len] at this; exact this)
  have HG4 := Lib.hid (HG3.out.below hb4)
  have HB4 := Lib.hid (HB3.out.trans (hb4.mono HB3.out.size))
  clear hr4 hb4 HN3 HG3 HB3
  go_wp2_with fail
  refine (HI.out _ HB4.out).mono ?_
  rintro e w5 ⟨r5, rfl, hr5, hb5⟩
  have HA5 := Lib.hid (HA4.out.below hb5)
  have HG5 := Lib.hid (HG4.out.below hb5)
  have HB5 := Lib.hid (HB4.out.trans (hb5.mono HB4.out.size))
  have HBa := Lib.hid (batches_any g mb nb x r5 I w5 HG5.out HF.out (by omega) hr5.arr (by omega) HIk.out)
  clear hr5 hb5 HA4 HG4 HB4
  have HEnd := Lib.hid (end_batches I (x.l.length + 1) x HF.out HD.out (Nat.le_refl _))
  have hfew := batches_few (x.l.length + 1) x HF.out I
  have hnl : (neededG x I).length ≤ x.l.length := by unfold neededG; rw [List.length_map]; exact neededL_len _ _
  have HNw := Lib.hid (need_wf HF.out (ids := I))
  unfold batchesG at HBa
  have HBl := Lib.hid (batch_len I (x.l.length + 1) x HF.out.rise)
  generalize batchesF I (x.l.length + 1) x = bs at *
  go_wp2_with fail
  refine HBa.out.mono ?_
  rintro e w6 ⟨r6, rfl, hB6, hb6⟩
  obtain ⟨A6, c6, rfl⟩ := hB6.len
  have HBs := Lib.hid hB6
  have HA6 := Lib.hid (HA5.out.below hb6)
  have HG6 := Lib.hid (HG5.out.below hb6)
  have HB6 := Lib.hid (HB5.out.trans (hb6.mono HB5.out.size))
  have hs6 := HB6.out.size
  clear hB6 hb6 HBa HA5 HG5 HB5
  generalize hNd : neededG x I = Nd at *
  have hgt : decide (Nd.length < bs.length) = false := decide_eq_false (by omega)
  go_wp2_with fail
  go_loopw [11] (fun i wr => ∃ (k : Nat) (y : G) (nb2 : Nat), k ≤ bs.length ∧ i = .int .i64 k ∧ Hid (endG x bs = endG y (bs.drop k)) ∧ Hid (Fine y) ∧ y.l.length ≤ 30 ∧ nb2 ≤ 100 + 1000 * k ∧ Gr wr g mb nb2 y ∧ Turn (fun j => j = mb) w6 wr) (fun i _ => bs.length - (intOf i).toNat)
  case atStart => exact ⟨0, x, nb, Nat.zero_le _, rfl, by unfold Hid; rfl, HF, hxl, by omega, HG6.out, Turn.refl _ _⟩
  case round =>
    obtain ⟨k, y, nb2, hk, rfl, hE, hFy, hyl, hnb2, hG, hT⟩ := hrel
    have HG := Lib.hid hG
    have HT := Lib.hid hT
    have hsz := hT.size
    have hmm : ∀ (j : Nat) (t : TypeId) (cs : Array Value), Blk w6 j t cs → ¬ j = mb := fun j t cs kk e => by
      obtain ⟨_, f, hm, _⟩ := HG6.out
      subst e
      exact hm.not_blk kk rfl
    have HMM := Lib.hid hmm
    clear hmm
    by_cases hlt : k < bs.length
    · obtain ⟨bt, hbt⟩ : ∃ bt, bs[k]? = some bt := ⟨_, List.getElem?_eq_getElem hlt⟩
      have HE2 := Lib.hid (show endG x bs = endG (carryG y bt.1) (bs.drop (k + 1)) from by rw [hE.out, end_on y hbt])
      have HFc := Lib.hid (hFy.out.carry bt.1)
      have hless := (carry_sub hFy.out.rise bt.1).length_le
      have HAll := Lib.hid (alls_any g mb nb2 y wr hG hFy.out.rise (by omega))
      have hBw := HBs.out.turn hT HMM.out
      have HBw := Lib.hid hBw
      have HIds := Lib.hid (fun z (hz : z ∈ (carryW y bt.1).1) => show (idsOf y fun _ => true).contains z = true from by
        obtain ⟨p, hp, e⟩ := carry_ids bt.1 y hFy.out.rise z hz
        rw [List.contains_iff_mem]
        unfold idsOf
        exact List.mem_map.2 ⟨p, List.mem_filter.2 ⟨hp, rfl⟩, e⟩)
      have HBt := Lib.hid hbt
      clear hG hT hBw hbt
      go_wp2_with fail
      refine HAll.out.mono ?_
      rintro e w7 ⟨r7, rfl, hr7, hb7⟩
      have HA7 := Lib.hid hr7.arr
      have HG7 := Lib.hid (HG.out.below hb7)
      have HT7 := Lib.hid (HT.out.trans (Turn.of_below (S := fun _ => False) hb7) (fun _ _ e => e.elim))
      have hmb7 : ∀ (j : Nat) (cs : Array Value), Blk w7 j 3 cs → ¬ j = mb := fun j cs kk e => by
        obtain ⟨_, f, hm, _⟩ := HG7.out
        subst e
        exact hm.not_blk kk rfl
      obtain ⟨g7, c7, e7, -, -, hgl7, hat7⟩ := (HBw.out.below hb7).at (by omega)
      injection e7 with e71 e72 e73
      subst e71 e73
      obtain ⟨sv, hsv, hcv, -⟩ := hat7 k bt HBt.out
      have hbl : bt.1.length ≤ 100000 := by
        have := HBl.out bt (List.mem_of_getElem? HBt.out)
        omega
      have HIn := Lib.hid (ints_copy sv (ints bt.1) w7 (Row.of_arr hsv) ints_one (by rw [ints_len]; exact hbl))
      obtain ⟨As, cs, rfl, -, -⟩ := hsv.len
      have HMb7 := Lib.hid hmb7
      have hk0 : (0 : Int) ≤ (k : Int) := by omega
      have hk1 : (k : Int) < (bs.length : Int) := by omega
      clear hr7 hb7 hsv hat7 hmb7 HAll HG HT HBw e72
      go_wp2_with fail
      refine HIn.out.mono ?_
      rintro e w8 ⟨r8, rfl, hr8, hb8⟩
      obtain ⟨A8, m8, c8, rfl⟩ := owns_shape hr8
      have HA8 := Lib.hid (HA7.out.below hb8)
      have HG8 := Lib.hid (HG7.out.below hb8)
      have HT8 := Lib.hid (HT7.out.trans (Turn.of_below (S := fun _ => False) hb8) (fun _ _ e => e.elim))
      have HC8 := Lib.hid (carry_any g mb nb2 y _ bt.1 false w8 HG8.out hFy.out (by omega) (Arr.of_own (by simpa using hr8)))
      have hmb8 : ∀ (j : Nat) (cs : Array Value), Blk w8 j 3 cs → ¬ j = mb := fun j cs kk e => by
        obtain ⟨_, f, hm, _⟩ := HG8.out
        subst e
        exact hm.not_blk kk rfl
      have HM8 := Lib.hid hmb8
      clear hr8 hb8 hcv HG7 HT7 HA7 hmb8 HIn
      unfold batV at HC8
      go_wp2_with fail
      refine HC8.out.mono ?_
      rintro e w9 ⟨r9, nb9, rfl, hr9, hG9, hnb9, hT9⟩
      obtain ⟨A9, c9, rfl, h91, h92⟩ := hr9.len
      have HAt := Lib.hid hr9.at
      have HA9 := Lib.hid (HA8.out.turn hT9 HM8.out)
      have HT9 := Lib.hid (HT8.out.trans hT9 (fun _ _ e => e))
      have HG9 := Lib.hid hG9
      rw [ints_len] at h91 ⊢
      unfold maxLen at h92
      generalize (carryW y bt.1).1 = out at *
      obtain ⟨A7, c7', rfl, -, -⟩ := HA9.out.len
      have hsz9 := HT9.out.size
      clear hr9 hG9 hT9 HC8 HA8 HM8 HG8 HT8
      go_wp2_with fail
      go_loopw [14] (fun i wr => ∃ j : Nat, j ≤ out.length ∧ i = .int .i64 j ∧ wr = w9) (fun i _ => out.length - (intOf i).toNat)
      case atStart => exact ⟨0, Nat.zero_le _, rfl, rfl⟩
      case round =>
        rename_i wo
        obtain ⟨j, hj, rfl, rfl⟩ := hrel
        by_cases hlt : j < out.length
        · obtain ⟨z, hz⟩ : ∃ z, out[j]? = some z := ⟨_, List.getElem?_eq_getElem hlt⟩
          obtain ⟨gb, o, cs, rfl, hbk, hcs⟩ := HAt.out j z hz
          have hc1 : wr.cell? ⟨gb, o + j, none⟩ = some (.int .i64 z) := (hbk.cell (o + j)).trans hcs
          have HH := Lib.hid (hasInt_any _ _ z wr HA9.out)
          rw [HIds.out z (List.mem_of_getElem? hz)] at HH
          clear hbk hcs hz
          go_wp2_with fail
          refine HH.out.mono ?_
          rintro e w10 ⟨rfl, rfl⟩
          go_wp2
          go_roundw
          case rel => exact ⟨j + 1, by omega, by go_num, by first | trivial | rfl⟩
          case measure => simp [intOf]; omega
        · obtain rfl : j = out.length := by omega
          go_wp2_with fail
          go_roundw
          case rel => exact ⟨k + 1, carryG y bt.1, nb9, by omega, by go_num, HE2, HFc, by omega, by omega, HG9.out, HT9.out⟩
          case measure => simp [intOf]; omega
    · obtain rfl : k = bs.length := by omega
      have hEq : endG x bs = y := by rw [hE.out, List.drop_length]; rfl
      obtain ⟨e1, -, e3⟩ := HEnd.out
      rw [hEq] at e1 e3
      have HE1 := Lib.hid e1
      have HE3 := Lib.hid e3
      have HA6w := Lib.hid (HA6.out.turn hT (fun jj cs kk => HMM.out jj 3 cs kk))
      have HNat := Lib.hid HA6w.out.at
      have HBw := Lib.hid (HB6.out.trans (hT.below (B := w.heap.size) hs6 (fun i hi e => by omega)))
      have hr2 : Nd.length ≤ c4 := h41
      unfold maxLen at h42
      clear hG hT e1 e3
      go_wp2_with fail
      go_loopw [15] (fun i W => ∃ j : Nat, j ≤ Nd.length ∧ i = .int .i64 j ∧ Below wr.heap.size wr W) (fun i _ => Nd.length - (intOf i).toNat)
      case atStart => exact ⟨0, Nat.zero_le _, rfl, Below.refl _ _⟩
      case round =>
        clear HM HD HBs HA6 HG6 HB6 HEnd HBl HMM
        rename World => wo
        obtain ⟨j, hj, rfl, hb⟩ := hrel
        have HBj := Lib.hid hb
        have hszj := hb.size
        by_cases hlt : j < Nd.length
        · obtain ⟨z, hz⟩ : ∃ z, Nd[j]? = some z := ⟨_, List.getElem?_eq_getElem hlt⟩
          obtain ⟨gb, o, cs, rfl, hbk, hcs⟩ := HNat.out j z hz
          have hc1 : wo.cell? ⟨gb, o + j, none⟩ = some (.int .i64 z) := ((hbk.below hb hbk.lt).cell (o + j)).trans hcs
          have hzm := List.mem_of_getElem? hz
          have HGt := Lib.hid (get_none g mb nb2 y z wo (HG.out.below hb) (HNw.out z hzm) (HE3.out z hzm))
          clear hb hbk hcs hz hzm
          unfold zeroV at HGt
          go_wp2_with fail
          refine HGt.out.mono ?_
          rintro e w10 ⟨rfl, hb10⟩
          have HB10 := Lib.hid (HBj.out.trans (hb10.mono hszj))
          clear hb10
          go_wp2
          go_roundw
          case rel => exact ⟨j + 1, by omega, by go_num, HB10.out.alloc HB10.out.size _⟩
          case measure => simp [intOf]; omega
        · obtain rfl : j = Nd.length := by omega
          have HGj := Lib.hid (HG.out.below hb)
          have HWj := Lib.hid (HBw.out.trans (hb.mono HBw.out.size))
          clear hb
          go_wp2_with fail
          refine (HI.out _ HWj.out).mono ?_
          rintro e w11 ⟨r11, rfl, hr11, hb11⟩
          have HN := Lib.hid (needed_any g mb nb2 y r11 I w11 (HGj.out.below hb11) hFy.out hr11.arr (by omega) HIk.out)
          have HW11 := Lib.hid (HWj.out.trans (hb11.mono HWj.out.size))
          clear hr11 hb11
          go_wp2_with fail
          refine HN.out.mono ?_
          rintro e w12 ⟨r12, rfl, hr12, hb12⟩
          obtain ⟨A12, c12, rfl, -, -⟩ := hr12.arr.len
          rw [HE1.out]
          have HW12 := Lib.hid (HW11.out.trans (hb12.mono HW11.out.size))
          clear hr12 hb12
          go_wp2
          go_ret
          exact ⟨rfl, HW12.out⟩
end Go.Proofs.Ytmkfaibjjbgbbaa
namespace Go.Proofs.Ytmkfaibjjbgbbaa
open Go.RowKit
set_option linter.unusedVariables false
attribute [local go_sem ↓] Go.wp_at_zero Go.wp_at_succ

theorem Bats.turnB {B : Nat} {w w' : World} {v : Value} {bs : List (List Int × Bool)} {r : Nat} {t : TypeId} {cs : Array Value} (h : Bats B w v bs) (hT : Turn (fun j => j = r) w w') (hr : Blk w r t cs) (h3 : (3 : TypeId) ≠ t) (h61 : (61 : TypeId) ≠ t) : Bats B w' v bs := by
  obtain ⟨L, e, h1, h2⟩ := h
  refine ⟨L, e, owns_keep h1 fun g hg => ?_, fun b hb' => (h2 b hb').turn hT fun g cs' k e => ?_⟩
  · rcases h1.2 with ⟨hv, _⟩ | ⟨g', cap, cur, hv, _, hg', _⟩
    · rw [hv] at hg; cases hg
    · rw [hv] at hg
      injection hg with hg
      subst hg
      exact hT.block _ (Array.getElem?_eq_some_iff.1 hg').1 fun e => Blk.ne_ (show Blk w g' 61 cur from hg') hr h61 e
  · exact Blk.ne_ k hr h3 e

set_option maxHeartbeats 8000000 in
set_option maxRecDepth 100000 in
theorem planTells_any (A : Option Addr) (n c : Nat) (l : List PtD) (v u : Value) (wids ids : List Int) (w : World) (hA : PatsR w A n l) (hn : n ≤ c) (hc : c ≤ 9223372036854775807) (hv : Row w v (ints wids)) (hk : ∀ k ∈ wids, (key k).wf = true) (hu : Row w u (ints ids)) (hku : ∀ k ∈ ids, (key k).wf = true) :
    Calls Try.prog 8 #[.slice A n c, v, u] w fun e w' => e = .returned (.bool true) ∧ Below w.heap.size w w' := by
  have HM := Lib.hid (made_any2 A n c l v wids w hA hn hc hv hk)
  have HV := Lib.hid hu
  obtain ⟨B, d, rfl, k1, k2, k0, -⟩ := hu
  obtain ⟨I, hI⟩ : ∃ I, I = ids.take 8 := ⟨_, rfl⟩
  have hIl : I.length ≤ 8 := by rw [hI]; simp; omega
  have HIk := Lib.hid (show ∀ k ∈ I, (key k).wf = true from fun k hk => hku k (List.mem_of_mem_take (by rw [← hI]; exact hk)))
  rw [ints_len] at k1 HV ⊢
  unfold maxLen at k2
  have m1 : (min (↑ids.length : Int) 8).toNat = min ids.length 8 := by omega
  have HIr := Lib.hid fun (W : World) (h : Below w.heap.size w W) => show Row W (.slice B (min (↑ids.length : Int) 8).toNat d) (ints I) from by
    have h3 := ((HV.out).take 8).1.below h
    rw [ints_take, ← hI] at h3
    rw [m1]
    exact h3
  have HI := Lib.hid fun (W : World) (h : Below w.heap.size w W) => show Calls Try.prog 33 #[.slice B (min (↑ids.length : Int) 8).toNat d] W fun e w' => ∃ r, e = .returned r ∧ Built W.heap.size w' r I ∧ Below W.heap.size W w' from by
    have := ints_copy _ (ints I) W (HIr.out W h) ints_one (by rw [ints_len]; omega)
    rw [ints_len] at this
    exact this
  clear m1 HV hA hv hk hku hI
  go_enter Try.func8, Try.ntmps8
  go_wp2_with fail
  refine HM.out.mono ?_
  rintro e w2 ⟨g, mb, b, nb, x, rfl, hG2, hR2, hF2, -, hxl, hnb, hb2, hg2, hmb2, hbb2, hla1, hla2⟩
  have HG2 := Lib.hid hG2
  have HR2 := Lib.hid hR2
  have HF := Lib.hid hF2
  have HB2 := Lib.hid hb2
  have hgl := hG2.lt
  have hgm := hG2.ltm
  have hrl := hR2.lt
  clear hG2 hR2 hF2 hb2 HM
  go_wp2_with fail
  refine (rall_any b x _ HR2.out (by omega)).mono ?_
  rintro e w3 ⟨r3, rfl, hr3, hb3⟩
  obtain ⟨A3, c3, rfl, -, -⟩ := hr3.arr.len
  rw [ints_len]
  have HW3 := Lib.hid hr3.arr
  rw [ints_len] at HW3
  have HG3 := Lib.hid (HG2.out.below hb3)
  have HR3 := Lib.hid (HR2.out.below hb3)
  have HB3 := Lib.hid (HB2.out.trans (hb3.mono HB2.out.size))
  clear hr3 hb3 HG2 HR2 HB2
  go_wp2_with fail
  refine (HI.out _ HB3.out).mono ?_
  rintro e w4 ⟨r4, rfl, hr4, hb4⟩
  have HN4 := Lib.hid (batches_any g mb nb x r4 I w4 (HG3.out.below hb4) HF.out (by omega) hr4.arr (by omega) HIk.out)
  have HG4 := Lib.hid (HG3.out.below hb4)
  have HR4 := Lib.hid (HR3.out.below hb4)
  have HW4 := Lib.hid (HW3.out.below hb4)
  have HB4 := Lib.hid (HB3.out.trans (hb4.mono HB3.out.size))
  clear hr4 hb4 HG3 HR3 HW3 HB3
  have hfew := batches_few (x.l.length + 1) x HF.out I
  have hnl : (neededG x I).length ≤ x.l.length := by unfold neededG; rw [List.length_map]; exact neededL_len _ _
  have HBl := Lib.hid (show ∀ q ∈ batchesG x I, q.1.length ≤ 1000 from fun q hq => by
    have := batch_len I (x.l.length + 1) x HF.out.rise q hq
    omega)
  have hbsl : (batchesG x I).length ≤ 30 := by unfold batchesG; omega
  clear hfew hnl
  have HRb := Lib.hid fun (W : World) (h : RG W b x) (hb : Below w.heap.size w W) => rbatches_any b x _ I W h HF.out (by omega) hla1 (by omega) (HIr.out W hb)
  generalize batchesG x I = bs at *
  go_wp2_with fail
  refine HN4.out.mono ?_
  rintro e w5 ⟨r5, rfl, hB5, hb5⟩
  obtain ⟨A5, c5, rfl⟩ := hB5.len
  have HBa5 := Lib.hid hB5
  have HG5 := Lib.hid (HG4.out.below hb5)
  have HR5 := Lib.hid (HR4.out.below hb5)
  have HW5 := Lib.hid (HW4.out.below hb5)
  have HB5 := Lib.hid (HB4.out.trans (hb5.mono HB4.out.size))
  clear hB5 hb5 HN4 HG4 HR4 HW4 HB4
  go_wp2_with fail
  refine (HRb.out _ HR5.out HB5.out).mono ?_
  rintro e w6 ⟨r6, rfl, hB6, hb6⟩
  have HBr6 := Lib.hid hB6.bl
  obtain ⟨A6, c6, rfl, hc61, hc62, -⟩ := hB6.bl
  have HBa6 := Lib.hid (HBa5.out.below hb6)
  have HG6 := Lib.hid (HG5.out.below hb6)
  have HR6 := Lib.hid (HR5.out.below hb6)
  have HW6 := Lib.hid (HW5.out.below hb6)
  have HB6 := Lib.hid (HB5.out.trans (hb6.mono HB5.out.size))
  clear hB6 hb6 HRb HBa5 HG5 HR5 HW5 HB5
  go_wp2_with fail
  refine (HI.out _ HB6.out).mono ?_
  rintro e w7 ⟨r7, rfl, hr7, hb7⟩
  have HN7 := Lib.hid (next_some g mb nb x r7 I w7 (HG6.out.below hb7) HF.out hr7.arr (by omega) HIk.out)
  have HBr7 := Lib.hid (HBr6.out.below hb7)
  have HBa7 := Lib.hid (HBa6.out.below hb7)
  have HG7 := Lib.hid (HG6.out.below hb7)
  have HR7 := Lib.hid (HR6.out.below hb7)
  have HW7 := Lib.hid (HW6.out.below hb7)
  have HB7 := Lib.hid (HB6.out.trans (hb7.mono HB6.out.size))
  clear hr7 hb7 HBr6 HBa6 HG6 HR6 HW6 HB6
  have HRn := Lib.hid fun (W : World) (hR : RG W b x) (h : Below w.heap.size w W) => rnext_any b x _ I W hR HF.out (HIr.out W h)
  generalize ((planNext x I).map (·.1)).getD [] = PL at *
  generalize ((planNext x I).map (·.2)).getD false = PF at *
  generalize (planNext x I).isSome = PI at *
  go_wp2_with fail
  refine HN7.out.mono ?_
  rintro e w8 ⟨sv, rfl, hS8, hb8⟩
  obtain ⟨S1, c1, rfl, hs1, hs1m, -⟩ := hS8.arr.ints_at
  have HS8 := Lib.hid hS8.arr
  have HBr8 := Lib.hid (HBr7.out.below hb8)
  have HBa8 := Lib.hid (HBa7.out.below hb8)
  have HG8 := Lib.hid (HG7.out.below hb8)
  have HR8 := Lib.hid (HR7.out.below hb8)
  have HW8 := Lib.hid (HW7.out.below hb8)
  have HB8 := Lib.hid (HB7.out.trans (hb8.mono HB7.out.size))
  clear hS8 hb8 HN7 HBr7 HBa7 HG7 HR7 HW7 HB7
  unfold batV
  go_wp2_with fail
  obtain ⟨w9, hw9⟩ : ∃ w9, w9 = w8.alloc (.cells #[.slice S1 PL.length c1, .bool PF] 61) := ⟨_, rfl⟩
  rw [← hw9]
  have hb9 : Below w8.heap.size w8 w9 := by rw [hw9]; exact (Below.refl _ _).alloc (Nat.le_refl _) _
  have HX9 := Lib.hid (show Blk w9 w8.heap.size 61 #[.slice S1 PL.length c1, .bool PF] from by rw [hw9]; exact Blk.new _ _ _)
  have HS9 := Lib.hid (HS8.out.below hb9)
  have HBr9 := Lib.hid (HBr8.out.below hb9)
  have HBa9 := Lib.hid (HBa8.out.below hb9)
  have HG9 := Lib.hid (HG8.out.below hb9)
  have HR9 := Lib.hid (HR8.out.below hb9)
  have HW9 := Lib.hid (HW8.out.below hb9)
  have HB9 := Lib.hid (HB8.out.trans (hb9.mono HB8.out.size))
  obtain ⟨bX, hbX⟩ : ∃ bX, bX = w8.heap.size := ⟨_, rfl⟩
  rw [← hbX] at HX9 ⊢
  clear hw9 hb9 hbX HS8 HBr8 HBa8 HG8 HR8 HW8 HB8
  refine (HRn.out _ HR9.out HB9.out).mono ?_
  rintro e w10 ⟨sv2, rfl, hS10, hb10⟩
  obtain ⟨S2, c2, rfl, hs2, hs2m⟩ := hS10.len
  rw [ints_len] at hS10 hs2 ⊢
  have HT10 := Lib.hid hS10
  have HS10 := Lib.hid (HS9.out.below hb10)
  have HX10 := Lib.hid (HX9.out.below hb10 HX9.out.lt)
  have HBr10 := Lib.hid (HBr9.out.below hb10)
  have HBa10 := Lib.hid (HBa9.out.below hb10)
  have HG10 := Lib.hid (HG9.out.below hb10)
  have HR10 := Lib.hid (HR9.out.below hb10)
  have HW10 := Lib.hid (HW9.out.below hb10)
  have HB10 := Lib.hid (HB9.out.trans (hb10.mono HB9.out.size))
  have hl10 : bX < w10.heap.size := HX10.out.lt
  clear hS10 hb10 HS9 HX9 HBr9 HBa9 HG9 HR9 HW9 HB9 HRn HI
  unfold batV
  go_upto_region 7 with (fail)
  obtain ⟨w11, hw11⟩ : ∃ w11, w11 = w10.alloc (.cells #[.slice S2 PL.length c2, .bool PF] 66) := ⟨_, rfl⟩
  rw [← hw11]
  have hb11 : Below w10.heap.size w10 w11 := by rw [hw11]; exact (Below.refl _ _).alloc (Nat.le_refl _) _
  have HY11 := Lib.hid (show Blk w11 w10.heap.size 66 #[.slice S2 PL.length c2, .bool PF] from by rw [hw11]; exact Blk.new _ _ _)
  have HX11 := Lib.hid (HX10.out.below hb11 hl10)
  have HS11 := Lib.hid (HS10.out.below hb11)
  have HT11 := Lib.hid (HT10.out.below hb11)
  have HBr11 := Lib.hid (HBr10.out.below hb11)
  have HBa11 := Lib.hid (HBa10.out.below hb11)
  have HG11 := Lib.hid (HG10.out.below hb11)
  have HR11 := Lib.hid (HR10.out.below hb11)
  have HW11 := Lib.hid (HW10.out.below hb11)
  have HB11 := Lib.hid (HB10.out.trans (hb11.mono HB10.out.size))
  obtain ⟨bY, hbY⟩ : ∃ bY, bY = w10.heap.size := ⟨_, rfl⟩
  rw [← hbY] at HY11 ⊢
  have hlX : bX < w11.heap.size := HX11.out.lt
  have hlY : bY < w11.heap.size := HY11.out.lt
  clear hw11 hb11 hbY HX10 HS10 HT10 HBr10 HBa10 HG10 HR10 HW10 HB10 hl10
  -- every later world below
  have HSa := Lib.hid fun (W : World) (h : Below w11.heap.size w11 W) => sameB_any _ _ bs W ((HBa11.out.bl).below h) (HBr11.out.below h)
  have HSb := Lib.hid fun (W : World) (h : Below w11.heap.size w11 W) => sameInts_same _ _ PL W (HS11.out.below h) (HT11.out.below h)
  have HCX := Lib.hid fun (W : World) (h : Below w11.heap.size w11 W) => show (W.cell? ⟨bX, 0, none⟩ = some (.slice S1 PL.length c1) ∧ W.cell? ⟨bX, 1, none⟩ = some (.bool PF)) ∧ W.cell? ⟨bY, 0, none⟩ = some (.slice S2 PL.length c2) ∧ W.cell? ⟨bY, 1, none⟩ = some (.bool PF) from
    ⟨⟨(HX11.out.below h hlX).cell 0, (HX11.out.below h hlX).cell 1⟩, (HY11.out.below h hlY).cell 0, (HY11.out.below h hlY).cell 1⟩
  have HAl := Lib.hid fun (W : World) (h : Below w11.heap.size w11 W) => alls_any g mb nb x W (HG11.out.below h) HF.out.rise (by omega)
  have HWr := Lib.hid fun (W : World) (h : Below w11.heap.size w11 W) => written_any g mb nb x W (HG11.out.below h) HF.out.rise (by omega)
  have HRw := Lib.hid fun (W : World) (h : Below w11.heap.size w11 W) => rwritten_any b x W (HR11.out.below h) (by omega)
  have hneI : (PI != PI) = false := by simp
  have hneF : (PF != PF) = false := by simp
  go_wp2_with fail
  refine (HSa.out _ (Below.refl _ _)).mono ?_
  rintro e w12 ⟨rfl, hb12⟩
  have HB12 := Lib.hid hb12
  obtain ⟨⟨x0, x1⟩, y0, y1⟩ := HCX.out _ hb12
  clear hb12 HSa
  go_wp2_with fail
  refine (HSb.out _ HB12.out).mono ?_
  rintro e w13 ⟨rfl, hb13⟩
  have HB13 := Lib.hid (HB12.out.trans (hb13.mono HB12.out.size))
  clear hb13 HSb HB12 x0 x1 y0 y1
  obtain ⟨⟨x0, x1⟩, y0, y1⟩ := HCX.out _ HB13.out
  go_wp2_with fail
  refine (HAl.out _ HB13.out).mono ?_
  rintro e w14 ⟨r14, rfl, hr14, hb14⟩
  have HB14 := Lib.hid (HB13.out.trans (hb14.mono HB13.out.size))
  have HSc := Lib.hid (sameInts_same _ _ _ w14 hr14.arr (HW11.out.below HB14.out))
  clear hr14 hb14 HAl HB13 x0 x1 y0 y1
  go_wp2_with fail
  refine HSc.out.mono ?_
  rintro e w15 ⟨rfl, hb15⟩
  have HB15 := Lib.hid (HB14.out.trans (hb15.mono HB14.out.size))
  clear hb15 HSc HB14
  go_wp2_with fail
  refine (HWr.out _ HB15.out).mono ?_
  rintro e w16 ⟨r16, rfl, hr16, hb16⟩
  have HB16 := Lib.hid (HB15.out.trans (hb16.mono HB15.out.size))
  have HA16 := Lib.hid hr16.arr
  clear hr16 hb16 HWr HB15
  go_wp2_with fail
  refine (HRw.out _ HB16.out).mono ?_
  rintro e w17 ⟨r17, rfl, hr17, hb17⟩
  have HB17 := Lib.hid (HB16.out.trans (hb17.mono HB16.out.size))
  have HSd := Lib.hid (sameInts_same _ _ _ w17 (HA16.out.below hb17) hr17.arr)
  clear hr17 hb17 HRw HB16 HA16
  go_wp2_with fail
  refine HSd.out.mono ?_
  rintro e w18 ⟨rfl, hb18⟩
  have HB18 := Lib.hid (HB17.out.trans (hb18.mono HB17.out.size))
  clear hb18 HSd HB17
  go_upto_region 11 with (fail)
  obtain ⟨w19, hw19⟩ : ∃ w19, w19 = w18.alloc (.cells #[.int .i64 0, .int .i64 0, .int .i64 0] 74) := ⟨_, rfl⟩
  rw [← hw19]
  obtain ⟨bT, hbT⟩ : ∃ bT, bT = w18.heap.size := ⟨_, rfl⟩
  have HZ := Lib.hid (show Blk w19 bT 74 #[.int .i64 0, .int .i64 0, .int .i64 0] from by rw [hw19, hbT]; exact Blk.new _ _ _)
  have HB19 := Lib.hid (show Below w11.heap.size w11 w19 from by rw [hw19]; exact HB18.out.alloc HB18.out.size _)
  have hTl : w11.heap.size ≤ bT := by rw [hbT]; exact HB18.out.size
  rw [← hbT]
  clear hw19 hbT HB18
  go_loopw [17] (fun i wr => ∃ k : Nat, k ≤ bs.length ∧ i = .int .i64 k ∧ Blk wr bT 74 #[.int .i64 (cW (bs.take k)), .int .i64 (cF (bs.take k)), .int .i64 (cU (bs.take k))] ∧ Below w11.heap.size w11 wr) (fun i _ => bs.length - (intOf i).toNat)
  case atStart => exact ⟨0, Nat.zero_le _, rfl, HZ.out, HB19.out⟩
  case round =>
    obtain ⟨k, hk, rfl, hZ, hbel⟩ := hrel
    have HZk := Lib.hid hZ
    have HBk := Lib.hid hbel
    have hsz := hbel.size
    have z0 := hZ.cell 0
    have z1 := hZ.cell 1
    have z2 := hZ.cell 2
    simp at z0 z1 z2
    have f0 := hZ.frozen 0
    have f1 := hZ.frozen 1
    have f2 := hZ.frozen 2
    have hzl : bT < wr.heap.size := hZ.lt
    have hbd := cost_bd (bs.take k) (fun b hb => HBl.out b (List.mem_of_mem_take hb))
    rw [List.length_take] at hbd
    obtain ⟨⟨p1, p2⟩, ⟨p3, p4⟩, ⟨p5, p6⟩⟩ := hbd
    by_cases hlt : k < bs.length
    · obtain ⟨⟨s, f⟩, hs⟩ : ∃ q, bs[k]? = some q := ⟨_, List.getElem?_eq_getElem hlt⟩
      obtain ⟨A', c', e, -, -, hat⟩ := HBr11.out
      injection e with e1 e2 e3
      subst e1 e3
      obtain ⟨gq, S, m, d', rfl, hg, x0, x1, hx⟩ := hat k s f hs
      have hsl := HBl.out _ (List.mem_of_getElem? hs)
      simp only at hsl
      have hx0 := (hbel.cell (p := ⟨gq, k * 2, none⟩) hg).trans x0
      have hx1 := (hbel.cell (p := ⟨gq, k * 2 + 1, none⟩) hg).trans x1
      obtain ⟨S', d'', e, -, -⟩ := hx.len
      injection e with e1 e2 e3
      subst e1 e2 e3
      rw [ints_len] at hx0
      have HOn := Lib.hid (cost_on hs)
      have hk0 : (0 : Int) ≤ (k : Int) := by omega
      have hk1 : (k : Int) < (bs.length : Int) := by omega
      clear hZ hbel hs hx x0 x1 hat
      obtain ⟨W0, HW0⟩ : ∃ W0, Hid (W0 = cW (bs.take k)) := ⟨_, Lib.hid rfl⟩
      obtain ⟨F0, HF0⟩ : ∃ W0, Hid (W0 = cF (bs.take k)) := ⟨_, Lib.hid rfl⟩
      obtain ⟨U0, HU0⟩ : ∃ W0, Hid (W0 = cU (bs.take k)) := ⟨_, Lib.hid rfl⟩
      rw [← HW0.out] at z0 p1 p2 HZk HOn
      rw [← HF0.out] at z1 p3 p4 HZk HOn
      rw [← HU0.out] at z2 p5 p6 HZk HOn
      cases f with
      | true =>
        have HOn2 := Lib.hid (show cW (bs.take (k + 1)) = W0 ∧ cF (bs.take (k + 1)) = F0 + 1 ∧ cU (bs.take (k + 1)) = U0 from by
          have h := HOn.out
          simpa using h)
        have ew : IntKind.i64.wrap (F0 + 1) = F0 + 1 := IntWalk.i64_in _ (by omega) |>.trans rfl
        have HYn := Lib.hid (HZk.out.set_ 1 (.int .i64 (F0 + 1)))
        have HBn := Lib.hid (HBk.out.trans ((Below.setCell (B := w11.heap.size) (Below.refl _ _) (p := ⟨bT, 1, none⟩) hTl (.int .i64 (F0 + 1)))))
        go_wp2
        go_roundw
        case rel => exact ⟨k + 1, by omega, by go_num, by rw [HOn2.out.1, HOn2.out.2.1, HOn2.out.2.2]; exact HYn.out, HBn.out⟩
        case measure => simp [intOf]; omega
      | false =>
        have HOn2 := Lib.hid (show cW (bs.take (k + 1)) = W0 + s.length ∧ cF (bs.take (k + 1)) = F0 ∧ cU (bs.take (k + 1)) = U0 + 1 from by
          have h := HOn.out
          simpa using h)
        have ew : IntKind.i64.wrap (W0 + s.length) = W0 + s.length := IntWalk.i64_in _ (by omega) |>.trans rfl
        have ew2 : IntKind.i64.wrap (U0 + 1) = U0 + 1 := IntWalk.i64_in _ (by omega) |>.trans rfl
        have HYn := Lib.hid (((HZk.out.set_ 0 (.int .i64 (W0 + s.length))).set_ 2 (.int .i64 (U0 + 1))))
        have HBn := Lib.hid (HBk.out.trans (((Below.setCell (B := w11.heap.size) (Below.refl _ _) (p := ⟨bT, 0, none⟩) hTl (.int .i64 (W0 + s.length)))).setCell (p := ⟨bT, 2, none⟩) hTl (.int .i64 (U0 + 1))))
        go_wp2
        go_region
        all_goals
          go_wp2
          go_roundw
          case rel => exact ⟨k + 1, by omega, by go_num, by rw [HOn2.out.1, HOn2.out.2.1, HOn2.out.2.2]; exact HYn.out, by first | exact HBn.out | exact HBn.out.drew⟩
          case measure => simp [intOf]; omega
    · obtain rfl : k = bs.length := by omega
      rw [List.take_length] at *
      have HBa := Lib.hid (HBa11.out.below hbel)
      have HG := Lib.hid (HG11.out.below hbel)
      have HR := Lib.hid (HR11.out.below hbel)
      have HX := Lib.hid (HX11.out.below hbel hlX)
      have HY := Lib.hid (HY11.out.below hbel hlY)
      have HS := Lib.hid (HS11.out.below hbel)
      have HT := Lib.hid (HT11.out.below hbel)
      have HB := Lib.hid (HB11.out.trans (hbel.mono HB11.out.size))
      clear hZ hbel HZ HBk HB19 HBa11 HBr11 HG11 HR11 HX11 HY11 HS11 HT11 HW11 HB11 HCX hsz p1 p2 p3 p4 p5 p6 z0 z1 z2 f0 f1 f2 hzl
      have HSV := Lib.hid fun (W : World) (hX : Blk W bX 61 #[.slice S1 PL.length c1, .bool PF]) (hY : Blk W bY 66 #[.slice S2 PL.length c2, .bool PF]) => show (W.cell? ⟨bX, 0, none⟩ = some (.slice S1 PL.length c1) ∧ W.cell? ⟨bX, 1, none⟩ = some (.bool PF)) ∧ W.cell? ⟨bY, 0, none⟩ = some (.slice S2 PL.length c2) ∧ W.cell? ⟨bY, 1, none⟩ = some (.bool PF) from ⟨⟨hX.cell 0, hX.cell 1⟩, hY.cell 0, hY.cell 1⟩
      have hsz := HB.out.size
      obtain ⟨wz, hwz⟩ : ∃ wz, wz = wr := ⟨_, rfl⟩
      rw [← hwz] at HBa HG HR HX HY HS HT HB HZk hsz ⊢
      clear hwz hlt
      have hC35 := fun (W : World) (hG : Gr W g mb nb x) (hS : Arr W 3 (.slice S1 PL.length c1) (ints PL)) => carry_any g mb nb x _ PL PF W hG HF.out (by omega) hS
      have hC44 := fun (W : World) (hR : RG W b x) (hS : Arr W 3 (.slice S2 PL.length c2) (ints PL)) => rcarry_any b x _ PL PF W hR HF.out hS
      unfold batV at hC35 hC44
      have HC35 := Lib.hid hC35
      have HC44 := Lib.hid hC44
      clear hC35 hC44
      go_upto_region 17 with (fail)
      go_region_held3 (fun W => (W.cell? ⟨bX, 0, none⟩ = some (.slice S1 PL.length c1) ∧ W.cell? ⟨bX, 1, none⟩ = some (.bool PF)) ∧ W.cell? ⟨bY, 0, none⟩ = some (.slice S2 PL.length c2) ∧ W.cell? ⟨bY, 1, none⟩ = some (.bool PF))
        (first | exact HSV.out _ HX.out HY.out | exact HSV.out _ HX.out.drew HY.out.drew)
        (first
          | (go_at_call 35
             refine (HC35.out _ (by first | exact HG.out | exact HG.out.drew) (by first | exact HS.out | exact HS.out.drew)).mono ?_
             rintro e wy ⟨r18, nb2, rfl, hr, hGy, hnb2, hTu⟩
             have hTu : Turn (fun j => j = mb) wz wy := ⟨hTu.os, hTu.tape, hTu.output, hTu.size, hTu.block⟩
             have HP := Lib.hid hr
             have hTt : ∀ (j : Nat) (t : TypeId) (cs : Array Value), Blk wz j t cs → ¬ j = mb := fun j t cs kk e => by
               obtain ⟨_, f, hm, _⟩ := HG.out
               subst e
               exact hm.not_blk kk rfl
             replace HR := Lib.hid (HR.out.turn hTu (fun jj t cs e kk => absurd e (hTt jj t cs kk)))
             replace HX := Lib.hid (HX.out.turn hTu (hTt _ _ _ HX.out))
             replace HY := Lib.hid (HY.out.turn hTu (hTt _ _ _ HY.out))
             replace HZk := Lib.hid (HZk.out.turn hTu (hTt _ _ _ HZk.out))
             replace HT := Lib.hid (HT.out.turn hTu (fun _ _ kk => hTt _ _ _ kk))
             replace HBa := Lib.hid (HBa.out.turn hTu hTt)
             replace HB := Lib.hid (below_turn HB.out hTu (fun i hi e => by omega))
             replace HG := Lib.hid hGy
             replace HS := Lib.hid trivial
             clear hr hGy hTu hTt
             rename World => wz)
          | (go_at_call 44
             refine (HC44.out _ (by exact HR.out) (by first | exact HT.out | exact HT.out.drew)).mono ?_
             rintro e wy ⟨r19, rfl, hr, hRy, hTu⟩
             have hTu : Turn (fun j => j = b) wz wy := ⟨hTu.os, hTu.tape, hTu.output, hTu.size, hTu.block⟩
             have HP2 := Lib.hid hr
             obtain ⟨cs91, hb91⟩ := HR.out.blk
             replace HP := Lib.hid (HP.out.turn hTu (fun _ _ kk e => Blk.ne_ kk hb91 (by decide) e))
             replace HG := Lib.hid (HG.out.turnT hTu (fun j e => by rw [e]; exact ⟨_, hb91⟩))
             replace HX := Lib.hid (HX.out.turn hTu (fun e => Blk.ne_ HX.out hb91 (by decide) e))
             replace HY := Lib.hid (HY.out.turn hTu (fun e => Blk.ne_ HY.out hb91 (by decide) e))
             replace HZk := Lib.hid (HZk.out.turn hTu (fun e => Blk.ne_ HZk.out hb91 (by decide) e))
             replace HBa := Lib.hid (HBa.out.turnB hTu hb91 (by decide) (by decide))
             replace HB := Lib.hid (below_turn HB.out hTu (fun i hi e => by omega))
             replace HR := Lib.hid hRy
             clear hr hRy hTu hb91
             rename World => wz))
      have HFc := Lib.hid (HF.out.carry PL)
      have hcl := (carry_sub HF.out.rise PL).length_le
      obtain ⟨W0, HW0⟩ : ∃ W0, Hid (W0 = cW bs) := ⟨_, Lib.hid rfl⟩
      obtain ⟨F0, HF0⟩ : ∃ W0, Hid (W0 = cF bs) := ⟨_, Lib.hid rfl⟩
      obtain ⟨U0, HU0⟩ : ∃ W0, Hid (W0 = cU bs) := ⟨_, Lib.hid rfl⟩
      have HC45 := Lib.hid fun (W : World) (h : Bats w4.heap.size W (.slice A5 bs.length c5) bs) => show Calls Try.prog 45 #[.slice A5 bs.length c5] W fun e w' => e = .returned (.agg #[.int .i64 W0, .int .i64 F0, .int .i64 U0]) ∧ Below W.heap.size W w' from by
        have := cost_any _ bs W h.bl (by omega) HBl.out
        rwa [← HW0.out, ← HF0.out, ← HU0.out] at this
      rw [← HW0.out, ← HF0.out, ← HU0.out] at HZk
      clear HW0 HF0 HU0 HBl
      have HSZ := Lib.hid fun (W : World) (h : Blk W bT 74 #[.int .i64 W0, .int .i64 F0, .int .i64 U0]) => show W.cell? ⟨bT, 0, none⟩ = some (.int .i64 W0) ∧ W.cell? ⟨bT, 1, none⟩ = some (.int .i64 F0) ∧ W.cell? ⟨bT, 2, none⟩ = some (.int .i64 U0) from ⟨h.cell 0, h.cell 1, h.cell 2⟩
      clear HX HY HSV HT HS
      generalize carryG x PL = xc at *
      generalize (carryW x PL).1 = cl at *
      go_upto_region 18 with (fail)
      go_region_held3 (fun W => W.cell? ⟨bT, 0, none⟩ = some (.int .i64 W0) ∧ W.cell? ⟨bT, 1, none⟩ = some (.int .i64 F0) ∧ W.cell? ⟨bT, 2, none⟩ = some (.int .i64 U0))
        (first | exact HSZ.out _ HZk.out | exact HSZ.out _ HZk.out.drew)
        (first
          | (go_at_call 45
             refine (HC45.out _ (by exact HBa.out)).mono ?_
             rintro e wy ⟨rfl, hb⟩
             have hb : Below wz.heap.size wz wy := ⟨hb.os, hb.tape, hb.output, hb.size, hb.block⟩
             replace HP := Lib.hid (HP.out.below hb)
             replace HP2 := Lib.hid (HP2.out.below hb)
             replace HG := Lib.hid (HG.out.below hb)
             replace HR := Lib.hid (HR.out.below hb)
             replace HZk := Lib.hid (HZk.out.below hb HZk.out.lt)
             replace HB := Lib.hid (HB.out.trans (hb.mono HB.out.size))
             replace HBa := Lib.hid trivial
             clear hb HC45
             rename World => wz)
          | (go_at_call 39
             refine (sameInts_same _ _ cl _ (by exact HP.out) (by exact HP2.out)).mono ?_
             rintro e wy ⟨rfl, hb⟩
             have hb : Below wz.heap.size wz wy := ⟨hb.os, hb.tape, hb.output, hb.size, hb.block⟩
             replace HG := Lib.hid (HG.out.below hb)
             replace HR := Lib.hid (HR.out.below hb)
             replace HZk := Lib.hid (HZk.out.below hb HZk.out.lt)
             replace HB := Lib.hid (HB.out.trans (hb.mono HB.out.size))
             replace HP := Lib.hid trivial
             clear hb
             rename World => wz)
          | (go_at_call 15
             refine (alls_any g mb _ xc _ (by exact HG.out) HFc.out.rise (by omega)).mono ?_
             rintro e wy ⟨ra, rfl, hra, hb⟩
             have hb : Below wz.heap.size wz wy := ⟨hb.os, hb.tape, hb.output, hb.size, hb.block⟩
             have HQ := Lib.hid hra.arr
             replace HR := Lib.hid (HR.out.below hb)
             replace HZk := Lib.hid (HZk.out.below hb HZk.out.lt)
             replace HB := Lib.hid (HB.out.trans (hb.mono HB.out.size))
             clear hb hra
             rename World => wz)
          | (go_at_call 40
             refine (rall_any b xc _ (by exact HR.out) (by omega)).mono ?_
             rintro e wy ⟨rb, rfl, hrb, hb⟩
             have hb : Below wz.heap.size wz wy := ⟨hb.os, hb.tape, hb.output, hb.size, hb.block⟩
             have HQ2 := Lib.hid hrb.arr
             replace HQ := Lib.hid (HQ.out.below hb)
             replace HZk := Lib.hid (HZk.out.below hb HZk.out.lt)
             replace HB := Lib.hid (HB.out.trans (hb.mono HB.out.size))
             clear hb hrb
             rename World => wz)
          | (go_at_call 39
             refine (sameInts_same _ _ _ _ (by exact HQ.out) (by exact HQ2.out)).mono ?_
             rintro e wy ⟨rfl, hb⟩
             have hb : Below wz.heap.size wz wy := ⟨hb.os, hb.tape, hb.output, hb.size, hb.block⟩
             replace HZk := Lib.hid (HZk.out.below hb HZk.out.lt)
             replace HB := Lib.hid (HB.out.trans (hb.mono HB.out.size))
             clear hb
             rename World => wz)
          | (go_at_call 31
             refine (works16_any _).mono ?_
             rintro e wy ⟨rfl, hb⟩
             have hb : Below wz.heap.size wz wy := ⟨hb.os, hb.tape, hb.output, hb.size, hb.block⟩
             replace HZk := Lib.hid (HZk.out.below hb HZk.out.lt)
             replace HB := Lib.hid (HB.out.trans (hb.mono HB.out.size))
             clear hb
             rename World => wz))
      all_goals
        go_wp2
        go_ret
        exact ⟨by first | rfl | simp, HB.out⟩
end Go.Proofs.Ytmkfaibjjbgbbaa
namespace Go.Proofs.Ytmkfaibjjbgbbaa.planTells
open Go.ChangeShapes Go.WideShapes Go.ChangeAt Go.RowKit
set_option linter.unusedVariables false

set_option maxRecDepth 100000 in
theorem lifted (os : Os) (started : os.Started) (H : Type) (enc : TypeId × Value → H) :
    ReturnsInHanded {} Try.checked os 8 .any (Rows.planTellsSpec.pre6 enc Try.prog Try.f8 Rows.planTellsRow.domain false) (Rows.planTellsSpec.post enc Try.prog Try.f8 false true false false) := by
  refine returnsInHanded_of_change (C := Try.checked) (by kernel_rfl) started (by kernel_rfl) Try.func8
    (ChangeSpec.witness6 (enc := enc) (C := Try.checked) false ⟨#[], #[.slice none 0 0, .slice none 0 0, .slice none 0 0], []⟩ 8 (by kernel_rfl) (by kernel_rfl) (by kernel_rfl) (by kernel_rfl)) ?_
  intro W base args ds gs before hval0 hW hcnd _
  have hval : ∀ (j : Nat) t v, Try.f8.params[j]? = some t → args[j]? = some v → Value.okWide Try.prog W .any base t v := hval0
  have hW' := hW
  obtain ⟨p, q, hA0, hV, rfl, hfz, hnd⟩ := hW
  have hA : DataW.TrodAll enc Try.prog W 0 (fun _ => true) true Try.f8.params.toList args.toList ds p := hA0
  rw [Try.params8] at hA hval
  obtain ⟨v0, vs0, d0, ds0, p0, q0, hargs, rfl, rfl, h0, r0⟩ := trodAll_cons hA
  obtain ⟨v1, vs1, d1, ds1, p1, q1, rfl, rfl, rfl, h1, r1⟩ := trodAll_cons r0
  obtain ⟨v2, vs2, d2, ds2, p2, q2, rfl, rfl, rfl, h2, r2⟩ := trodAll_cons r1
  obtain ⟨rfl, rfl, rfl⟩ := trodAll_nil r2
  obtain rfl : args = #[v0, v1, v2] := by cases args; simp_all
  obtain ⟨rfl, rfl⟩ := trodVars_none hV
  have k0 := h0
  have k1 := h1
  have k2 := h2
  have lt0 : ∀ x ∈ p0, x.block < W.heap.size := by obtain ⟨m, hm⟩ := k0; exact DataW.trod_lt m _ _ _ hm
  have lt1 : ∀ x ∈ p1, x.block < W.heap.size := by obtain ⟨m, hm⟩ := k1; exact DataW.trod_lt m _ _ _ hm
  have lt2 : ∀ x ∈ p2, x.block < W.heap.size := by obtain ⟨m, hm⟩ := k2; exact DataW.trod_lt m _ _ _ hm
  obtain ⟨A, n, c, l, rfl, ha, hn, hc⟩ := pats_open (hval 0 50 v0 rfl rfl) h0
  obtain ⟨A1, n1, c1, rfl⟩ := okWide_slice Try.underlying28 (hval 1 28 v1 rfl rfl)
  obtain ⟨A2, n2, c2, rfl⟩ := okWide_slice Try.underlying28 (hval 2 28 v2 rfl rfl)
  obtain ⟨m1, hm1⟩ := h1
  obtain ⟨m2, hm2⟩ := h2
  obtain ⟨zs1, hrow1, hwf1⟩ := row_open Try.underlying28 Try.underlying3 cells3 (v := .slice A1 n1 c1) (by simpa [Value.cells] using hm1)
  obtain ⟨zs2, hrow2, hwf2⟩ := row_open Try.underlying28 Try.underlying3 cells3 (v := .slice A2 n2 c2) (by simpa [Value.cells] using hm2)
  clear hA0 hval0
  refine (planTells_any A n c l _ _ zs1 zs2 W ha hn hc hrow1 hwf1 hrow2 hwf2).mono fun e W' ⟨he, bel⟩ => ?_
  subst he
  have lo := laidOut
  exact ⟨_, rfl, _, _, _, [], _, [], hW', trodAll_mk1 (shut_bool Try.underlying4 _), (trodAll_cons_mk (Below.trod laidOut (by kernel_rfl) (of_decide_eq_true (by kernel_rfl)) k0 bel lt0) (trodAll_cons_mk (Below.trod laidOut (by kernel_rfl) (of_decide_eq_true (by kernel_rfl)) k1 bel lt1) (trodAll_cons_mk (Below.trod laidOut (by kernel_rfl) (of_decide_eq_true (by kernel_rfl)) k2 bel lt2) trodAll_mk0))), rfl, bel.frame _, fun h => by cases h⟩

theorem PlanTells_holds : Rows.PlanTellsSaid :=
  OpenClaim.holds_of_wide 8 Try.f8 rfl rfl rfl rfl rfl rfl rfl ⟨rfl, rfl, rfl, rfl, rfl⟩ rfl rfl rfl rfl rfl (by kernel_rfl) Try.func8 (by kernel_rfl)
    (of_decide_eq_true (by kernel_rfl)) (by unfold Func.isWrapper; first | (rw [if_pos (by decide +kernel)]; kernel_rfl) | (rw [if_neg (by decide +kernel)]; exact ⟨rfl, rfl⟩))
    (fun os started H enc _ => lifted os started H enc)
#print axioms PlanTells_holds
end Go.Proofs.Ytmkfaibjjbgbbaa.planTells
