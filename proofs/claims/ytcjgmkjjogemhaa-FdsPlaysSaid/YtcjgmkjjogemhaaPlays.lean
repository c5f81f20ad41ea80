/- The walk of the law FdsPlays: it answers true. -/
import Derived.Test.YtcjgmkjjogemhaaMid
import Derived.Deep.DeepCutAuto
import Derived.Deep.CutBlock
namespace Go.Proofs.Ytcjgmkjjogemhaa
open Go.RowKit

def PlaysRel (B N1 : Nat) (W : World) (x : Value) (wr : World) : Prop :=
  ∃ bx T I F, x = .pointer (some ⟨bx, 0, none⟩) ∧ Both B N1 wr bx T I F ∧ Below B W wr

def MidRel (B N1 ab bx : Nat) (x : Int × Int × Int) (W w : World) : Prop := ∃ T I F, Mid B N1 ab x W w bx T I F

set_option maxRecDepth 100000 in
set_option maxHeartbeats 1000000 in
theorem plays_any (A : Option Addr) (n c : Nat) (l : List (Int × Int × Int)) (w : World) (ha : Acts w A n l) (_hn : n ≤ c) (_hc : c ≤ 9223372036854775807) :
    Calls Try.prog 4 #[.slice A n c] w fun e w' => e = .returned (.bool true) ∧ Below w.heap.size w w' := by
  have HA := Lib.hid ha
  clear ha
  go_enter Try.func4, Try.ntmps4
  go_wp2_with fail
  refine (new_any _).mono ?_
  rintro e w0 ⟨rfl, hT0, hb0⟩
  have HT0 := Lib.hid hT0
  have HB0 := Lib.hid hb0
  clear hT0 hb0
  go_wp2_with fail
  refine (rnew_any _).mono ?_
  rintro e w1 ⟨rfl, hR1, hb1⟩
  have hz : w.heap.size ≤ w0.heap.size := HB0.out.size
  have hz0 : w.heap.size < w0.heap.size := HT0.out.tab.lt
  have h0 : PlaysRel w.heap.size w0.heap.size w (.pointer (some ⟨w.heap.size, 0, none⟩)) w1 := by
    refine ⟨_, _, _, _, rfl, ⟨HT0.out.below hb1, hR1, Sim.start, fun j hj => ?_, hz⟩, HB0.out.trans (hb1.mono hz)⟩
    rcases hj with rfl | ⟨i, x, _, hx, _⟩
    · exact ⟨by omega, Nat.le_refl _⟩
    · cases hx
  have H0 := Lib.hid h0
  clear h0 hR1 hb1
  generalize hN1 : w0.heap.size = N1 at *
  clear hN1
  go_wp2_with fail
  go_loopw [3, 5] (fun x i wr => ∃ k : Nat, k ≤ n ∧ i = .int .i64 k ∧ PlaysRel w.heap.size N1 w x wr) (fun _ i _ => n - (intOf i).toNat)
  case atStart => exact ⟨0, Nat.zero_le _, rfl, H0.out⟩
  case round =>
    clear HT0 HB0 H0
    obtain ⟨k, hk, rfl, bx, T, I, F, rfl, hboth, hbel⟩ := hrel
    have HO := Lib.hid hboth
    have HB := Lib.hid hbel
    clear hboth hbel
    by_cases hlt' : k < n ∧ k < 60
    · obtain ⟨hlt, hlt60⟩ := hlt'
      obtain ⟨x, hx⟩ : ∃ x, l[k]? = some x := ⟨_, List.getElem?_eq_getElem (by rw [HA.out.1]; exact hlt)⟩
      obtain ⟨g, o, eA, hg, h0, h1, h2⟩ := HA.out.2 k x hx
      subst eA
      clear hx
      have c0 := (HB.out.cell (p := ⟨g, o + k * 3, none⟩) hg).trans h0
      have c1 := (HB.out.cell (p := ⟨g, o + k * 3 + 1, none⟩) hg).trans h1
      have c2 := (HB.out.cell (p := ⟨g, o + k * 3 + 2, none⟩) hg).trans h2
      have hgw : g < wr.heap.size := Nat.lt_of_lt_of_le hg HB.out.size
      clear h0 h1 h2
      have HM := Lib.hid fun W => among_any x.1 7 W (by omega) (by omega)
      have i1 : (0 : Int) ≤ (k : Int) := by omega
      have i2 : (k : Int) < (n : Int) := by omega
      generalize hM : amongF x.1 7 = M at *
      have hmid := Mid.start x HO.out HB.out (Nat.le_refl _)
      have HMid := Lib.hid hmid
      have n1 : ¬ wr.heap.size = bx := fun e => HMid.out.far.2.2 bx (.inl rfl) e.symm
      have n2 : ¬ N1 = bx := fun e => (HMid.out.both.apart bx (.inl rfl)).1 e.symm
      have n3 : ¬ wr.heap.size = N1 := HMid.out.far.1
      have hBw : w.heap.size ≤ (wr.alloc (.cells #[.int .i64 x.1, .int .i64 x.2.1, .int .i64 x.2.2] 30)).heap.size := HMid.out.below.size
      clear hmid
      go_upto_block 2 with (go_at_call 9; refine (HM.out _).mono ?_; rintro e w' ⟨rfl, rfl⟩)
      go_cut [8, 9, 10, 11, 12, 13, 14, 15] (fun v8 v9 v10 v11 v12 v13 v14 v15 wc => MidRel w.heap.size N1 wr.heap.size bx x w wc)
      case first =>
        by_cases hm4 : M < 4
        · go_wp2_with fail
          refine (open_all T bx _ _ _ HMid.out.both.tab).mono ?_
          rintro e w2 ⟨m, q, T', rfl, hrel, hT2, ht2⟩
          have hact := HMid.out.act.turn ht2 n1
          have a1 := hact.cell 1
          have a2 := hact.cell 2
          simp at a1 a2
          have HR2 := Lib.hid (HMid.out.both.ref.turn ht2 n2)
          have HT2 := Lib.hid hT2
          have HRel := Lib.hid hrel
          have Ht2 := Lib.hid ht2
          clear hact hrel hT2 ht2
          go_wp2_with fail
          refine (ropen_all I F N1 _ _ w2 HR2.out).mono ?_
          rintro e w3 ⟨m', q', I', F', rfl, hrel', hR3, ht3⟩
          obtain ⟨rfl, rfl, hsim⟩ := HMid.out.both.sim.openRel HRel.out hrel'
          have hfin : MidRel w.heap.size N1 wr.heap.size bx x w w3 :=
            ⟨_, _, _, HMid.out.step ((Ht2.out.mono fun i _ e => .inl (.inl e)).trans (ht3.mono (S' := fun j => foot bx T j ∨ j = N1) fun i _ e => .inr e) fun i _ e => e)
              (HT2.out.turn ht3 fun j hj e => by
                rcases foot_open HRel.out hj with h | h
                · exact (HMid.out.both.apart j h).1 e
                · have := HMid.out.both.ref.lt; omega) hR3 hsim (fun j hj => foot_open HRel.out hj) hBw⟩
          have HF := Lib.hid hfin
          clear hfin hrel' hR3 ht3 hsim
          go_wp2_with fail
          go_meet
          exact HF.out
        · by_cases hm6 : M < 6
          · go_wp2_with fail
            refine (close_all T bx _ _ HMid.out.both.tab).mono ?_
            rintro e w2 ⟨rfl, hT2, ht2⟩
            unfold gotten
            have hact := HMid.out.act.turn ht2 n1
            have a1 := hact.cell 1
            simp at a1
            have hl2 := hact.lt
            have HR2 := Lib.hid (HMid.out.both.ref.turn ht2 n2)
            have HT2 := Lib.hid hT2
            have Ht2 := Lib.hid ht2
            clear hact hT2 ht2
            go_wp2_with fail
            refine (rclose_all I F N1 _ _ (HR2.out.alloc _)).mono ?_
            rintro e w3 ⟨rfl, hR3, ht3⟩
            have b0 := World.cell?_of_block (a := ⟨w2.heap.size, 0, none⟩) (ht3.block w2.heap.size (by simp) (by have := HR2.out.lt; omega))
            have b1 := World.cell?_of_block (a := ⟨w2.heap.size, 1, none⟩) (ht3.block w2.heap.size (by simp) (by have := HR2.out.lt; omega))
            have b2 := World.cell?_of_block (a := ⟨w2.heap.size, 2, none⟩) (ht3.block w2.heap.size (by simp) (by have := HR2.out.lt; omega))
            simp [go_sem] at b0 b1 b2
            have hl3 : w2.heap.size < w3.heap.size := by have := ht3.size; simp at this; omega
            have hgot := HMid.out.both.sim.got x.2.1
            have hfin : MidRel w.heap.size N1 wr.heap.size bx x w (w3.alloc (.cells #[.int .i64 (getF T x.2.1).1, .int .i64 (getF T x.2.1).2.1, .int .i64 (getF T x.2.1).2.2.1] 39)) :=
              ⟨_, _, _, HMid.out.step (((Ht2.out.mono fun i _ e => .inl (.inl e)).alloc _).trans ((ht3.mono (S' := fun j => foot bx T j ∨ j = N1) fun i _ e => .inr e).alloc _) fun i _ e => e)
                (((HT2.out.alloc _).turn ht3 fun j hj e => (HMid.out.both.apart j (foot_close hj)).1 e).alloc _) (hR3.alloc _) (HMid.out.both.sim.closeT x.2.1) (fun j hj => .inl (foot_close hj)) hBw⟩
            have HF := Lib.hid hfin
            clear hfin hR3 ht3
            rw [hgot]
            clear hgot
            unfold gotten
            go_wp2_with fail
            go_meet
            exact HF.out
          · have s1 : (wr.alloc (.cells #[.int .i64 x.1, .int .i64 x.2.1, .int .i64 x.2.2] 30)).drew.cell? ⟨wr.heap.size, 1, none⟩ = some (.int .i64 x.2.1) ∧ (wr.alloc (.cells #[.int .i64 x.1, .int .i64 x.2.1, .int .i64 x.2.2] 30)).drew.cell? ⟨wr.heap.size, 2, none⟩ = some (.int .i64 x.2.2) := by
              exact ⟨HMid.out.act.cell 1, HMid.out.act.cell 2⟩
            have HS := Lib.hid s1
            have hse : (seekE T x.2.1 x.2.2 != rseekE I x.2.1 x.2.2) = false := by rw [HMid.out.both.sim.seekE]; simp
            have hk2 := Lib.hid (show ∀ W', Turn (foot bx T) (wr.alloc (.cells #[.int .i64 x.1, .int .i64 x.2.1, .int .i64 x.2.2] 30)).drew W' → W'.cell? ⟨wr.heap.size, 1, none⟩ = some (.int .i64 x.2.1) ∧ W'.cell? ⟨wr.heap.size, 2, none⟩ = some (.int .i64 x.2.2) from fun W' h =>
              ⟨(World.cell?_of_block (a := ⟨wr.heap.size, 1, none⟩) (h.block _ (by simp) fun e => HMid.out.far.2.2 _ e rfl)).trans s1.1, (World.cell?_of_block (a := ⟨wr.heap.size, 2, none⟩) (h.block _ (by simp) fun e => HMid.out.far.2.2 _ e rfl)).trans s1.2⟩)
            clear s1
            go_wp2_with fail
            go_region_held3 (fun w' => w'.cell? ⟨wr.heap.size, 1, none⟩ = some (.int .i64 x.2.1) ∧ w'.cell? ⟨wr.heap.size, 2, none⟩ = some (.int .i64 x.2.2)) (first | exact HS.out | exact hk2.out _ ht2 | exact hk3.out)
              (first | (go_at_call 15; refine (seek_all T bx _ _ _ (by exact HMid.out.both.tab.drew)).mono ?_; rintro e w2 ⟨rfl, hT2, ht2⟩)
                     | (go_at_call 16; refine (rseek_all I F N1 _ _ _ (by exact HMid.out.both.ref.drew.turn ht2 fun e => (HMid.out.both.apart _ e).1 rfl)).mono ?_; rintro e w3 ⟨rfl, hR3, ht3⟩; have hk3 := Lib.hid (show w3.cell? ⟨wr.heap.size, 1, none⟩ = some (.int .i64 x.2.1) ∧ w3.cell? ⟨wr.heap.size, 2, none⟩ = some (.int .i64 x.2.2) from
                        ⟨(World.cell?_of_block (a := ⟨wr.heap.size, 1, none⟩) (ht3.block _ (Nat.lt_of_lt_of_le (by simp) ht2.size) n3)).trans (hk2.out _ ht2).1, (World.cell?_of_block (a := ⟨wr.heap.size, 2, none⟩) (ht3.block _ (Nat.lt_of_lt_of_le (by simp) ht2.size) n3)).trans (hk2.out _ ht2).2⟩)))
            have hfin : MidRel w.heap.size N1 wr.heap.size bx x w w3 :=
              ⟨_, _, _, HMid.out.step (((Turn.refl (fun j => foot bx T j ∨ j = N1) _).drew.trans ht2 fun i _ e => .inl e).trans ht3 fun i _ e => .inr e)
                (hT2.turn ht3 fun j hj e => (HMid.out.both.apart j (foot_seek hj)).1 e) hR3 (HMid.out.both.sim.seekT x.2.1 x.2.2) (fun j hj => .inl (foot_seek hj)) hBw⟩
            have HF := Lib.hid hfin
            clear hfin hR3 ht3 hT2 ht2
            go_wp2_with fail
            go_meet
            exact HF.out
      case rest =>
        obtain ⟨T1, I1, F1, hm1⟩ := hcut
        have HM1 := Lib.hid hm1
        clear hm1 HMid HM c0 c1 c2 hgw i1 i2 n1 n2 n3 hBw HO HB
        go_wp2_with fail
        refine (copy_any T1 bx wc HM1.out.both.tab).mono ?_
        rintro e w4 ⟨T2, rfl, hT4, hcop, hb4⟩
        have HT4 := Lib.hid hT4
        have HC4 := Lib.hid hcop
        have HB4 := Lib.hid hb4
        clear hT4 hcop hb4
        go_wp2_with fail
        refine (close_all T1 bx 0 w4 (HM1.out.both.tab.below HB4.out)).mono ?_
        rintro e w5 ⟨rfl, hT5, ht5⟩
        have HT5 := Lib.hid hT5
        have Ht5 := Lib.hid ht5
        clear hT5 ht5
        go_wp2_with fail
        refine (seek_all _ bx 1 999 _ HT5.out).mono ?_
        rintro e w6 ⟨rfl, hT6, ht6⟩
        have HM6 := Lib.hid (HM1.out.copied HT4.out HC4.out HB4.out Ht5.out ht6)
        have a1 := HM6.out.act.cell 1
        simp at a1
        clear hT6 ht6 HT4 HC4 HB4 HT5 Ht5 HM1
        generalize wc.heap.size = nx at *
        go_wp2_with fail
        refine (get_all T2 nx _ w6 HM6.out.both.tab).mono ?_
        rintro e w7 ⟨rfl, hb7⟩
        unfold gotten
        have HM7 := Lib.hid (HM6.out.grow hb7)
        have HM8 := Lib.hid (HM7.out.grow ((Below.refl _ _).alloc (Nat.le_refl _) (.cells #[.int .i64 (getF T2 x.2.1).1, .int .i64 (getF T2 x.2.1).2.1, .int .i64 (getF T2 x.2.1).2.2.1] 33)))
        clear hb7 a1
        have a1 := HM7.out.act.cell 1
        simp at a1
        have hl7 := HM7.out.act.lt
        go_wp2_with fail
        refine (rget_all I1 F1 N1 _ _ HM8.out.both.ref).mono ?_
        rintro e w8 ⟨rfl, hb8⟩
        rw [HM8.out.both.sim.got]
        unfold gotten
        have b0 := hb8.cell (p := ⟨w7.heap.size, 0, none⟩) (by simp)
        have b1 := hb8.cell (p := ⟨w7.heap.size, 1, none⟩) (by simp)
        have b2 := hb8.cell (p := ⟨w7.heap.size, 2, none⟩) (by simp)
        simp [go_sem] at b0 b1 b2
        have hl8 : w7.heap.size < w8.heap.size := by have := hb8.size; simp at this; omega
        have HM9 := Lib.hid ((HM8.out.grow hb8).grow ((Below.refl _ _).alloc (Nat.le_refl _) (.cells #[.int .i64 (getF T2 x.2.1).1, .int .i64 (getF T2 x.2.1).2.1, .int .i64 (getF T2 x.2.1).2.2.1] 39)))
        clear hb8 a1 hl7 HM6 HM7 HM8
        generalize getF T2 x.2.1 = r at *
        go_wp2_with fail
        have hsf : ∀ V, Below (w8.alloc (.cells #[.int .i64 r.1, .int .i64 r.2.1, .int .i64 r.2.2.1] 39)).heap.size (w8.alloc (.cells #[.int .i64 r.1, .int .i64 r.2.1, .int .i64 r.2.2.1] 39)) V →
            V.cell? ⟨w7.heap.size, 0, none⟩ = some (.int .i64 r.1) ∧ V.cell? ⟨w7.heap.size, 1, none⟩ = some (.int .i64 r.2.1) ∧ V.cell? ⟨w7.heap.size, 2, none⟩ = some (.int .i64 r.2.2.1) ∧
            V.cell? ⟨w8.heap.size, 0, none⟩ = some (.int .i64 r.1) ∧ V.cell? ⟨w8.heap.size, 1, none⟩ = some (.int .i64 r.2.1) ∧ V.cell? ⟨w8.heap.size, 2, none⟩ = some (.int .i64 r.2.2.1) ∧
            V.cell? ⟨wr.heap.size, 1, none⟩ = some (.int .i64 x.2.1) := by
          intro V hV
          have q : ∀ (p : Addr) (u : Value), p.block < w8.heap.size + 1 → (w8.alloc (.cells #[.int .i64 r.1, .int .i64 r.2.1, .int .i64 r.2.2.1] 39)).cell? p = some u → V.cell? p = some u := fun p u hp hu => (hV.cell (p := p) (by simpa using hp)).trans hu
          have hm := HM9.out.act
          have hml := hm.lt
          simp at hml
          refine ⟨q _ _ (by simp; omega) (by simp [go_sem, b0, hl8]), q _ _ (by simp; omega) (by simp [go_sem, b1, hl8]), q _ _ (by simp; omega) (by simp [go_sem, b2, hl8]), q _ _ (by simp) (by simp [go_sem]), q _ _ (by simp) (by simp [go_sem]), q _ _ (by simp) (by simp [go_sem]), q _ _ (by simpa using hml) (by have := hm.cell 1; simpa using this)⟩
        have HSF := Lib.hid hsf
        clear hsf b0 b1 b2 hl8
        generalize hw9 : w8.alloc (.cells #[.int .i64 r.1, .int .i64 r.2.1, .int .i64 r.2.2.1] 39) = w9 at *
        clear hw9
        generalize w8.heap.size = p8 at *
        generalize w7.heap.size = p7 at *
        generalize wr.heap.size = pr at *
        have hB0 : Below w9.heap.size w9 w9.drew := (Below.refl _ _).drew
        have k19 := Lib.hid (count_in HM9.out x.2.1)
        have k20 := Lib.hid (rcount_in HM9.out x.2.1)
        have k22 := Lib.hid (used_in HM9.out)
        have k23 := Lib.hid (rused_in HM9.out)
        have k21 := Lib.hid (same_in HM9.out)
        have k24 := Lib.hid (full_in HM9.out)
        have hL : ((((rusedTo I1 8).length : Int) == 8) != (((rusedTo I1 8).length : Int) == 8)) = false := by simp
        go_region_held3 (fun V => V.cell? ⟨p7, 0, none⟩ = some (.int .i64 r.1) ∧ V.cell? ⟨p7, 1, none⟩ = some (.int .i64 r.2.1) ∧ V.cell? ⟨p7, 2, none⟩ = some (.int .i64 r.2.2.1) ∧
            V.cell? ⟨p8, 0, none⟩ = some (.int .i64 r.1) ∧ V.cell? ⟨p8, 1, none⟩ = some (.int .i64 r.2.1) ∧ V.cell? ⟨p8, 2, none⟩ = some (.int .i64 r.2.2.1) ∧
            V.cell? ⟨pr, 1, none⟩ = some (.int .i64 x.2.1)) (exact HSF.out _ (by assumption))
          (first
            | (go_at_call 19; refine (k19.out _ (by assumption)).mono ?_; rintro e wa ⟨rfl, hba⟩)
            | (go_at_call 20; refine (k20.out _ (by assumption)).mono ?_; rintro e wb ⟨rfl, hbb⟩)
            | (go_at_call 22; refine (k22.out _ (by assumption)).mono ?_; rintro e wd ⟨v1, rfl, hbd, hi1⟩)
            | (go_at_call 21; refine (k21.out _ _ _ (by assumption) (by assumption) (by assumption)).mono ?_; rintro e wf ⟨rfl, hbf⟩)
            | (go_at_call 24; refine (k24.out _ (by assumption)).mono ?_; rintro e wg ⟨rfl, hbg⟩)
            | (go_at_call 23; refine (k23.out _ (by assumption)).mono ?_; rintro e we ⟨A1, d1, rfl, hbe, hi2, hpres⟩; have hi3 := hpres _ hi1; clear hpres hi1)
            | (go_at_call 23; refine (k23.out _ (by assumption)).mono ?_; rintro e wh ⟨A2, d2, rfl, hbh, hi4, hpres⟩; clear hpres))
        have hfin : PlaysRel w.heap.size N1 w (.pointer (some ⟨nx, 0, none⟩)) wh := ⟨nx, T2, I1, F1, rfl, (HM9.out.grow hbh).both, (HM9.out.grow hbh).below⟩
        have HF := Lib.hid hfin
        clear hfin hba hbb hbd hbf hbg hbh hbe hi2 hi3 hi4 hB0 k19 k20 k21 k22 k23 k24 HSF HM9
        go_wp2_with fail
        go_roundw
        case rel => exact ⟨k + 1, by omega, by go_num, HF.out⟩
        case measure => simp [intOf]; omega
    · have hor : (k < n ∧ (60 : Int) ≤ (k : Int)) ∨ (n : Int) ≤ (k : Int) := by omega
      clear hlt' HO
      rcases hor with ⟨hlt, h60⟩ | hge
      all_goals
        go_wp2_with fail
        refine (works_any _).mono ?_
        rintro e wz ⟨rfl, hbz⟩
        have HZ := Lib.hid (HB.out.trans (hbz.mono HB.out.size))
        clear hbz
        go_wp2_with fail
        go_ret
        exact ⟨rfl, HZ.out⟩
end Go.Proofs.Ytcjgmkjjogemhaa
