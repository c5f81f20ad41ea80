/- GraphGoes, the walk. -/
import Derived.Test.YtmkfaibjjbgbbaaGoes
import Derived.Test.YtmkfaibjjbgbbaaPatch
namespace Go.Proofs.Ytmkfaibjjbgbbaa
open Go.RowKit
set_option linter.unusedVariables false

/-- An act as it lies in a slice. -/
structure ActD where
  dn : Int
  nn : Int
  p : Pt
  vd : Value
  vn : Value
  near : Bool
def ActD.cells (a : ActD) : Array Value :=
  #[.int .i64 a.dn, .int .i64 a.nn, .int .i64 a.p.id, .int .i64 a.p.sec, .int .i64 a.p.off, a.vd, .int .i64 a.p.kind, a.vn, .int .i64 a.p.owner, .int .i64 a.p.child, .bool a.p.written, .bool a.near]
def ActsR (w : World) (A : Option Addr) (n : Nat) (l : List ActD) : Prop :=
  l.length = n ∧ ∀ (i : Nat) (a : ActD), l[i]? = some a → (∃ g o, A = some ⟨g, o, none⟩ ∧ g < w.heap.size ∧ ∀ (j : Nat) (u : Value), a.cells[j]? = some u → w.cell? ⟨g, o + i * 12 + j, none⟩ = some u) ∧ Row w a.vd (bytes a.p.data) ∧ Row w a.vn (ints a.p.needs)

theorem Mid.le {x y : G} {T : List Int} {c : Nat} (h : Mid x y T c) : c ≤ x.l.length := by
  rw [← h.len, ← h.cnt]
  exact List.length_filter_le _ _
theorem PtV.of_own {w : World} {b : Nat} {p : Pt} {ud un : Value} (h1 : w.ownsRow b 5 1 ud p.data.length (bytes p.data)) (h2 : Built b w un p.needs) : PtV w (p.val ud un) p := ⟨ud, un, rfl, Arr.of_own h1, h2.arr⟩
theorem near_len (p : Pt) (near : Bool) (last : Int) : (p.near near last).data.length ≤ 1000 ∧ (p.near near last).needs.length ≤ 1000 := by
  unfold Pt.near Pt.few
  split <;> simp <;> omega

set_option maxHeartbeats 4000000 in
set_option maxRecDepth 100000 in
theorem goes_any (A : Option Addr) (n c : Nat) (l : List ActD) (w : World) (hA : ActsR w A n l) (hn : n ≤ c) (hc : c ≤ 9223372036854775807) :
    Calls Try.prog 3 #[.slice A n c] w fun e w' => e = .returned (.bool true) ∧ Below w.heap.size w w' := by
  have HA := Lib.hid hA
  clear hA
  go_enter Try.func3, Try.ntmps3
  go_wp2_with fail
  refine (works_any w).mono ?_
  rintro e w0 ⟨rfl, hb0⟩
  have HB0 := Lib.hid hb0
  clear hb0
  go_wp2_with fail
  refine (new_any w0).mono ?_
  rintro e w1 ⟨g, mb, rfl, hG1, hb1, hgn, hmn⟩
  have hs0 := HB0.out.size
  have HB1 := Lib.hid (HB0.out.trans (hb1.mono hs0))
  have HG1 := Lib.hid hG1
  clear hG1 hb1
  go_wp2_with fail
  go_loopw [4, 5] (fun v i wr => ∃ k : Nat, k ≤ n ∧ k ≤ 50 ∧ i = .int .i64 k ∧ ∃ x : G, v = .int .i64 x.last ∧ Hid (Young x ∧ x.l.length ≤ k) ∧ x.last ≤ k ∧ Gr wr g mb k x ∧ Below w.heap.size w wr) (fun _ i _ => n - (intOf i).toNat)
  case atStart => exact ⟨0, Nat.zero_le _, by omega, rfl, G.none, rfl, ⟨Young.none, Nat.le_refl _⟩, by decide, HG1.out, HB1.out⟩
  case round =>
    obtain ⟨k, hk, hk50, rfl, x, rfl, hY, hlast, hG, hbel⟩ := hrel
    have HG := Lib.hid hG
    have HB := Lib.hid hbel
    have hsz := hbel.size
    have hl0 := hY.out.1.last.1
    by_cases hlt : k < n ∧ k < 50
    · obtain ⟨hlt, hlt50⟩ := hlt
      obtain ⟨a, ha⟩ : ∃ a, l[k]? = some a := ⟨_, List.getElem?_eq_getElem (by rw [HA.out.1]; exact hlt)⟩
      obtain ⟨⟨gb, o, eA, hgb, hcs⟩, hrd, hrn⟩ := HA.out.2 k a ha
      subst eA
      have HC := Lib.hid fun (j : Nat) (u : Value) (h : a.cells[j]? = some u) => (hbel.cell (p := ⟨gb, o + k * 12 + j, none⟩) hgb).trans (hcs j u h)
      have c0 : wr.cell? ⟨gb, o + k * 12, none⟩ = some (.int .i64 a.dn) := HC.out 0 _ rfl
      have c1 : wr.cell? ⟨gb, o + k * 12 + 1, none⟩ = some (.int .i64 a.nn) := HC.out 1 _ rfl
      have c2 : wr.cell? ⟨gb, o + k * 12 + 2, none⟩ = some (.int .i64 a.p.id) := HC.out 2 _ rfl
      have c3 : wr.cell? ⟨gb, o + k * 12 + 3, none⟩ = some (.int .i64 a.p.sec) := HC.out 3 _ rfl
      have c4 : wr.cell? ⟨gb, o + k * 12 + 4, none⟩ = some (.int .i64 a.p.off) := HC.out 4 _ rfl
      have c5 : wr.cell? ⟨gb, o + k * 12 + 5, none⟩ = some (a.vd) := HC.out 5 _ rfl
      have c6 : wr.cell? ⟨gb, o + k * 12 + 6, none⟩ = some (.int .i64 a.p.kind) := HC.out 6 _ rfl
      have c7 : wr.cell? ⟨gb, o + k * 12 + 7, none⟩ = some (a.vn) := HC.out 7 _ rfl
      have c8 : wr.cell? ⟨gb, o + k * 12 + 8, none⟩ = some (.int .i64 a.p.owner) := HC.out 8 _ rfl
      have c9 : wr.cell? ⟨gb, o + k * 12 + 9, none⟩ = some (.int .i64 a.p.child) := HC.out 9 _ rfl
      have c10 : wr.cell? ⟨gb, o + k * 12 + 10, none⟩ = some (.bool a.p.written) := HC.out 10 _ rfl
      have c11 : wr.cell? ⟨gb, o + k * 12 + 11, none⟩ = some (.bool a.near) := HC.out 11 _ rfl
      have i1 : (0 : Int) ≤ (k : Int) := by omega
      have i2 : (k : Int) < (n : Int) := by omega
      have HM := Lib.hid fun W => among_any a.dn 14 W (by omega) (by omega)
      have HPt := Lib.hid fun (W : World) (h : Below wr.heap.size wr W) => patch_any a.dn a.nn a.near a.vd a.vn a.p x.last W ((hrd.below hbel).below h) ((hrn.below hbel).below h) ⟨hl0, by omega⟩
      clear hG hbel ha hgb hcs hrd hrn HC
      generalize hM : amongF a.dn 14 = M at *
      unfold actV at HPt
      by_cases hm7 : M < 7
      · go_wp2_with (go_at_call 12; refine (HM.out _).mono ?_; rintro e w' ⟨rfl, rfl⟩)
        refine (HPt.out _ (Below.refl _ _)).mono ?_
        rintro e w2 ⟨ud, un, rfl, hu, hun, -, hb2⟩
        have HV2 := Lib.hid (PtV.of_own hu hun)
        have hs2 := hb2.size
        have HG2 := Lib.hid (HG.out.below hb2)
        have HB2 := Lib.hid (HB.out.trans (hb2.mono hsz))
        obtain ⟨hpl, hpn⟩ := near_len a.p a.near x.last
        have HY2 := Lib.hid (hY.out.1.add (a.p.near a.near x.last) (by omega))
        clear hu hun hb2 HPt HG HB c0 c1 c2 c3 c4 c5 c6 c7 c8 c9 c10 c11
        generalize a.p.near a.near x.last = p at *
        have HAdd := Lib.hid (add_any g mb k x _ p _ HG2.out HV2.out hpl hpn hl0 (by omega) (by omega) (fun q hq => (hY.out.1.all q hq).2.2.2.2))
        unfold Pt.val at HAdd
        go_wp2_with fail
        refine HAdd.out.mono ?_
        rintro e w3 ⟨rfl, hG3, hT3⟩
        have HG3 := Lib.hid hG3
        have HB3 := Lib.hid (below_turn HB2.out hT3 (fun i hi e => by omega))
        clear hG3 hT3 HG2 HB2 HAdd
        obtain ⟨y1, y2, y3, y4, y5⟩ := HY2.out
        have HY3 := Lib.hid (And.intro y1 (show (addG x p).2.2.l.length ≤ k + 1 from by have := hY.out.2; omega))
        generalize hr : addG x p = r at *
        obtain ⟨id, er, x'⟩ := r
        simp only at y1 y2 y3 y4 y5 HG3 HY3
        by_cases he : er = 0
        · have hid := y4 he
          subst he
          rw [hid]
          clear y1 y3 y4 y5 hr
          go_wp2
          go_roundw
          case rel => exact ⟨k + 1, by omega, by omega, by go_num, x', rfl, HY3.out, by omega, HG3.out, HB3.out⟩
          case measure => simp [intOf]; omega
        · have hx' := y5 he
          have he' : (er == 0) = false := by simp [he]
          rw [hx'] at HG3 HY3
          clear y1 y2 y3 y4 y5 hr hx'
          go_wp2
          go_roundw
          case rel => exact ⟨k + 1, by omega, by omega, by go_num, x, rfl, HY3.out, by omega, HG3.out, HB3.out⟩
          case measure => simp [intOf]; omega
      · go_wp2_with (go_at_call 12; refine (HM.out _).mono ?_; rintro e w' ⟨rfl, rfl⟩)
        go_roundw
        case rel => exact ⟨k + 1, by omega, by omega, by go_num, x, rfl, ⟨hY.out.1, by have := hY.out.2; omega⟩, by omega, HG.out.mono (by omega), HB.out⟩
        case measure => simp [intOf]; omega
    · have hcases : (¬ k < n) ∨ (k < n ∧ ¬ k < 50) := by
        by_cases h : k < n
        · exact .inr ⟨h, fun h2 => hlt ⟨h, h2⟩⟩
        · exact .inl h
      clear hlt
      have HY := Lib.hid (And.intro hY.out.1 (show x.l.length ≤ 50 from by have := hY.out.2; omega))
      have HG50 := Lib.hid (HG.out.mono (show k ≤ 50 by omega))
      clear hY hG hbel HG
      have hcut : True := trivial
      rcases hcases with hge | ⟨hlt, hge⟩
      all_goals
        go_wp2_with fail
        go_loopw [8] (fun i wr => ∃ k : Nat, k ≤ 50 ∧ i = .int .i64 k ∧ ∃ (x : G) (nb : Nat), Hid (Young x ∧ x.l.length + k ≤ 50) ∧ nb ≤ 50 + 50 * k ∧ Gr wr g mb nb x ∧ Below w.heap.size w wr) (fun i _ => 60 - (intOf i).toNat)
        case atStart => exact ⟨0, by omega, rfl, x, 50, HY.out, by omega, HG50.out, HB.out⟩
        case round =>
          clear HA HB0 HG1 HB1 HY HG50 HB hk hk50 hlast hsz hl0
          rename_i wz
          obtain ⟨k, hk, rfl, x, nb, hY, hnb, hG, hbel⟩ := hrel
          have HG := Lib.hid hG
          have HB := Lib.hid hbel
          have hsz := hbel.size
          have hk60 : k < 60 := by omega
          have HAll := Lib.hid (alls_any g mb nb x _ hG hY.out.1.rise (by have := hY.out.2; omega))
          have hAl : (idsOf x fun _ => true).length = x.l.length := by unfold idsOf; simp
          clear hG hbel
          go_wp2_with fail
          refine HAll.out.mono ?_
          rintro e w2 ⟨r, rfl, hr, hb⟩
          obtain ⟨A2, c2, rfl, h21, h22⟩ := hr.arr.len
          rw [ints_len, hAl] at h21 ⊢
          have HG2 := Lib.hid (HG.out.below hb)
          have HB2 := Lib.hid (HB.out.trans (hb.mono hsz))
          clear hr hb HAll HG HB hAl
          by_cases hpos : 0 < x.l.length
          · have HSec := Lib.hid (sectors_any g mb nb x w2 HG2.out hY.out.1.rise (by have := hY.out.2; omega) (fun p hp => (hY.out.1.all p hp).2.1) (fun p hp => (hY.out.1.all p hp).2.2.1))
            go_wp2_with fail
            refine HSec.out.mono ?_
            rintro e w3 ⟨r, rfl, hr, hb⟩
            have hat := hr.arr
            have hS : (secsG x).length ≤ 100000 := by
              unfold secsG
              rw [List.length_mergeSort]
              have h1 := secs_len (liveL x) []
              have h2 := List.length_filter_le (fun p : Pt => !p.written) x.l
              have h3 := hY.out.2
              unfold secsRaw
              unfold liveL at *
              simp at h1
              omega
            have HNd := Lib.hid (secsG_nodup x)
            have HMem := Lib.hid (fun p r (h : x.l = p :: r) => (mem_secsG (x := x) (b := p.sec)).2 ⟨p, by rw [h]; simp, (hY.out.1.all p (by rw [h]; simp)).1, rfl⟩)
            generalize secsG x = S at *
            obtain ⟨A3, c3, rfl, h31, h32⟩ := hr.arr.len
            have HA3 := Lib.hid hat.at
            rw [ints_len] at h31 ⊢
            unfold maxLen at h32
            have HG3 := Lib.hid (HG2.out.below hb)
            have hs2 := HB2.out.size
            have HB3 := Lib.hid (HB2.out.trans (hb.mono hs2))
            have hs3 := HB3.out.size
            clear hr hb hat HSec HG2 HB2
            go_wp2_with fail
            go_loopw [10, 11] (fun v i wr => ∃ q : Nat, q ≤ S.length ∧ i = .int .i64 q ∧ ∃ (y : G) (c : Nat), v = .int .i64 c ∧ Hid (Mid x y (S.take q) c) ∧ Gr wr g mb (nb + c) y ∧ Turn (fun j => j = mb) w3 wr) (fun _ i _ => S.length - (intOf i).toNat)
            case atStart => exact ⟨0, Nat.zero_le _, rfl, x, 0, rfl, Mid.start hY.out.1.rise (fun p hp => (hY.out.1.all p hp).1), HG3.out, Turn.refl _ _⟩
            case round =>
              rename_i wy
              obtain ⟨q, hq, rfl, y, cc, rfl, hM, hG, hT⟩ := hrel
              have HG := Lib.hid hG
              have HT := Lib.hid hT
              have hsz := hT.size
              have hc50 := hM.out.le
              have hx50 := hY.out.2
              by_cases hlt : q < S.length
              · obtain ⟨s, hs⟩ : ∃ s, S[q]? = some s := ⟨_, List.getElem?_eq_getElem hlt⟩
                obtain ⟨gb, o, cs, rfl, hbk, hcs⟩ := HA3.out q s hs
                have hc1 : wr.cell? ⟨gb, o + q, none⟩ = some (.int .i64 s) := ((hbk.turn hT (fun e => by
                  obtain ⟨_, f, hm, _⟩ := HG3.out
                  exact hm.not_blk hbk e.symm)).cell (o + q)).trans hcs
                have hfit := hM.out.fit (fun p hp => ⟨(hY.out.1.all p hp).2.1, (hY.out.1.all p hp).2.2.1⟩)
                have HR := Lib.hid (ready_any g mb (nb + cc) y s wr hG hM.out.rise (by rw [hM.out.len]; omega) (fun p hp => (hfit p hp).1))
                have hstep := hM.out.step (fun p hp => (hY.out.1.all p hp).2.2.2.1) (s := s) (by
                  intro hm
                  have hnd := HNd.out
                  have h1 := List.take_append_drop q S
                  rw [← h1, List.nodup_append] at hnd
                  refine hnd.2.2 s hm s ?_ rfl
                  rw [List.mem_iff_getElem?]
                  exact ⟨0, by rw [List.getElem?_drop]; simpa using hs⟩)
                have hids : ∀ id ∈ readyG y s, (key id).wf = true := fun id hid => by
                  unfold readyG at hid
                  obtain ⟨p, hp, rfl⟩ := List.mem_map.1 hid
                  have hmm := (rdy_mem (x := y) (openL y s) ([], []) (· ∈ y.l) (fun q h => by cases h) (fun q h => by cases h) (fun q h => (List.mem_filter.1 h).1)).1 p hp
                  have := (hfit p hmm).1.2.1
                  exact key_wf (by omega) (by omega)
                have HW := Lib.hid fun (v : Value) (W : World) (hGW : Gr W g mb (nb + cc) y) (hv : Arr W 3 v (ints (readyG y s))) =>
                  write_any g mb (nb + cc) y v (readyG y s) W hGW hM.out.rise (by rw [hM.out.len]; omega) (fun p hp => (hfit p hp).1) hv hids (by have := hstep.2.le; omega) (by omega)
                rw [← show S.take (q + 1) = S.take q ++ [s] by rw [List.take_add_one, hs]; rfl] at hstep
                have hle := hstep.2.le
                rw [hstep.1] at HW
                have HM2 := Lib.hid hstep.2
                clear hG hT hbk hcs hfit hstep hids hs
                generalize (writeG y (readyG y s)).2 = y2 at *
                generalize readyG y s = R at *
                go_wp2_with fail
                refine HR.out.mono ?_
                rintro e w5 ⟨r, rfl, hr, hb⟩
                obtain ⟨A5, c5, rfl, h51, h52⟩ := hr.arr.len
                rw [ints_len] at h51 ⊢
                have HA5 := Lib.hid hr.arr
                have HG5 := Lib.hid (HG.out.below hb)
                have HT5 := Lib.hid (HT.out.trans (Turn.of_below (S := fun _ => False) hb) (fun i hi e => e.elim))
                rw [ints_len] at HA5
                clear hr hb HR HG HT
                have ew : IntKind.i64.wrap ((cc : Int) + (R.length : Int)) = ((cc + R.length : Nat) : Int) := IntWalk.i64_in _ (by omega) |>.trans (by omega)
                go_wp2_with fail
                refine (HW.out _ _ HG5.out HA5.out).mono ?_
                rintro e w6 ⟨rfl, hG6, hT6⟩
                rw [Nat.add_assoc] at hG6
                have HG6 := Lib.hid hG6
                have HT6 := Lib.hid (HT5.out.trans hT6 (fun i hi e => e))
                clear hG6 hT6 HW HA5 HG5 HT5
                go_wp2
                go_roundw
                case rel => exact ⟨q + 1, by omega, by go_num, y2, cc + R.length, by first | rfl | (rw [ew]), HM2.out, HG6.out, HT6.out⟩
                case measure => simp [intOf]; omega
              · obtain rfl : q = S.length := by omega
                have hM' := hM.out
                rw [List.take_length] at hM'
                have hc1 : 1 ≤ cc := by
                  cases hxl : x.l with
                  | nil => rw [hxl] at hpos; simp at hpos
                  | cons p r => exact hM'.some p r hxl (HMem.out p r hxl)
                have hcne : ¬ (cc : Int) = 0 := by omega
                have HSt := Lib.hid (settleAll_any g mb (nb + cc) y wr hG hM'.rise (by rw [hM'.len]; omega) (fun p hp => (hM'.fit (fun p hp => ⟨(hY.out.1.all p hp).2.1, (hY.out.1.all p hp).2.2.1⟩) p hp).1.2.1))
                rw [hM'.ids] at HSt
                obtain ⟨z1, z2, z3⟩ := hM'.settle
                have HY2 := Lib.hid (show Young (settleG y fun _ => true) ∧ (settleG y fun _ => true).l.length + (k + 1) ≤ 50 from ⟨hY.out.1.sub z1 z2, by omega⟩)
                generalize (settleG y fun _ => true) = x2 at *
                have hself : ((cc : Int) != (cc : Int)) = false := by simp
                clear hG hT hM' z1 z2 z3
                go_wp2_with fail
                refine HSt.out.mono ?_
                rintro e w5 ⟨rfl, hG5, hT5⟩
                have HG5 := Lib.hid hG5
                have hn2 : mb ≥ w.heap.size := by omega
                have HB5 := Lib.hid (below_turn HB3.out (HT.out.trans hT5 (fun i hi e => e)) (fun i hi e => by omega))
                clear hG5 hT5 HSt
                go_wp2
                go_roundw
                case rel => exact ⟨k + 1, by omega, by go_num, x2, nb + cc, HY2.out, by omega, HG5.out, HB5.out⟩
                case measure => simp [intOf]; omega
          · have hz : x.l.length = 0 := by omega
            have HAll2 := Lib.hid (alls_any g mb nb x _ HG2.out hY.out.1.rise (by have := hY.out.2; omega))
            have hAl : (idsOf x fun _ => true).length = 0 := by
              unfold idsOf
              rw [List.length_map]
              have := List.length_filter_le (fun _ : Pt => true) x.l
              omega
            go_wp2_with fail
            refine HAll2.out.mono ?_
            rintro e w3 ⟨r, rfl, hr, hb⟩
            obtain ⟨A3, c3, rfl, h31, h32⟩ := hr.arr.len
            rw [ints_len, hAl] at h31 ⊢
            have HB3 := Lib.hid (HB2.out.trans (hb.mono HB2.out.size))
            clear hr hb
            go_wp2
            go_ret
            exact ⟨rfl, HB3.out⟩
end Go.Proofs.Ytmkfaibjjbgbbaa
