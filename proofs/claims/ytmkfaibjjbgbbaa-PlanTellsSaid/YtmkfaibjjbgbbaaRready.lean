/- readies of package scupperref14. -/
import Derived.Test.YtmkfaibjjbgbbaaRbehind
import Derived.Laws.OwnMore
import Derived.BigQuiet
namespace Go.Proofs.Ytmkfaibjjbgbbaa
open Go.RowKit
set_option linter.unusedVariables false
attribute [local go_sem ↓] Go.wp_at_zero Go.wp_at_succ

theorem info4 : (Try.prog.info? 4).map (fun i => (i.zero, i.size, i.bytes)) = some (some (.bool false), 1, 1) := by kernel_rfl
def rdNeed (l : List Pt) (p : Pt) (id : Int) : Bool := decide (findI l id < 0)
def rdPrev (p : Pt) (e : Pt × Bool) : Bool := e.1.written || (!meetR e.1 p || e.2)
def rdA (l : List Pt) (p : Pt) : Bool := !p.written && p.needs.all (rdNeed l p)
def prevAll (l : List Pt) (outs : List Bool) (p : Pt) (j : Nat) : Bool := (List.range j).all fun i => match l[i]?, outs[i]? with | some q, some b => rdPrev p (q, b) | _, _ => true
def rdAt (l : List Pt) (outs : List Bool) (k : Nat) (p : Pt) : Bool := rdA l p && prevAll l outs p k
def rdOuts (l : List Pt) : Nat → List Bool
  | 0 => []
  | k + 1 => rdOuts l k ++ [match l[k]? with | some p => rdAt l (rdOuts l k) k p | none => false]
theorem rdOuts_len (l : List Pt) (k : Nat) : (rdOuts l k).length = k := by
  induction k with
  | zero => rfl
  | succ k ih => simp [rdOuts, ih]
theorem prev_on {l : List Pt} {outs : List Bool} {p q : Pt} {j : Nat} {b : Bool} (h : l[j]? = some q) (hb : outs[j]? = some b) : prevAll l outs p (j + 1) = (prevAll l outs p j && rdPrev p (q, b)) := by
  unfold prevAll
  rw [List.range_succ, List.all_append]
  simp [h, hb]
theorem rdOuts_on {l : List Pt} {k : Nat} {p : Pt} (h : l[k]? = some p) : rdOuts l (k + 1) = rdOuts l k ++ [rdAt l (rdOuts l k) k p] := by
  show rdOuts l k ++ [match l[k]? with | some p => rdAt l (rdOuts l k) k p | none => false] = _
  rw [h]
/-- The row of answers so far, the rest false. -/
def boolRow (l : List Pt) (k : Nat) : List Value := (rdOuts l k).map Value.bool ++ List.replicate (l.length - k) (.bool false)

theorem boolRow_len (l : List Pt) {k : Nat} (hk : k ≤ l.length) : (boolRow l k).length = l.length := by
  unfold boolRow
  rw [List.length_append, List.length_map, rdOuts_len, List.length_replicate]
  omega
theorem boolRow_at (l : List Pt) {k i : Nat} {c : Bool} (h : (rdOuts l k)[i]? = some c) : (boolRow l k)[i]? = some (.bool c) := by
  have hi : i < k := by
    rcases Nat.lt_or_ge i k with h1 | h1
    · exact h1
    · rw [List.getElem?_eq_none (by rw [rdOuts_len]; exact h1)] at h; cases h
  unfold boolRow
  rw [List.getElem?_append_left (by rw [List.length_map, rdOuts_len]; exact hi), List.getElem?_map, h]
  rfl
theorem boolRow_tail (l : List Pt) {k : Nat} (hk : k < l.length) : (boolRow l k)[k]? = some (.bool false) := by
  unfold boolRow
  rw [List.getElem?_append_right (by rw [List.length_map, rdOuts_len]; exact Nat.le_refl _), List.length_map, rdOuts_len, Nat.sub_self, List.getElem?_replicate, if_pos (by omega)]
theorem boolRow_all (l : List Pt) : boolRow l l.length = (rdOuts l l.length).map Value.bool := by
  unfold boolRow
  rw [Nat.sub_self]; exact List.append_nil _
theorem prev_le {l : List Pt} {outs : List Bool} {p : Pt} {j k : Nat} (hj : j ≤ k) (h : prevAll l outs p k = true) : prevAll l outs p j = true := by
  unfold prevAll at h ⊢
  rw [List.all_eq_true] at h ⊢
  intro i hi
  exact h i (List.mem_range.2 (by have := List.mem_range.1 hi; omega))
theorem boolRow_on {l : List Pt} {k : Nat} {p : Pt} (h : l[k]? = some p) : (boolRow l k).set k (.bool (rdAt l (rdOuts l k) k p)) = boolRow l (k + 1) := by
  have hk : k < l.length := by
    rcases Nat.lt_or_ge k l.length with h1 | h1
    · exact h1
    · rw [List.getElem?_eq_none h1] at h; cases h
  unfold boolRow
  rw [rdOuts_on h, List.set_append, if_neg (by rw [List.length_map, rdOuts_len]; omega), List.length_map, rdOuts_len, Nat.sub_self]
  rw [show l.length - k = (l.length - (k + 1)) + 1 by omega, List.replicate_succ, List.set_cons_zero, List.map_append, List.append_assoc]
  rfl

set_option maxHeartbeats 4000000 in
set_option maxRecDepth 100000 in
theorem readies_any (b : Nat) (x : G) (w : World) (h : RG w b x) (hs : ∀ p ∈ x.l, p.small ∧ p.needs.length ≤ 1000) (hxl : x.l.length ≤ 1000) :
    Calls Try.prog 96 #[.pointer (some ⟨b, 0, none⟩)] w fun e w' => ∃ o, e = .returned (.slice (some ⟨o, 0, none⟩) x.l.length x.l.length) ∧ w'.ownsRow w.heap.size 4 1 (.slice (some ⟨o, 0, none⟩) x.l.length x.l.length) x.l.length ((rdOuts x.l x.l.length).map Value.bool) ∧ Below w.heap.size w w' := by
  obtain ⟨i0, hi0, hz0, hz1, hz2⟩ := info_parts info4
  have HG := Lib.hid h
  obtain ⟨v, hb, hl⟩ := h
  obtain ⟨A, c, rfl, hc1, hc2⟩ := hl.len
  have HSm := Lib.hid hs
  have HBk := Lib.hid hb
  have HL := Lib.hid hl
  have hbc := hb.cell 1
  simp at hbc
  unfold maxLen at hc2
  obtain ⟨w1, hmk, hown, hgr⟩ := run_make_full (P := Try.prog) w w.heap.size 101 4 i0 (.bool false) 1 Try.underlying101 hi0 hz0 hz1 .i64 .i64 x.l.length (by rw [hz2]; omega) (by unfold maxLen; omega) (Nat.le_refl _)
  have e0 : (madeCells (Value.bool false).cells (x.l.length * 1)).toList = boolRow x.l 0 := by
    rw [show (Value.bool false).cells = #[.bool false] from rfl, toList_madeCells_one]
    simp [boolRow, rdOuts]
  rw [e0] at hown
  have HB1 := Lib.hid (show Below w.heap.size w w1 from ⟨hgr.os, hgr.tape, hgr.output, hgr.size, fun i hi => hgr.block i hi (by simp)⟩)
  have HO1 := Lib.hid hown
  have hbl : b < w.heap.size := hb.lt
  clear hb hl hs hown hgr e0
  go_enter Try.func96, Try.ntmps96
  go_wp2_with fail
  go_loopw [4] (fun i wr => ∃ k : Nat, k ≤ x.l.length ∧ i = .int .i64 k ∧ wr.ownsRow w.heap.size 4 1 (.slice (some ⟨w.heap.size, 0, none⟩) x.l.length x.l.length) x.l.length (boolRow x.l k) ∧ Below w.heap.size w wr) (fun i _ => x.l.length - (intOf i).toNat)
  case atStart => exact ⟨0, Nat.zero_le _, rfl, HO1.out, HB1.out⟩
  case round =>
    obtain ⟨k, hk, rfl, hO, hbel⟩ := hrel
    have HO := Lib.hid hO
    have HB := Lib.hid hbel
    have hsz := hbel.size
    have hbcw : wr.cell? ⟨b, 1, none⟩ = some (.slice A x.l.length c) := (hbel.cell (p := ⟨b, 1, none⟩) hbl).trans hbc
    by_cases hlt : k < x.l.length
    · obtain ⟨p, hp⟩ : ∃ p, x.l[k]? = some p := ⟨_, List.getElem?_eq_getElem hlt⟩
      obtain ⟨g, c', A1, k1, A2, k2, e, hpc, hpv, hgp⟩ := HL.out.at hp
      injection e with e1 e2 e3
      subst e1 e3
      clear e2
      have mv : ∀ (j : Nat) (u : Value), (p.cells (.slice A1 (bytes p.data).length k1) (.slice A2 (ints p.needs).length k2))[j]? = some u → wr.cell? ⟨g, k * 9 + j, none⟩ = some u := fun j u hu => (hbel.cell (p := ⟨g, k * 9 + j, none⟩) hgp).trans (hpc j u hu)
      have y0 : wr.cell? ⟨g, k * 9, none⟩ = some (.int .i64 p.id) := mv 0 _ rfl
      have y1 : wr.cell? ⟨g, k * 9 + 1, none⟩ = some (.int .i64 p.sec) := mv 1 _ rfl
      have y2 : wr.cell? ⟨g, k * 9 + 2, none⟩ = some (.int .i64 p.off) := mv 2 _ rfl
      have y3 : wr.cell? ⟨g, k * 9 + 3, none⟩ = some (.slice A1 (bytes p.data).length k1) := mv 3 _ rfl
      have y4 : wr.cell? ⟨g, k * 9 + 4, none⟩ = some (.int .i64 p.kind) := mv 4 _ rfl
      have y5 : wr.cell? ⟨g, k * 9 + 5, none⟩ = some (.slice A2 (ints p.needs).length k2) := mv 5 _ rfl
      have y6 : wr.cell? ⟨g, k * 9 + 6, none⟩ = some (.int .i64 p.owner) := mv 6 _ rfl
      have y7 : wr.cell? ⟨g, k * 9 + 7, none⟩ = some (.int .i64 p.child) := mv 7 _ rfl
      have y8 : wr.cell? ⟨g, k * 9 + 8, none⟩ = some (.bool p.written) := mv 8 _ rfl
      have hpx := List.mem_of_getElem? hp
      obtain ⟨hsp, hnl⟩ := HSm.out p hpx
      have HP := Lib.hid hp
      have HPv := Lib.hid hpv
      have HNa := Lib.hid hpv.parts'.2.at
      have hnl2 : (ints p.needs).length = p.needs.length := ints_len _
      have HFd := Lib.hid fun (id : Int) (W : World) (hW : Below w.heap.size w W) => rfind_any b x id W (HG.out.below hW)
      rw [hnl2] at y5
      clear hO hbel mv hpc hpv hp
      have hmx : p.needs.length ≤ k2 ∧ k2 ≤ 9223372036854775807 := by
        obtain ⟨A', c', e, h1, h2⟩ := HPv.out.parts'.2.len
        injection e with _ _ e
        subst e
        rw [ints_len] at h1
        exact ⟨h1, by unfold maxLen at h2; omega⟩
      obtain ⟨hmx1, hmx2⟩ := hmx
      go_wp2_with fail
      obtain ⟨w5, hw5⟩ : ∃ w5, w5 = wr.alloc (.cells #[.int .i64 p.id, .int .i64 p.sec, .int .i64 p.off, .slice A1 (bytes p.data).length k1, .int .i64 p.kind, .slice A2 p.needs.length k2, .int .i64 p.owner, .int .i64 p.child, .bool p.written] 30) := ⟨_, rfl⟩
      rw [← hw5]
      have HX5 := Lib.hid (show Blk w5 wr.heap.size 30 #[.int .i64 p.id, .int .i64 p.sec, .int .i64 p.off, .slice A1 (bytes p.data).length k1, .int .i64 p.kind, .slice A2 p.needs.length k2, .int .i64 p.owner, .int .i64 p.child, .bool p.written] from by rw [hw5]; exact Blk.new _ _ _)
      have HB5 := Lib.hid (show Below w.heap.size w w5 from by rw [hw5]; exact HB.out.alloc HB.out.size _)
      have hBw5 : Below wr.heap.size wr w5 := by rw [hw5]; exact (Below.refl _ _).alloc (Nat.le_refl _) _
      have HO5 := Lib.hid (show w5.ownsRow w.heap.size 4 1 (.slice (some ⟨w.heap.size, 0, none⟩) x.l.length x.l.length) x.l.length (boolRow x.l k) from owns_keep HO.out (fun gg hg => hBw5.block gg (World.ownsRow.lt HO.out gg hg).2))
      have hs5 := hBw5.size
      obtain ⟨b5, hb5⟩ : ∃ b5, b5 = wr.heap.size := ⟨_, rfl⟩
      rw [← hb5] at HX5 ⊢
      have hb5w : w.heap.size ≤ b5 := by omega
      have hbx5 : b5 < w5.heap.size := HX5.out.lt
      clear hw5 hb5 y0 y1 y2 y3 y4 y5 y6 y7 y8 hBw5 hbcw
      have z5 := HX5.out.cell 5
      simp at z5
      go_loopw [6, 7] (fun v i W => ∃ j : Nat, j ≤ p.needs.length ∧ i = .int .i64 j ∧ ∃ cc : Bool, v = .bool cc ∧ Hid (cc = (!p.written && (p.needs.take j).all (rdNeed x.l p))) ∧ Hid (W = w5)) (fun _ i _ => p.needs.length - (intOf i).toNat)
      case atStart => exact ⟨0, Nat.zero_le _, rfl, _, rfl, by unfold Hid; simp, rfl⟩
      case round =>
        rename_i wo
        obtain ⟨j, hj, rfl, cc, rfl, hcc, hWe⟩ := hrel
        have hWe2 : w5 = wr := hWe.out.symm
        subst hWe2
        by_cases hgo : j < p.needs.length ∧ cc = true
        · obtain ⟨hltj, rfl⟩ := hgo
          obtain ⟨y, hy⟩ : ∃ y, p.needs[j]? = some y := ⟨_, List.getElem?_eq_getElem hltj⟩
          obtain ⟨gb, o, cs, rfl, hbk, hcs⟩ := HNa.out j y hy
          have hc1' : w5.cell? ⟨gb, o + j, none⟩ = some (.int .i64 y) := ((hbk.below HB5.out hbk.lt).cell (o + j)).trans hcs
          have hFy := HFd.out y w5 HB5.out
          have HFy := Lib.hid hFy
          have HNx := Lib.hid (show decide (findI x.l y < 0) = (!p.written && (p.needs.take (j + 1)).all (rdNeed x.l p)) from by
            have h1 := hcc.out
            obtain ⟨hw, hA⟩ := (Bool.and_eq_true _ _).mp h1.symm
            rw [List.take_add_one, hy, List.all_append, hw, hA]
            simp [rdNeed])
          clear hbk hcs hy hFy
          generalize findI x.l y = fi at *
          go_wp2_with fail
          refine HFy.out.mono ?_
          rintro e w7 ⟨rfl, hw7⟩
          subst hw7
          go_wp2
          go_roundw
          case rel => exact ⟨j + 1, by omega, by go_num, _, rfl, HNx.out, by unfold Hid; first | trivial | rfl⟩
          case measure => simp [intOf]; omega
        · have HA := Lib.hid (show cc = rdA x.l p from by
            unfold rdA
            by_cases hj2 : j < p.needs.length
            · have hcf : cc = false := by
                cases cc with
                | false => rfl
                | true => exact absurd ⟨hj2, rfl⟩ hgo
              rw [hcf]
              have h1 := hcc.out
              rw [hcf] at h1
              cases hw : p.written with
              | true => rfl
              | false =>
                rw [hw] at h1
                symm at h1
                simp at h1
                obtain ⟨z, hz, hzf⟩ := h1
                symm
                simp only [Bool.not_false, Bool.true_and]
                rw [List.all_eq_false]
                exact ⟨z, List.mem_of_mem_take hz, by simp [hzf]⟩
            · have : j = p.needs.length := by omega
              rw [hcc.out, this, List.take_length])
          have hcases : (¬ j < p.needs.length) ∨ (j < p.needs.length ∧ cc = false) := by
            by_cases h1 : j < p.needs.length
            · right
              refine ⟨h1, ?_⟩
              cases cc with
              | false => rfl
              | true => exact absurd ⟨h1, rfl⟩ hgo
            · exact .inl h1
          clear hgo hcc
          rcases hcases with hge | ⟨hltj, rfl⟩
          all_goals
            go_wp2_with fail
            go_loopw [6, 8] (fun v i W => ∃ j : Nat, j ≤ k ∧ i = .int .i64 j ∧ ∃ c3 : Bool, v = .bool c3 ∧ Hid (c3 = (rdA x.l p && prevAll x.l (rdOuts x.l k) p j)) ∧ Below w5.heap.size w5 W) (fun _ i _ => k - (intOf i).toNat)
            case atStart => exact ⟨0, Nat.zero_le _, rfl, _, rfl, by unfold Hid; rw [← HA.out]; simp [prevAll], Below.refl _ _⟩
            case round =>
              clear hmk z5
              rename_i wq
              obtain ⟨j, hj, rfl, c3, rfl, hc3, hbj⟩ := hrel
              have HBj := Lib.hid hbj
              have hszj := hbj.size
              have hBw := HB5.out.trans (hbj.mono (by have := HB5.out.size; omega))
              have HBw := Lib.hid hBw
              have hXj := HX5.out.below hbj hbx5
              have hOj := owns_keep HO5.out (fun gg hg => hbj.block gg (World.ownsRow.lt HO5.out gg hg).2)
              have HOj := Lib.hid hOj
              have hbq : b < wr.heap.size := by have := hBw.size; omega
              by_cases hgo : j < k ∧ c3 = true
              · obtain ⟨hltj, rfl⟩ := hgo
                obtain ⟨r, hr⟩ : ∃ r, x.l[j]? = some r := ⟨_, List.getElem?_eq_getElem (by omega)⟩
                obtain ⟨g', c', R1, m1, R2, m2, e, hrc, hrv, hgr⟩ := HL.out.at hr
                injection e with e1 e2 e3
                injection e1 with e1
                injection e1 with e1
                subst e1 e3
                clear e2
                have hsr := (HSm.out r (List.mem_of_getElem? hr)).1
                obtain ⟨ob, hob⟩ : ∃ ob, (rdOuts x.l k)[j]? = some ob := ⟨_, List.getElem?_eq_getElem (by rw [rdOuts_len]; omega)⟩
                have HPr := Lib.hid (prev_on (p := p) hr hob)
                have hocell : wr.cell? ⟨w.heap.size, j, none⟩ = some (.bool ob) := (World.ownsRow.cellAt hOj j (by omega)).trans (boolRow_at x.l hob)
                have hol : w.heap.size < wr.heap.size := (World.ownsRow.lt hOj w.heap.size rfl).2
                have HS := Lib.hid fun (W : World) (h : Below wr.heap.size wr W) => show W.cell? ⟨b, 1, none⟩ = some (.slice (some ⟨g, 0, none⟩) x.l.length c) ∧ (W.cell? ⟨g, j * 9, none⟩ = some (.int .i64 r.id) ∧ W.cell? ⟨g, j * 9 + 1, none⟩ = some (.int .i64 r.sec) ∧ W.cell? ⟨g, j * 9 + 2, none⟩ = some (.int .i64 r.off) ∧ W.cell? ⟨g, j * 9 + 3, none⟩ = some (.slice R1 (bytes r.data).length m1) ∧ W.cell? ⟨g, j * 9 + 4, none⟩ = some (.int .i64 r.kind) ∧ W.cell? ⟨g, j * 9 + 5, none⟩ = some (.slice R2 (ints r.needs).length m2) ∧ W.cell? ⟨g, j * 9 + 6, none⟩ = some (.int .i64 r.owner) ∧ W.cell? ⟨g, j * 9 + 7, none⟩ = some (.int .i64 r.child) ∧ W.cell? ⟨g, j * 9 + 8, none⟩ = some (.bool r.written)) ∧ (W.cell? ⟨b5, 0, none⟩ = some (.int .i64 p.id) ∧ W.cell? ⟨b5, 1, none⟩ = some (.int .i64 p.sec) ∧ W.cell? ⟨b5, 2, none⟩ = some (.int .i64 p.off) ∧ W.cell? ⟨b5, 3, none⟩ = some (.slice A1 (bytes p.data).length k1) ∧ W.cell? ⟨b5, 4, none⟩ = some (.int .i64 p.kind) ∧ W.cell? ⟨b5, 5, none⟩ = some (.slice A2 p.needs.length k2) ∧ W.cell? ⟨b5, 6, none⟩ = some (.int .i64 p.owner) ∧ W.cell? ⟨b5, 7, none⟩ = some (.int .i64 p.child) ∧ W.cell? ⟨b5, 8, none⟩ = some (.bool p.written)) ∧ W.cell? ⟨w.heap.size, j, none⟩ = some (.bool ob) from by
                  have hW := hBw.trans (h.mono hBw.size)
                  have mv : ∀ (o : Nat) (u : Value), w.cell? ⟨g, o, none⟩ = some u → W.cell? ⟨g, o, none⟩ = some u := fun o u hu => (hW.cell (p := ⟨g, o, none⟩) hgp).trans hu
                  have hx := (hXj.below h hXj.lt).cell
                  refine ⟨(hW.cell (p := ⟨b, 1, none⟩) hbl).trans hbc, ⟨mv _ _ (hrc 0 _ rfl), mv _ _ (hrc 1 _ rfl), mv _ _ (hrc 2 _ rfl), mv _ _ (hrc 3 _ rfl), mv _ _ (hrc 4 _ rfl), mv _ _ (hrc 5 _ rfl), mv _ _ (hrc 6 _ rfl), mv _ _ (hrc 7 _ rfl), mv _ _ (hrc 8 _ rfl)⟩,
                    ⟨hx 0, hx 1, hx 2, hx 3, hx 4, hx 5, hx 6, hx 7, hx 8⟩, (h.cell (p := ⟨w.heap.size, j, none⟩) hol).trans hocell⟩
                have HM := Lib.hid fun (W : World) (h : Below wr.heap.size wr W) => rmeet_any _ _ r p W (hrv.below (hBw.trans (h.mono hBw.size))) (HPv.out.below (hBw.trans (h.mono hBw.size))) hsr hsp
                have hd0 : Below wr.heap.size wr wr.drew := (Below.refl _ _).drew
                have hj1 : (0 : Int) ≤ (j : Int) := by omega
                have hj2 : (j : Int) < (x.l.length : Int) := by omega
                unfold Pt.val at HM
                rw [hnl2] at HM
                clear hbj hBw hXj hOj hrc hrv hr hob hocell
                cases hrw : r.written with
                | true =>
                  have HN := Lib.hid (show true = (rdA x.l p && prevAll x.l (rdOuts x.l k) p (j + 1)) from by rw [HPr.out, ← Bool.and_assoc, ← hc3.out]; simp [rdPrev, hrw])
                  obtain ⟨hc0, ⟨-, -, -, -, -, -, -, -, hc8⟩, -, -⟩ := HS.out wr (Below.refl _ _)
                  rw [hrw] at hc8
                  clear hrw hc3
                  go_wp2_with fail
                  go_quiet (fail)
                  go_wp2
                  go_roundw
                  case rel => exact ⟨j + 1, by omega, by go_num, _, rfl, HN.out, by have h := HBj.out; exact ⟨h.os, h.tape, h.output, h.size, h.block⟩⟩
                  case measure => simp [intOf]; omega
                | false =>
                  have HS2 := Lib.hid fun (W : World) (h : Below wr.heap.size wr W) => (show W.cell? ⟨b, 1, none⟩ = some (.slice (some ⟨g, 0, none⟩) x.l.length c) ∧ (W.cell? ⟨g, j * 9, none⟩ = some (.int .i64 r.id) ∧ W.cell? ⟨g, j * 9 + 1, none⟩ = some (.int .i64 r.sec) ∧ W.cell? ⟨g, j * 9 + 2, none⟩ = some (.int .i64 r.off) ∧ W.cell? ⟨g, j * 9 + 3, none⟩ = some (.slice R1 (bytes r.data).length m1) ∧ W.cell? ⟨g, j * 9 + 4, none⟩ = some (.int .i64 r.kind) ∧ W.cell? ⟨g, j * 9 + 5, none⟩ = some (.slice R2 (ints r.needs).length m2) ∧ W.cell? ⟨g, j * 9 + 6, none⟩ = some (.int .i64 r.owner) ∧ W.cell? ⟨g, j * 9 + 7, none⟩ = some (.int .i64 r.child) ∧ W.cell? ⟨g, j * 9 + 8, none⟩ = some (.bool false)) ∧ (W.cell? ⟨b5, 0, none⟩ = some (.int .i64 p.id) ∧ W.cell? ⟨b5, 1, none⟩ = some (.int .i64 p.sec) ∧ W.cell? ⟨b5, 2, none⟩ = some (.int .i64 p.off) ∧ W.cell? ⟨b5, 3, none⟩ = some (.slice A1 (bytes p.data).length k1) ∧ W.cell? ⟨b5, 4, none⟩ = some (.int .i64 p.kind) ∧ W.cell? ⟨b5, 5, none⟩ = some (.slice A2 p.needs.length k2) ∧ W.cell? ⟨b5, 6, none⟩ = some (.int .i64 p.owner) ∧ W.cell? ⟨b5, 7, none⟩ = some (.int .i64 p.child) ∧ W.cell? ⟨b5, 8, none⟩ = some (.bool p.written)) ∧ W.cell? ⟨w.heap.size, j, none⟩ = some (.bool ob) from by have h1 := HS.out W h; rw [hrw] at h1; exact h1)
                  rw [hrw] at HM
                  obtain ⟨mm, hmm⟩ : ∃ mm, mm = meetR r p := ⟨_, rfl⟩
                  rw [← hmm] at HM
                  have HPv2 := Lib.hid (show ∀ z : Bool, z = (!mm || ob) → z = (rdA x.l p && prevAll x.l (rdOuts x.l k) p (j + 1)) from fun z hz => by rw [HPr.out, ← Bool.and_assoc, ← hc3.out, hz, hmm]; simp [rdPrev, hrw])
                  clear hrw HS hc3 hmm
                  go_wp2_with fail
                  cases mm with
                  | true =>
                    first
                      | (go_region_held3 (fun W => W.cell? ⟨b, 1, none⟩ = some (.slice (some ⟨g, 0, none⟩) x.l.length c) ∧ (W.cell? ⟨g, j * 9, none⟩ = some (.int .i64 r.id) ∧ W.cell? ⟨g, j * 9 + 1, none⟩ = some (.int .i64 r.sec) ∧ W.cell? ⟨g, j * 9 + 2, none⟩ = some (.int .i64 r.off) ∧ W.cell? ⟨g, j * 9 + 3, none⟩ = some (.slice R1 (bytes r.data).length m1) ∧ W.cell? ⟨g, j * 9 + 4, none⟩ = some (.int .i64 r.kind) ∧ W.cell? ⟨g, j * 9 + 5, none⟩ = some (.slice R2 (ints r.needs).length m2) ∧ W.cell? ⟨g, j * 9 + 6, none⟩ = some (.int .i64 r.owner) ∧ W.cell? ⟨g, j * 9 + 7, none⟩ = some (.int .i64 r.child) ∧ W.cell? ⟨g, j * 9 + 8, none⟩ = some (.bool false)) ∧ (W.cell? ⟨b5, 0, none⟩ = some (.int .i64 p.id) ∧ W.cell? ⟨b5, 1, none⟩ = some (.int .i64 p.sec) ∧ W.cell? ⟨b5, 2, none⟩ = some (.int .i64 p.off) ∧ W.cell? ⟨b5, 3, none⟩ = some (.slice A1 (bytes p.data).length k1) ∧ W.cell? ⟨b5, 4, none⟩ = some (.int .i64 p.kind) ∧ W.cell? ⟨b5, 5, none⟩ = some (.slice A2 p.needs.length k2) ∧ W.cell? ⟨b5, 6, none⟩ = some (.int .i64 p.owner) ∧ W.cell? ⟨b5, 7, none⟩ = some (.int .i64 p.child) ∧ W.cell? ⟨b5, 8, none⟩ = some (.bool p.written)) ∧ W.cell? ⟨w.heap.size, j, none⟩ = some (.bool ob))
                          (first | exact HS2.out _ hd0 | exact HS2.out _ hb3)
                          (first | (go_at_call 100; refine (HM.out _ hd0).mono ?_; rintro e w3 ⟨rfl, hb3'⟩; have hb3 := hd0.trans (hb3'.mono hd0.size))))
                      | fail
                    all_goals
                      go_wp2
                      go_roundw
                      case rel => exact ⟨j + 1, by omega, by go_num, _, rfl, HPv2.out _ (by simp), HBj.out.trans (hb3.mono HBj.out.size)⟩
                      case measure => simp [intOf]; omega
                  | false =>
                    refine wp_region_held_drew (S := (fun W => W.cell? ⟨b, 1, none⟩ = some (.slice (some ⟨g, 0, none⟩) x.l.length c) ∧ (W.cell? ⟨g, j * 9, none⟩ = some (.int .i64 r.id) ∧ W.cell? ⟨g, j * 9 + 1, none⟩ = some (.int .i64 r.sec) ∧ W.cell? ⟨g, j * 9 + 2, none⟩ = some (.int .i64 r.off) ∧ W.cell? ⟨g, j * 9 + 3, none⟩ = some (.slice R1 (bytes r.data).length m1) ∧ W.cell? ⟨g, j * 9 + 4, none⟩ = some (.int .i64 r.kind) ∧ W.cell? ⟨g, j * 9 + 5, none⟩ = some (.slice R2 (ints r.needs).length m2) ∧ W.cell? ⟨g, j * 9 + 6, none⟩ = some (.int .i64 r.owner) ∧ W.cell? ⟨g, j * 9 + 7, none⟩ = some (.int .i64 r.child) ∧ W.cell? ⟨g, j * 9 + 8, none⟩ = some (.bool false)) ∧ (W.cell? ⟨b5, 0, none⟩ = some (.int .i64 p.id) ∧ W.cell? ⟨b5, 1, none⟩ = some (.int .i64 p.sec) ∧ W.cell? ⟨b5, 2, none⟩ = some (.int .i64 p.off) ∧ W.cell? ⟨b5, 3, none⟩ = some (.slice A1 (bytes p.data).length k1) ∧ W.cell? ⟨b5, 4, none⟩ = some (.int .i64 p.kind) ∧ W.cell? ⟨b5, 5, none⟩ = some (.slice A2 p.needs.length k2) ∧ W.cell? ⟨b5, 6, none⟩ = some (.int .i64 p.owner) ∧ W.cell? ⟨b5, 7, none⟩ = some (.int .i64 p.child) ∧ W.cell? ⟨b5, 8, none⟩ = some (.bool p.written)) ∧ W.cell? ⟨w.heap.size, j, none⟩ = some (.bool ob))) (by kernel_rfl) (HS2.out _ hd0) (fun hHeld => ?_)
                    refine wpAnyH_take (i := 0) (oi := { dst := some 60, op := Go.Op.move (Go.Operand.tmp 0), type := 42, pos := "ref.go:77", after := #[], guard := none }) (v := ?_) rfl (by kernel_rfl) (by kernel_rfl) (by kernel_rfl) (fun _ _ _ h => h) (Or.inl ⟨by rfl, ?_⟩) (by assumption) ?_
                    rotate_left 1
                    · (intro w hSw; (try dsimp only at hSw); go_simp) <;> with_reducible rfl
                    (try simp only [Act.put, List.setIfInBounds_toArray, List.set_cons_zero, List.set_cons_succ])
                    refine wpAnyH_take (i := 1) (oi := { dst := some 61, op := Go.Op.nilCheck (Go.Operand.tmp 60), type := 0, pos := "ref.go:77", after := #[{ on := 0, ground := Go.Ground.data }], guard := none }) (v := ?_) rfl (by kernel_rfl) (by kernel_rfl) (by kernel_rfl) (fun _ _ _ h => h) (Or.inl ⟨by rfl, ?_⟩) (by assumption) ?_
                    rotate_left 1
                    · (intro w hSw; (try dsimp only at hSw); go_simp) <;> with_reducible rfl
                    (try simp only [Act.put, List.setIfInBounds_toArray, List.set_cons_zero, List.set_cons_succ])
                    refine wpAnyH_take (i := 2) (oi := { dst := some 62, op := Go.Op.fieldAddr 91 (Go.Operand.tmp 61) 1, type := 0, pos := "ref.go:77", after := #[{ on := 1, ground := Go.Ground.data }], guard := none }) (v := ?_) rfl (by kernel_rfl) (by kernel_rfl) (by kernel_rfl) (fun _ _ _ h => h) (Or.inl ⟨by rfl, ?_⟩) (by assumption) ?_
                    rotate_left 1
                    · (intro w hSw; (try dsimp only at hSw); go_simp) <;> with_reducible rfl
                    (try simp only [Act.put, List.setIfInBounds_toArray, List.set_cons_zero, List.set_cons_succ])
                    refine wpAnyH_take (i := 3) (oi := { dst := some 63, op := Go.Op.load 50 (Go.Operand.tmp 62), type := 50, pos := "ref.go:77", after := #[{ on := 2, ground := Go.Ground.data }], guard := none }) (v := ?_) rfl (by kernel_rfl) (by kernel_rfl) (by kernel_rfl) (fun _ _ _ h => h) (Or.inl ⟨by rfl, ?_⟩) (by assumption) ?_
                    rotate_left 1
                    · (intro w hSw; (try dsimp only at hSw); go_simp) <;> with_reducible rfl
                    (try simp only [Act.put, List.setIfInBounds_toArray, List.set_cons_zero, List.set_cons_succ])
                    refine wpAnyH_take (i := 4) (oi := { dst := some 64, op := Go.Op.move (Go.Operand.tmp 8), type := 3, pos := "ref.go:77", after := #[], guard := none }) (v := ?_) rfl (by kernel_rfl) (by kernel_rfl) (by kernel_rfl) (fun _ _ _ h => h) (Or.inl ⟨by rfl, ?_⟩) (by assumption) ?_
                    rotate_left 1
                    · (intro w hSw; (try dsimp only at hSw); go_simp) <;> with_reducible rfl
                    (try simp only [Act.put, List.setIfInBounds_toArray, List.set_cons_zero, List.set_cons_succ])
                    refine wpAnyH_take (i := 5) (oi := { dst := some 65, op := Go.Op.indexAddr 50 (Go.Operand.tmp 63) (Go.Operand.tmp 64), type := 0, pos := "ref.go:77", after := #[{ on := 3, ground := Go.Ground.data }, { on := 4, ground := Go.Ground.data }], guard := none }) (v := ?_) rfl (by kernel_rfl) (by kernel_rfl) (by kernel_rfl) (fun _ _ _ h => h) (Or.inl ⟨by rfl, ?_⟩) (by assumption) ?_
                    rotate_left 1
                    · (intro w hSw; (try dsimp only at hSw); go_simp) <;> with_reducible rfl
                    (try simp only [Act.put, List.setIfInBounds_toArray, List.set_cons_zero, List.set_cons_succ])
                    refine wpAnyH_take (i := 6) (oi := { dst := some 66, op := Go.Op.fieldAddr 30 (Go.Operand.tmp 65) 8, type := 0, pos := "ref.go:77", after := #[{ on := 5, ground := Go.Ground.data }], guard := none }) (v := ?_) rfl (by kernel_rfl) (by kernel_rfl) (by kernel_rfl) (fun _ _ _ h => h) (Or.inl ⟨by rfl, ?_⟩) (by assumption) ?_
                    rotate_left 1
                    · (intro w hSw; (try dsimp only at hSw); go_simp) <;> with_reducible rfl
                    (try simp only [Act.put, List.setIfInBounds_toArray, List.set_cons_zero, List.set_cons_succ])
                    refine wpAnyH_take (i := 7) (oi := { dst := some 67, op := Go.Op.load 4 (Go.Operand.tmp 66), type := 4, pos := "ref.go:77", after := #[{ on := 6, ground := Go.Ground.data }], guard := none }) (v := ?_) rfl (by kernel_rfl) (by kernel_rfl) (by kernel_rfl) (fun _ _ _ h => h) (Or.inl ⟨by rfl, ?_⟩) (by assumption) ?_
                    rotate_left 1
                    · (intro w hSw; (try dsimp only at hSw); go_simp) <;> with_reducible rfl
                    (try simp only [Act.put, List.setIfInBounds_toArray, List.set_cons_zero, List.set_cons_succ])
                    refine wpAnyH_take (i := 8) (oi := { dst := some 68, op := Go.Op.move (Go.Operand.tmp 67), type := 4, pos := "ref.go:77", after := #[{ on := 7, ground := Go.Ground.data }], guard := none }) (v := ?_) rfl (by kernel_rfl) (by kernel_rfl) (by kernel_rfl) (fun _ _ _ h => h) (Or.inl ⟨by rfl, ?_⟩) (by assumption) ?_
                    rotate_left 1
                    · (intro w hSw; (try dsimp only at hSw); go_simp) <;> with_reducible rfl
                    (try simp only [Act.put, List.setIfInBounds_toArray, List.set_cons_zero, List.set_cons_succ])
                    refine wpAnyH_take (i := 9) (oi := { dst := some 69, op := Go.Op.move (Go.Operand.tmp 0), type := 42, pos := "ref.go:77", after := #[{ on := 8, ground := Go.Ground.guard }], guard := some (8, false) }) (v := ?_) rfl (by kernel_rfl) (by kernel_rfl) (by kernel_rfl) (fun _ _ _ h => h) (Or.inl ⟨by rfl, ?_⟩) (by assumption) ?_
                    rotate_left 1
                    · (intro w hSw; (try dsimp only at hSw); go_simp) <;> with_reducible rfl
                    (try simp only [Act.put, List.setIfInBounds_toArray, List.set_cons_zero, List.set_cons_succ])
                    refine wpAnyH_take (i := 10) (oi := { dst := some 70, op := Go.Op.nilCheck (Go.Operand.tmp 69), type := 0, pos := "ref.go:77", after := #[{ on := 9, ground := Go.Ground.data }, { on := 8, ground := Go.Ground.guard }], guard := some (8, false) }) (v := ?_) rfl (by kernel_rfl) (by kernel_rfl) (by kernel_rfl) (fun _ _ _ h => h) (Or.inl ⟨by rfl, ?_⟩) (by assumption) ?_
                    rotate_left 1
                    · (intro w hSw; (try dsimp only at hSw); go_simp) <;> with_reducible rfl
                    (try simp only [Act.put, List.setIfInBounds_toArray, List.set_cons_zero, List.set_cons_succ])
                    refine wpAnyH_take (i := 11) (oi := { dst := some 71, op := Go.Op.fieldAddr 91 (Go.Operand.tmp 70) 1, type := 0, pos := "ref.go:77", after := #[{ on := 10, ground := Go.Ground.data }, { on := 8, ground := Go.Ground.guard }], guard := some (8, false) }) (v := ?_) rfl (by kernel_rfl) (by kernel_rfl) (by kernel_rfl) (fun _ _ _ h => h) (Or.inl ⟨by rfl, ?_⟩) (by assumption) ?_
                    rotate_left 1
                    · (intro w hSw; (try dsimp only at hSw); go_simp) <;> with_reducible rfl
                    (try simp only [Act.put, List.setIfInBounds_toArray, List.set_cons_zero, List.set_cons_succ])
                    refine wpAnyH_take (i := 12) (oi := { dst := some 72, op := Go.Op.load 50 (Go.Operand.tmp 71), type := 50, pos := "ref.go:77", after := #[{ on := 11, ground := Go.Ground.data }, { on := 8, ground := Go.Ground.guard }], guard := some (8, false) }) (v := ?_) rfl (by kernel_rfl) (by kernel_rfl) (by kernel_rfl) (fun _ _ _ h => h) (Or.inl ⟨by rfl, ?_⟩) (by assumption) ?_
                    rotate_left 1
                    · (intro w hSw; (try dsimp only at hSw); go_simp) <;> with_reducible rfl
                    (try simp only [Act.put, List.setIfInBounds_toArray, List.set_cons_zero, List.set_cons_succ])
                    refine wpAnyH_take (i := 13) (oi := { dst := some 73, op := Go.Op.move (Go.Operand.tmp 8), type := 3, pos := "ref.go:77", after := #[{ on := 8, ground := Go.Ground.guard }], guard := some (8, false) }) (v := ?_) rfl (by kernel_rfl) (by kernel_rfl) (by kernel_rfl) (fun _ _ _ h => h) (Or.inl ⟨by rfl, ?_⟩) (by assumption) ?_
                    rotate_left 1
                    · (intro w hSw; (try dsimp only at hSw); go_simp) <;> with_reducible rfl
                    (try simp only [Act.put, List.setIfInBounds_toArray, List.set_cons_zero, List.set_cons_succ])
                    refine wpAnyH_take (i := 14) (oi := { dst := some 74, op := Go.Op.indexAddr 50 (Go.Operand.tmp 72) (Go.Operand.tmp 73), type := 0, pos := "ref.go:77", after := #[{ on := 12, ground := Go.Ground.data }, { on := 13, ground := Go.Ground.data }, { on := 8, ground := Go.Ground.guard }], guard := some (8, false) }) (v := ?_) rfl (by kernel_rfl) (by kernel_rfl) (by kernel_rfl) (fun _ _ _ h => h) (Or.inl ⟨by rfl, ?_⟩) (by assumption) ?_
                    rotate_left 1
                    · (intro w hSw; (try dsimp only at hSw); go_simp) <;> with_reducible rfl
                    (try simp only [Act.put, List.setIfInBounds_toArray, List.set_cons_zero, List.set_cons_succ])
                    refine wpAnyH_take (i := 15) (oi := { dst := some 75, op := Go.Op.load 30 (Go.Operand.tmp 74), type := 30, pos := "ref.go:77", after := #[{ on := 14, ground := Go.Ground.data }, { on := 8, ground := Go.Ground.guard }], guard := some (8, false) }) (v := ?_) rfl (by kernel_rfl) (by kernel_rfl) (by kernel_rfl) (fun _ _ _ h => h) (Or.inl ⟨by rfl, ?_⟩) (by assumption) ?_
                    rotate_left 1
                    · (intro w hSw; (try dsimp only at hSw); go_simp) <;> with_reducible rfl
                    (try simp only [Act.put, List.setIfInBounds_toArray, List.set_cons_zero, List.set_cons_succ])
                    refine wpAnyH_take (i := 16) (oi := { dst := some 76, op := Go.Op.load 30 (Go.Operand.tmp 5), type := 30, pos := "ref.go:77", after := #[{ on := 8, ground := Go.Ground.guard }], guard := some (8, false) }) (v := ?_) rfl (by kernel_rfl) (by kernel_rfl) (by kernel_rfl) (fun _ _ _ h => h) (Or.inl ⟨by rfl, ?_⟩) (by assumption) ?_
                    rotate_left 1
                    · (intro w hSw; (try dsimp only at hSw); go_simp) <;> with_reducible rfl
                    (try simp only [Act.put, List.setIfInBounds_toArray, List.set_cons_zero, List.set_cons_succ])
                    refine wpAnyH_ready (rs := [17]) (by kernel_rfl) (by simp) ?_
                    refine AllReadyH.cons (o := { dst := some 77, op := Go.Op.call { callee := Go.Callee.value (Go.Operand.func 100), args := #[Go.Operand.tmp 75, Go.Operand.tmp 76], argTypes := #[30, 30] }, type := 4, pos := "ref.go:77", after := #[{ on := 15, ground := Go.Ground.data }, { on := 16, ground := Go.Ground.data }, { on := 8, ground := Go.Ground.chain }, { on := 8, ground := Go.Ground.guard }], guard := some (8, false) }) rfl (fun K hK => ?_) AllReadyH.nil
                    go_simp
                    go_at_call 100
                    refine (HM.out _ hd0).mono ?_
                    rintro e w3 ⟨rfl, hb3'⟩
                    have hb3 := hd0.trans (hb3'.mono hd0.size)
                    go_wp2_with fail
                    refine hK.out _ _ (HS2.out _ hb3) (fun hHeld2 => ?_)
                    clear hK K hHeld
                    (try simp only [Act.put, List.setIfInBounds_toArray, List.set_cons_zero, List.set_cons_succ])
                    refine wpAnyH_take (i := 18) (oi := { dst := some 78, op := Go.Op.unOp Go.UnOp.not 4 (Go.Operand.tmp 77), type := 4, pos := "ref.go:77", after := #[{ on := 17, ground := Go.Ground.data }, { on := 8, ground := Go.Ground.guard }], guard := some (8, false) }) (v := ?_) rfl (by kernel_rfl) (by kernel_rfl) (by kernel_rfl) (fun _ _ _ h => h) (Or.inl ⟨by rfl, ?_⟩) (by assumption) ?_
                    rotate_left 1
                    · (intro w hSw; (try dsimp only at hSw); go_simp) <;> with_reducible rfl
                    (try simp only [Act.put, List.setIfInBounds_toArray, List.set_cons_zero, List.set_cons_succ])
                    refine wpAnyH_take (i := 19) (oi := { dst := some 79, op := Go.Op.pick (Go.Operand.tmp 68) (Go.Operand.const (Go.Value.bool true)) (Go.Operand.tmp 78), type := 4, pos := "ref.go:77", after := #[{ on := 8, ground := Go.Ground.data }, { on := 18, ground := Go.Ground.data }], guard := none }) (v := ?_) rfl (by kernel_rfl) (by kernel_rfl) (by kernel_rfl) (fun _ _ _ h => h) (Or.inl ⟨by rfl, ?_⟩) (by assumption) ?_
                    rotate_left 1
                    · (intro w hSw; (try dsimp only at hSw); go_simp) <;> with_reducible rfl
                    (try simp only [Act.put, List.setIfInBounds_toArray, List.set_cons_zero, List.set_cons_succ])
                    refine wpAnyH_take (i := 20) (oi := { dst := some 80, op := Go.Op.move (Go.Operand.tmp 79), type := 4, pos := "ref.go:77", after := #[{ on := 19, ground := Go.Ground.data }, { on := 17, ground := Go.Ground.chain }], guard := none }) (v := ?_) rfl (by kernel_rfl) (by kernel_rfl) (by kernel_rfl) (fun _ _ _ h => h) (Or.inl ⟨by rfl, ?_⟩) (by assumption) ?_
                    rotate_left 1
                    · (intro w hSw; (try dsimp only at hSw); go_simp) <;> with_reducible rfl
                    (try simp only [Act.put, List.setIfInBounds_toArray, List.set_cons_zero, List.set_cons_succ])
                    refine wpAnyH_take (i := 21) (oi := { dst := some 81, op := Go.Op.move (Go.Operand.tmp 3), type := 101, pos := "ref.go:77", after := #[{ on := 20, ground := Go.Ground.guard }], guard := some (20, false) }) (v := undef) rfl (by kernel_rfl) (by kernel_rfl) (by kernel_rfl) (fun _ _ _ h => h) (Or.inr ⟨by rfl, rfl⟩) (by assumption) ?_
                    (try simp only [Act.put, List.setIfInBounds_toArray, List.set_cons_zero, List.set_cons_succ])
                    refine wpAnyH_take (i := 22) (oi := { dst := some 82, op := Go.Op.move (Go.Operand.tmp 8), type := 3, pos := "ref.go:77", after := #[{ on := 20, ground := Go.Ground.guard }], guard := some (20, false) }) (v := undef) rfl (by kernel_rfl) (by kernel_rfl) (by kernel_rfl) (fun _ _ _ h => h) (Or.inr ⟨by rfl, rfl⟩) (by assumption) ?_
                    (try simp only [Act.put, List.setIfInBounds_toArray, List.set_cons_zero, List.set_cons_succ])
                    refine wpAnyH_take (i := 23) (oi := { dst := some 83, op := Go.Op.indexAddr 101 (Go.Operand.tmp 81) (Go.Operand.tmp 82), type := 0, pos := "ref.go:77", after := #[{ on := 21, ground := Go.Ground.data }, { on := 22, ground := Go.Ground.data }, { on := 20, ground := Go.Ground.guard }], guard := some (20, false) }) (v := undef) rfl (by kernel_rfl) (by kernel_rfl) (by kernel_rfl) (fun _ _ _ h => h) (Or.inr ⟨by rfl, rfl⟩) (by assumption) ?_
                    (try simp only [Act.put, List.setIfInBounds_toArray, List.set_cons_zero, List.set_cons_succ])
                    refine wpAnyH_take (i := 24) (oi := { dst := some 84, op := Go.Op.load 4 (Go.Operand.tmp 83), type := 4, pos := "ref.go:77", after := #[{ on := 23, ground := Go.Ground.data }, { on := 20, ground := Go.Ground.guard }], guard := some (20, false) }) (v := undef) rfl (by kernel_rfl) (by kernel_rfl) (by kernel_rfl) (fun _ _ _ h => h) (Or.inr ⟨by rfl, rfl⟩) (by assumption) ?_
                    (try simp only [Act.put, List.setIfInBounds_toArray, List.set_cons_zero, List.set_cons_succ])
                    refine wpAnyH_take (i := 25) (oi := { dst := some 85, op := Go.Op.pick (Go.Operand.tmp 80) (Go.Operand.const (Go.Value.bool true)) (Go.Operand.tmp 84), type := 4, pos := "ref.go:77", after := #[{ on := 20, ground := Go.Ground.data }, { on := 24, ground := Go.Ground.data }], guard := none }) (v := ?_) rfl (by kernel_rfl) (by kernel_rfl) (by kernel_rfl) (fun _ _ _ h => h) (Or.inl ⟨by rfl, ?_⟩) (by assumption) ?_
                    rotate_left 1
                    · (intro w hSw; (try dsimp only at hSw); go_simp) <;> with_reducible rfl
                    (try simp only [Act.put, List.setIfInBounds_toArray, List.set_cons_zero, List.set_cons_succ])
                    refine wpAnyH_take (i := 26) (oi := { dst := some 6, op := Go.Op.assign (Go.Operand.tmp 85), type := 4, pos := "ref.go:77", after := #[{ on := 25, ground := Go.Ground.data }, { on := 20, ground := Go.Ground.chain }, { on := 0, ground := Go.Ground.phase }, { on := 1, ground := Go.Ground.phase }, { on := 2, ground := Go.Ground.phase }, { on := 3, ground := Go.Ground.phase }, { on := 4, ground := Go.Ground.phase }, { on := 5, ground := Go.Ground.phase }, { on := 6, ground := Go.Ground.phase }, { on := 7, ground := Go.Ground.phase }, { on := 8, ground := Go.Ground.phase }, { on := 9, ground := Go.Ground.phase }, { on := 10, ground := Go.Ground.phase }, { on := 11, ground := Go.Ground.phase }, { on := 12, ground := Go.Ground.phase }, { on := 13, ground := Go.Ground.phase }, { on := 14, ground := Go.Ground.phase }, { on := 15, ground := Go.Ground.phase }, { on := 16, ground := Go.Ground.phase }, { on := 17, ground := Go.Ground.phase }, { on := 18, ground := Go.Ground.phase }, { on := 19, ground := Go.Ground.phase }, { on := 20, ground := Go.Ground.phase }, { on := 21, ground := Go.Ground.phase }, { on := 22, ground := Go.Ground.phase }, { on := 23, ground := Go.Ground.phase }, { on := 24, ground := Go.Ground.phase }, { on := 25, ground := Go.Ground.phase }], guard := none }) (v := ?_) rfl (by kernel_rfl) (by kernel_rfl) (by kernel_rfl) (fun _ _ _ h => h) (Or.inl ⟨by rfl, ?_⟩) (by assumption) ?_
                    rotate_left 1
                    · (intro w hSw; (try dsimp only at hSw); go_simp) <;> with_reducible rfl
                    (try simp only [Act.put, List.setIfInBounds_toArray, List.set_cons_zero, List.set_cons_succ])
                    refine wpAnyH_done (by kernel_rfl) ?_ _
                    clear hHeld2
                    go_wp2
                    go_roundw
                    case rel => exact ⟨j + 1, by omega, by go_num, _, rfl, HPv2.out _ (by simp), HBj.out.trans (hb3.mono HBj.out.size)⟩
                    case measure => simp [intOf]; omega
              · have HE := Lib.hid (show c3 = rdAt x.l (rdOuts x.l k) k p from by
                  unfold rdAt
                  by_cases hj2 : j < k
                  · have hcf : c3 = false := by
                      cases c3 with
                      | false => rfl
                      | true => exact absurd ⟨hj2, rfl⟩ hgo
                    rw [hcf]
                    have h1 := hc3.out
                    rw [hcf] at h1
                    cases hA : rdA x.l p with
                    | false => rfl
                    | true =>
                      rw [hA, Bool.true_and] at h1
                      cases hk : prevAll x.l (rdOuts x.l k) p k with
                      | false => rfl
                      | true => rw [prev_le hj hk] at h1; cases h1
                  · rw [hc3.out, show j = k by omega])
                have hcases : (¬ j < k) ∨ (j < k ∧ c3 = false) := by
                  by_cases h1 : j < k
                  · right
                    refine ⟨h1, ?_⟩
                    cases c3 with
                    | false => rfl
                    | true => exact absurd ⟨h1, rfl⟩ hgo
                  · exact .inl h1
                have hocell : wr.cell? ⟨w.heap.size, k, none⟩ = some (.bool false) := (World.ownsRow.cellAt hOj k (by omega)).trans (boolRow_tail x.l hlt)
                have hfg := World.ownsRow.frozenAt hOj k
                obtain ⟨hst, hgr⟩ := World.ownsRow.stored hOj k (.bool c3)
                have HST := Lib.hid (show (wr.setCell ⟨w.heap.size, k, none⟩ (.bool c3)).ownsRow w.heap.size 4 1 (.slice (some ⟨w.heap.size, 0, none⟩) x.l.length x.l.length) x.l.length (boolRow x.l (k + 1)) from by
                  rw [← boolRow_on HP.out, ← HE.out]; exact hst)
                have HWW := Lib.hid (hBw.setCell (p := ⟨w.heap.size, k, none⟩) (Nat.le_refl _) (.bool c3))
                clear hgo hc3 hst hgr hbj hBw hXj hOj HL HSm HFd HNa HPv HG HBk
                rcases hcases with hge2 | ⟨hltj2, rfl⟩
                all_goals
                  go_wp2_with fail
                  go_roundw
                  case rel => exact ⟨k + 1, by omega, by go_num, HST.out, HWW.out⟩
                  case measure => simp [intOf]; omega
    · have hke : k = x.l.length := by omega
      subst hke
      rw [boolRow_all] at HO
      clear hO hbel hk hlt
      go_wp2_with fail
      go_ret
      exact ⟨_, rfl, HO.out, HB.out⟩
end Go.Proofs.Ytmkfaibjjbgbbaa
