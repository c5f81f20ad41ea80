/- graph.Add. -/
import Derived.Test.YtmkfaibjjbgbbaaRight
namespace Go.Proofs.Ytmkfaibjjbgbbaa
open Go.RowKit
set_option linter.unusedVariables false

def Pt.as (p : Pt) (id : Int) : Pt := { p with id := id, written := false }
def addG (x : G) (p : Pt) : Int × Int × G :=
  if rightB p x.last then (x.last + 1, 0, ⟨x.last + 1, x.l ++ [p.as (x.last + 1)]⟩) else (0, 2, x)

theorem add_nil (v : Value) (p : Pt) (w : World) (hv : PtV w v p) : Calls Try.prog 13 #[.pointer none, v] w fun e w' => e = .returned (.tuple #[.int .i64 0, .int .i64 1]) ∧ Below w.heap.size w w' := by
  obtain ⟨vd, vn, rfl, hd, hn⟩ := hv
  clear hd hn
  unfold Pt.val
  go_enter Try.func13, Try.ntmps13
  go_wp2
  go_ret2
  exact ⟨rfl, (Below.refl _ _).alloc (Nat.le_refl _) _⟩

theorem key_wf {k : Int} (h0 : -1000000000000 ≤ k) (h1 : k ≤ 1000000000000) : (key k).wf = true := by
  have e1 : IntKind.i64.min = -9223372036854775808 := by decide
  have e2 : IntKind.i64.max = 9223372036854775807 := by decide
  show (decide (IntKind.i64.min ≤ k) && decide (k ≤ IntKind.i64.max)) = true
  rw [e1, e2, decide_eq_true (by omega), decide_eq_true (by omega)]
  rfl
theorem find_on {x : G} {q : Pt} (hq : ∀ p ∈ x.l, ¬ p.id = q.id) (last : Int) (k : Int) : (G.mk last (x.l ++ [q])).find k = if k = q.id then some q else x.find k := by
  unfold G.find
  rw [List.find?_append]
  by_cases h : k = q.id
  · rw [if_pos h]
    have : x.l.find? (fun p => decide (p.id = k)) = none := by
      rw [List.find?_eq_none]
      intro p hp
      simp
      rw [h]
      exact hq p hp
    rw [this]
    simp [h]
  · rw [if_neg h]
    have : ([q] : List Pt).find? (fun p => decide (p.id = k)) = none := by
      simp
      exact fun e => h e.symm
    rw [this]
    simp

set_option maxHeartbeats 1000000 in
theorem add_any (g mb n : Nat) (x : G) (v : Value) (p : Pt) (w : World) (hG : Gr w g mb n x) (hv : PtV w v p) (hl : p.data.length ≤ 1000) (hnl : p.needs.length ≤ 1000) (h0 : 0 ≤ x.last) (hlast : x.last < 1000000) (hn : n < 1000000)
    (hfr : ∀ q ∈ x.l, q.id ≤ x.last) :
    Calls Try.prog 13 #[.pointer (some ⟨g, 0, none⟩), v] w fun e w' => e = .returned (.tuple #[.int .i64 (addG x p).1, .int .i64 (addG x p).2.1]) ∧ Gr w' g mb (n + 1) (addG x p).2.2 ∧ Turn (fun j => j = g ∨ j = mb) w w' := by
  have HG := Lib.hid hG
  have HV := Lib.hid hv
  have hgl := hG.lt
  obtain ⟨vd, vn, rfl, hd, hvn⟩ := hv
  clear hd hvn hG
  have HR := Lib.hid (right_any g x.last _ p (w.alloc (.cells #[.int .i64 p.id, .int .i64 p.sec, .int .i64 p.off, vd, .int .i64 p.kind, vn, .int .i64 p.owner, .int .i64 p.child, .bool p.written] 30)) (HV.out.alloc _) (HG.out.alloc _).c0 hl)
  unfold Pt.val at *
  cases hr : rightB p x.last with
  | false =>
    have HF := Lib.hid (show addG x p = (0, 2, x) by unfold addG; rw [hr]; rfl)
    rw [hr] at HR
    clear hr
    go_enter Try.func13, Try.ntmps13
    go_wp2_with fail
    refine HR.out.mono ?_
    rintro e w1 ⟨rfl, hb1⟩
    have HB1 := Lib.hid (((Below.refl w.heap.size w).alloc (Nat.le_refl _) _).trans (hb1.mono (by simp)))
    clear hb1
    go_wp2_with fail
    go_ret2
    exact ⟨by rw [HF.out]; rfl, by rw [HF.out]; exact (HG.out.below HB1.out).mono (by omega), (Turn.of_below (S := fun j => j = g ∨ j = mb) HB1.out)⟩
  | true =>
    have HF := Lib.hid (show addG x p = (x.last + 1, 0, ⟨x.last + 1, x.l ++ [p.as (x.last + 1)]⟩) by unfold addG; rw [hr]; rfl)
    rw [hr] at HR
    clear hr
    go_enter Try.func13, Try.ntmps13
    go_wp2_with fail
    refine HR.out.mono ?_
    rintro e w1 ⟨rfl, hb1⟩
    have HB1 := Lib.hid (((Below.refl w.heap.size w).alloc (Nat.le_refl _) _).trans (hb1.mono (by simp)))
    have HX1 := Lib.hid ((Blk.new w 30 #[.int .i64 p.id, .int .i64 p.sec, .int .i64 p.off, vd, .int .i64 p.kind, vn, .int .i64 p.owner, .int .i64 p.child, .bool p.written]).below hb1 (by simp))
    have HG1 := Lib.hid (HG.out.below HB1.out)
    have HV1 := Lib.hid (HV.out.below HB1.out)
    have c0 := HG1.out.c0
    have f0 := HG1.out.1.frozen 0
    have hne : ¬ w.heap.size = g := by omega
    have d := HX1.out.cell
    have d0 := d 0
    have d1 := d 1
    have d2 := d 2
    have d3 := d 3
    have d4 := d 4
    have d5 := d 5
    have d6 := d 6
    have d7 := d 7
    have d8 := d 8
    simp at d0 d1 d2 d3 d4 d5 d6 d7 d8
    have ew : IntKind.i64.wrap (x.last + 1) = x.last + 1 := IntWalk.i64_in _ (by omega) |>.trans (by omega)
    have hg1 : g < w1.heap.size := HG1.out.lt
    clear hb1 d HR
    go_wp2_with fail
    have HV2 := Lib.hid (HV1.out.move (w' := w1.setCell ⟨g, 0, none⟩ (.int .i64 (x.last + 1))) fun i t cs ht k => k.far (p := ⟨g, 0, none⟩) (k.ne_ HG1.out.1 (by rcases ht with rfl | rfl <;> decide)) _)
    refine (own_any _ p _ HV2.out hl hnl).mono ?_
    rintro e w2 ⟨r, rfl, ⟨vd', vn', rfl, hd', hn'⟩, hb2⟩
    obtain ⟨A1, c1, rfl, -, -⟩ := hd'.len
    obtain ⟨A2, c2, rfl, -, -⟩ := hn'.len
    have hG2 : Blk w2 g 79 #[.int .i64 (x.last + 1), .map (some mb)] := (HG1.out.1.set_ 0 (.int .i64 (x.last + 1))).below hb2 (by simpa [World.setCell] using hg1)
    have hX2 := (HX1.out.far (p := ⟨g, 0, none⟩) hne (.int .i64 (x.last + 1))).below hb2 (by simpa [World.setCell] using HX1.out.lt)
    obtain ⟨f, hm1, hh1⟩ := HG1.out.2
    have hm2 : MapIs w2 mb n f := (hm1.far (p := ⟨g, 0, none⟩) HG1.out.ne (.int .i64 (x.last + 1))).keep (hb2.block mb (by simpa [World.setCell] using HG1.out.ltm))
    have hh2 : Holds w2 f x := hh1.move fun i t cs ht k => (k.far (p := ⟨g, 0, none⟩) (k.ne_ HG1.out.1 (by rcases ht with rfl | rfl <;> decide)) (.int .i64 (x.last + 1))).below hb2 (by simpa [World.setCell] using k.lt)
    have hT2 : Turn (fun j => j = g) w w2 := (((Turn.of_below (S := fun j => j = g) HB1.out).setCell (p := ⟨g, 0, none⟩) (fun _ => rfl) (.int .i64 (x.last + 1))).trans (Turn.of_below (S := fun _ => False) hb2) (fun _ _ e => e.elim))
    have HT2 := Lib.hid hT2
    have HM2 := Lib.hid hm2
    have HH2 := Lib.hid hh2
    have HD2 := Lib.hid hd'
    have HN2 := Lib.hid hn'
    have HG2 := Lib.hid hG2
    have HX2 := Lib.hid hX2
    have hs2 : w.heap.size < w2.heap.size := hX2.lt
    have hg2 : g < w2.heap.size := hG2.lt
    have c0' := hG2.cell 0
    have c1' := hG2.cell 1
    simp at c0' c1'
    have d := hX2.cell
    have b0 := d 0
    have b1 := d 1
    have b2 := d 2
    have b3 := d 3
    have b4 := d 4
    have b5 := d 5
    have b6 := d 6
    have b7 := d 7
    have b8 := d 8
    simp at b0 b1 b2 b3 b4 b5 b6 b7 b8
    have e := hX2.frozen
    have e0 := e 0
    have e1 := e 1
    have e2 := e 2
    have e3 := e 3
    have e4 := e 4
    have e5 := e 5
    have e6 := e 6
    have e7 := e 7
    have e8 := e 8
    clear e d hb2 hG2 hX2 hm1 hh1 hm2 hh2 hT2 hd' hn' d0 d1 d2 d3 d4 d5 d6 d7 d8 c0 f0 HX1 HG1 HV1 HV2 HB1 hg1
    unfold Pt.val
    go_wp2_with fail
    have F := (((((((((((HX2.out.set_ 0 (.int .i64 p.id)).set_ 1 (.int .i64 p.sec)).set_ 2 (.int .i64 p.off)).set_ 3 (.slice A1 (bytes p.data).length c1)).set_ 4 (.int .i64 p.kind)).set_ 5 (.slice A2 (ints p.needs).length c2)).set_ 6 (.int .i64 p.owner)).set_ 7 (.int .i64 p.child)).set_ 8 (.bool p.written)).set_ 0 (.int .i64 (x.last + 1))).set_ 8 (.bool false))
    have T := ((((((((((((Turn.refl (fun j => j = w.heap.size) w2).setCell (p := ⟨w.heap.size, 0, none⟩) (fun _ => rfl) (.int .i64 p.id)).setCell (p := ⟨w.heap.size, 1, none⟩) (fun _ => rfl) (.int .i64 p.sec)).setCell (p := ⟨w.heap.size, 2, none⟩) (fun _ => rfl) (.int .i64 p.off)).setCell (p := ⟨w.heap.size, 3, none⟩) (fun _ => rfl) (.slice A1 (bytes p.data).length c1)).setCell (p := ⟨w.heap.size, 4, none⟩) (fun _ => rfl) (.int .i64 p.kind)).setCell (p := ⟨w.heap.size, 5, none⟩) (fun _ => rfl) (.slice A2 (ints p.needs).length c2)).setCell (p := ⟨w.heap.size, 6, none⟩) (fun _ => rfl) (.int .i64 p.owner)).setCell (p := ⟨w.heap.size, 7, none⟩) (fun _ => rfl) (.int .i64 p.child)).setCell (p := ⟨w.heap.size, 8, none⟩) (fun _ => rfl) (.bool p.written)).setCell (p := ⟨w.heap.size, 0, none⟩) (fun _ => rfl) (.int .i64 (x.last + 1))).setCell (p := ⟨w.heap.size, 8, none⟩) (fun _ => rfl) (.bool false))
    generalize (((((((((((w2.setCell ⟨w.heap.size, 0, none⟩ (.int .i64 p.id)).setCell ⟨w.heap.size, 1, none⟩ (.int .i64 p.sec)).setCell ⟨w.heap.size, 2, none⟩ (.int .i64 p.off)).setCell ⟨w.heap.size, 3, none⟩ (.slice A1 (bytes p.data).length c1)).setCell ⟨w.heap.size, 4, none⟩ (.int .i64 p.kind)).setCell ⟨w.heap.size, 5, none⟩ (.slice A2 (ints p.needs).length c2)).setCell ⟨w.heap.size, 6, none⟩ (.int .i64 p.owner)).setCell ⟨w.heap.size, 7, none⟩ (.int .i64 p.child)).setCell ⟨w.heap.size, 8, none⟩ (.bool p.written)).setCell ⟨w.heap.size, 0, none⟩ (.int .i64 (x.last + 1))).setCell ⟨w.heap.size, 8, none⟩ (.bool false)) = w3 at *
    have hX3 : Blk w3 w.heap.size 30 #[.int .i64 (x.last + 1), .int .i64 p.sec, .int .i64 p.off, .slice A1 (bytes p.data).length c1, .int .i64 p.kind, .slice A2 (ints p.needs).length c2, .int .i64 p.owner, .int .i64 p.child, .bool false] := by simpa using F
    have hG3 := HG2.out.turn T (fun e => hne e.symm)
    have hm3 := HM2.out.turn T (fun e => absurd e (Nat.ne_of_lt (by have := HG.out.ltm; omega)))
    have hh3 : Holds w3 f x := HH2.out.move fun i t cs ht k => k.turn T fun e => k.ne_ HX2.out (by rcases ht with rfl | rfl <;> decide) e
    have HD3 := Lib.hid (HD2.out.turn T fun i cs k e => k.ne_ HX2.out (by decide) e)
    have HN3 := Lib.hid (HN2.out.turn T fun i cs k e => k.ne_ HX2.out (by decide) e)
    have HT3 := Lib.hid (HT2.out.trans (S' := fun j => j = w.heap.size) T (fun i hi e => by omega))
    have hk : (key (x.last + 1)).wf = true := key_wf (by omega) (by omega)
    have HTM := Lib.hid hm3
    obtain ⟨w4, hupd, hm4, hg4⟩ := hm3.drew.store Try.underlying77 (by unfold maxLen; omega) hk (Value.agg #[.int .i64 (x.last + 1), .int .i64 p.sec, .int .i64 p.off, .slice A1 (bytes p.data).length c1, .int .i64 p.kind, .slice A2 (ints p.needs).length c2, .int .i64 p.owner, .int .i64 p.child, .bool false])
    have c0'' := hG3.cell 0
    have c1'' := hG3.cell 1
    simp at c0'' c1''
    have d := hX3.cell
    have d0 := d 0
    have d1 := d 1
    have d2 := d 2
    have d3 := d 3
    have d4 := d 4
    have d5 := d 5
    have d6 := d 6
    have d7 := d 7
    have d8 := d 8
    simp at d0 d1 d2 d3 d4 d5 d6 d7 d8
    have HX3 := Lib.hid hX3
    have HG3 := Lib.hid hG3
    have HM4 := Lib.hid hm4
    have HG4 := Lib.hid hg4
    have HH3 := Lib.hid hh3
    clear hX3 hG3 hm3 hh3 hm4 hg4 d F T hk b0 b1 b2 b3 b4 b5 b6 b7 b8 e0 e1 e2 e3 e4 e5 e6 e7 e8 c0' c1' HX2 HG2 HM2 HH2 HD2 HN2 HT2 hs2 hg2
    go_region
    have hmb : w.heap.size ≠ mb := fun e => Nat.ne_of_lt HG.out.ltm e.symm
    have T4 := turn_of_grown HG4.out
    have hX4 : Blk w4 w.heap.size 30 _ := HX3.out.drew.turn T4 hmb
    have e1 := hX4.cell 0
    simp at e1
    have hG4 : Blk w4 g 79 _ := HG3.out.drew.turn T4 (fun e => HG.out.ne e.symm)
    have HGR := Lib.hid (show Gr w4 g mb (n + 1) ⟨x.last + 1, x.l ++ [p.as (x.last + 1)]⟩ from ⟨hG4, _, HM4.out, by
      have hno : ∀ q ∈ x.l, ¬ q.id = (p.as (x.last + 1)).id := fun q hq e => by
        have := hfr q hq
        rw [e] at this
        exact absurd this (by show ¬ x.last + 1 ≤ x.last; omega)
      intro k
      rw [find_on hno]
      have hb : ∀ i t cs, (t = 3 ∨ t = 5) → Blk w3 i t cs → Blk w4 i t cs := fun i t cs ht k => (k.drew).turn T4 fun e => by
        exact HTM.out.not_blk k e.symm
      by_cases hkk : k = (p.as (x.last + 1)).id
      · rw [if_pos hkk]
        refine ⟨_, by rw [hkk]; exact upd_same _ _ _, _, _, rfl, HD3.out.move fun i cs k => hb i 5 cs (.inr rfl) k, HN3.out.move fun i cs k => hb i 3 cs (.inl rfl) k⟩
      · rw [if_neg hkk]
        have h3 := HH3.out k
        cases hf : x.find k with
        | none =>
          rw [hf] at h3
          exact (upd_other _ _ hkk).trans h3
        | some q =>
          rw [hf] at h3
          obtain ⟨v, ev, hv⟩ := h3
          exact ⟨v, (upd_other _ _ hkk).trans ev, hv.move hb⟩⟩)
    have HT4 := Lib.hid (show Turn (fun j => j = g ∨ j = mb) w w4 from (HT3.out.drew.mono (fun i hi e => .inl e)).trans T4 (fun i hi e => .inr e))
    clear hX4 T4 hG4 d0 d1 d2 d3 d4 d5 d6 d7 d8 c0'' c1'' hupd HX3 HG3 HM4 HG4 HH3 HD3 HN3 HT3
    go_wp2
    go_ret2
    exact ⟨by rw [HF.out]; rfl, by rw [HF.out]; exact HGR.out, HT4.out⟩
end Go.Proofs.Ytmkfaibjjbgbbaa
