/- graph.Copy. -/
import Derived.Test.YtmkfaibjjbgbbaaGet
namespace Go.Proofs.Ytmkfaibjjbgbbaa
open Go.RowKit
set_option linter.unusedVariables false

def cameF (f : Int → Option Value) (L : List Int) : Int → Option Value := fun k => if k ∈ L then f k else none
theorem came_on (f : Int → Option Value) (L : List Int) {k : Int} {v : Value} (h : f k = some v) : upd (cameF f L) k (some v) = cameF f (L ++ [k]) := by
  funext y
  unfold upd cameF
  by_cases e : y = k
  · subst e; simp [h]
  · simp [e]

set_option maxHeartbeats 2000000 in
theorem copy_any (g mb n : Nat) (x : G) (w : World) (hG : Gr w g mb n x) (hx : x.l.Pairwise (fun p q => p.id < q.id)) (hlen : x.l.length ≤ 100000) :
    Calls Try.prog 21 #[.pointer (some ⟨g, 0, none⟩)] w fun e w' => ∃ g' mb', e = .returned (.pointer (some ⟨g', 0, none⟩)) ∧ Gr w' g' mb' x.l.length x ∧ Below w.heap.size w w' ∧ w.heap.size ≤ g' ∧ w.heap.size ≤ mb' := by
  have HG := Lib.hid hG
  have HX := Lib.hid hx
  clear hG hx
  go_enter Try.func21, Try.ntmps21
  go_wp2_with fail
  refine (new_any w).mono ?_
  rintro e w1 ⟨g2, mb2, rfl, hG1, hb1, hgn, hmn⟩
  have HG1 := Lib.hid (HG.out.below hb1)
  have hc0 := HG1.out.c0
  have hgl : g < w.heap.size := HG.out.lt
  obtain ⟨hb2, f0, hm2, hz0⟩ := hG1
  obtain rfl : f0 = fun _ => none := funext fun k => hz0 k
  clear hz0
  have f20 := hb2.frozen 0
  have c20 := hb2.cell 0
  simp at c20
  have hne : ¬ g2 = g := by omega
  have hc1 := HG1.out.c1
  have hg2l : g2 < w1.heap.size := hb2.lt
  have hmn2 : mb2 ≠ g2 := hm2.not_blk hb2
  have T1 := (Turn.refl (fun j => j = g2) w1).setCell (p := ⟨g2, 0, none⟩) (fun _ => rfl) (.int .i64 x.last)
  have hX1 := hb2.set_ 0 (.int .i64 x.last)
  have hX2 : Blk (w1.setCell ⟨g2, 0, none⟩ (.int .i64 x.last)) g2 79 #[.int .i64 x.last, .map (some mb2)] := by simpa using hX1
  have hm3 := hm2.turn T1 (fun e => hmn2 e)
  have HBW := Lib.hid ((hb1).trans (T1.below (B := w.heap.size) hb1.size (fun i hi e => by omega)))
  have HGW := Lib.hid (HG.out.below HBW.out)
  obtain ⟨hg0, f, hm0, hh⟩ := HG.out
  have hg3 := hg0.below HBW.out hg0.lt
  have hm := hm0.keep (HBW.out.block mb hm0.lt)
  have hcW := hg3.cell 1
  simp at hcW
  obtain ⟨w3, cnt0, hrange, hr3, hgr3, hsz3⟩ := hm.range Try.underlying77
  have hB3 : Below (w1.setCell ⟨g2, 0, none⟩ (.int .i64 x.last)).heap.size (w1.setCell ⟨g2, 0, none⟩ (.int .i64 x.last)) w3 := ⟨hgr3.os, hgr3.tape, hgr3.output, hgr3.size, fun i hi => hgr3.block i hi (by simp)⟩
  have hszw : (w1.setCell ⟨g2, 0, none⟩ (.int .i64 x.last)).heap.size = w1.heap.size := by simp [World.setCell]
  have HM3 := Lib.hid (hm3.turn (Turn.of_below (S := fun _ => False) hB3) (fun e => e))
  have HX3 := Lib.hid (hX2.below hB3 hX2.lt)
  have HR3 := Lib.hid hr3
  have HF := Lib.hid hh
  have HB3 := Lib.hid (HBW.out.trans (hB3.mono HBW.out.size))
  have hmbl : mb < w.heap.size := HG.out.ltm
  have hmb2l : mb2 < w1.heap.size := hm2.lt
  have hnoneC : ∀ k, (f k).isSome = false → ∀ p ∈ x.l, p.id ≠ k := fun k hk p hp e => by
    have := HF.out k
    cases hfd : x.find k with
    | none => exact find_none hfd p hp e
    | some p' =>
      rw [hfd] at this
      obtain ⟨v, ev, _⟩ := this
      rw [ev] at hk
      cases hk
  have HC0 := Lib.hid (show Came x (fun _ => true) (fun k => (f k).isSome) [] from ⟨List.nodup_nil, fun k => by
    constructor
    · intro h; cases h
    · rintro ⟨h1, p, hp, _, e⟩; exact absurd e (hnoneC k h1 p hp)⟩)
  clear hm3 hX2 hX1 hr3 hm hm0 hg0 hh hg3 hB3 hgr3 hnoneC T1 hb2 hm2 hb1
  go_wp2_with fail
  rw [hszw] at HR3 hsz3
  generalize w1.setCell ⟨g2, 0, none⟩ (.int .i64 x.last) = w2 at *
  go_loopw [4] (fun _ wr => ∃ (left : Int → Bool) (cnt : Nat) (L : List Int), RangeIs wr mb w1.heap.size n f left cnt ∧ Hid (Came x (fun _ => true) left L) ∧ MapIs wr mb2 L.length (cameF f L) ∧ Blk wr g2 79 #[.int .i64 x.last, .map (some mb2)] ∧ Below w.heap.size w wr ∧ w1.heap.size + 1 ≤ wr.heap.size) (fun _ wr => wr.rangeLeft mb w1.heap.size)
  case atStart => exact ⟨_, cnt0, [], HR3.out, HC0.out, by
    have h := HM3.out
    have e : cameF f [] = fun _ => none := by funext k; simp [cameF]
    rw [e]
    exact h, HX3.out, HB3.out, by omega⟩
  case round =>
    obtain ⟨left, cnt, L, hrg, hC, hmw, hbk, hbel, hsz⟩ := hrel
    have HC := Lib.hid hC
    have HMW := Lib.hid hmw
    have HBK := Lib.hid hbk
    have HB := Lib.hid hbel
    have hLl := hC.out.len
    have hcnt := hrg.left_eq
    have hrl := hrg.lt
    rcases hrg.next 0 with ⟨h0, hrun⟩ | ⟨k, v, w5, cnt2, hfk, hlk, hwf, hrun, hr2, hlt, hg2, hsz2, hen⟩
    · have HE := Lib.hid (show Gr wr g2 mb2 x.l.length x from ⟨hbk, _, hmw.mono hLl, fun k => by
        have hz := HF.out k
        cases hfd : x.find k with
        | none =>
          rw [hfd] at hz
          show (if k ∈ L then f k else none) = none
          rw [hz]
          by_cases hkL : k ∈ L
          · rw [if_pos hkL]
          · rw [if_neg hkL]
        | some p =>
          rw [hfd] at hz
          obtain ⟨v, ev, hv⟩ := hz
          obtain ⟨hpm, hpk⟩ := find_mem hfd
          refine ⟨v, ?_, ?_⟩
          · unfold cameF
            rw [if_pos ((hC.out.2 k).2 ⟨h0 k, p, hpm, rfl, hpk⟩), ev]
          · exact hv.below hbel⟩)
      clear hrg hC hmw hbk hbel h0
      go_wp2
      go_ret
      exact ⟨_, _, rfl, HE.out, HB.out, by omega, by omega⟩
    · have hpv := HF.out k
      cases hfd : x.find k with
      | none => rw [hfd] at hpv; rw [hpv] at hfk; cases hfk
      | some p =>
        rw [hfd] at hpv
        obtain ⟨v', ev, hv⟩ := hpv
        rw [ev] at hfk
        obtain rfl : v' = v := Option.some.inj hfk
        obtain ⟨hpm, hpk⟩ := find_mem hfd
        subst hpk
        obtain ⟨vd, vn, rfl, hd, hn⟩ := hv
        obtain ⟨A1, k1, rfl, -, -⟩ := hd.len
        obtain ⟨A2, k2, rfl, -, -⟩ := hn.len
        have HCN := Lib.hid (hC.out.on hpm rfl hlk rfl)
        have hb5 : Below w.heap.size w w5 := HB.out.grown hg2 HB.out.size (fun j hj => by injection hj with hj; omega)
        have T5 : Turn (fun j => j = w1.heap.size) wr w5 := turn_of_grown hg2
        have hm5 := hmw.turn T5 (fun e => by omega)
        have hbk5 := hbk.turn T5 (fun e => by omega)
        obtain ⟨w6, hupd, hm6, hg6⟩ := (hm5.alloc (.cells #[.int .i64 p.id, .int .i64 p.sec, .int .i64 p.off, .slice A1 (bytes p.data).length k1, .int .i64 p.kind, .slice A2 (ints p.needs).length k2, .int .i64 p.owner, .int .i64 p.child, .bool p.written] 30)).drew.store Try.underlying77 (by unfold maxLen; omega) hwf (Value.agg #[.int .i64 p.id, .int .i64 p.sec, .int .i64 p.off, .slice A1 (bytes p.data).length k1, .int .i64 p.kind, .slice A2 (ints p.needs).length k2, .int .i64 p.owner, .int .i64 p.child, .bool p.written])
        rw [show (Value.agg #[.int .i64 p.id, .int .i64 p.sec, .int .i64 p.off, .slice A1 (bytes p.data).length k1, .int .i64 p.kind, .slice A2 (ints p.needs).length k2, .int .i64 p.owner, .int .i64 p.child, .bool p.written]) = p.val (.slice A1 (bytes p.data).length k1) (.slice A2 (ints p.needs).length k2) from rfl, came_on f L ev] at hm6
        have HM6 := Lib.hid (show MapIs w6 mb2 (L ++ [p.id]).length (cameF f (L ++ [p.id])) from by rw [List.length_append]; exact hm6)
        have T6 : Turn (fun j => j = mb2) (w5.alloc (.cells #[.int .i64 p.id, .int .i64 p.sec, .int .i64 p.off, .slice A1 (bytes p.data).length k1, .int .i64 p.kind, .slice A2 (ints p.needs).length k2, .int .i64 p.owner, .int .i64 p.child, .bool p.written] 30)).drew w6 := turn_of_grown hg6
        have hs5 := hg2.size
        have hs6 := hg6.size
        simp at hs6
        have HBK6 := Lib.hid ((hbk5.alloc (.cells #[.int .i64 p.id, .int .i64 p.sec, .int .i64 p.off, .slice A1 (bytes p.data).length k1, .int .i64 p.kind, .slice A2 (ints p.needs).length k2, .int .i64 p.owner, .int .i64 p.child, .bool p.written] 30)).drew.turn T6 (fun e => hmn2 e.symm))
        have HR6 := Lib.hid (((hr2.below ((Below.refl _ _).alloc (Nat.le_refl _) (.cells #[.int .i64 p.id, .int .i64 p.sec, .int .i64 p.off, .slice A1 (bytes p.data).length k1, .int .i64 p.kind, .slice A2 (ints p.needs).length k2, .int .i64 p.owner, .int .i64 p.child, .bool p.written] 30))).turn (T6.trans (Turn.refl _ _) (fun i hi e => e) |> fun h => (⟨h.os, h.tape, h.output, h.size, h.block⟩ : Turn (fun j => j = mb2) (w5.alloc (.cells #[.int .i64 p.id, .int .i64 p.sec, .int .i64 p.off, .slice A1 (bytes p.data).length k1, .int .i64 p.kind, .slice A2 (ints p.needs).length k2, .int .i64 p.owner, .int .i64 p.child, .bool p.written] 30)) w6)) (fun e => by omega) (fun e => by omega)))
        have HB6 := Lib.hid ((hb5.alloc hb5.size (.cells #[.int .i64 p.id, .int .i64 p.sec, .int .i64 p.off, .slice A1 (bytes p.data).length k1, .int .i64 p.kind, .slice A2 (ints p.needs).length k2, .int .i64 p.owner, .int .i64 p.child, .bool p.written] 30)).drew.trans (T6.below (B := w.heap.size) (by have := hb5.size; simp; omega) (fun i hi e => by omega)))
        have hnb := Blk.new w5 30 #[.int .i64 p.id, .int .i64 p.sec, .int .i64 p.off, .slice A1 (bytes p.data).length k1, .int .i64 p.kind, .slice A2 (ints p.needs).length k2, .int .i64 p.owner, .int .i64 p.child, .bool p.written]
        have d := hnb.cell
        have d0 := d 0
        have d1 := d 1
        have d2 := d 2
        have d3 := d 3
        have d4 := d 4
        have d5 := d 5
        have d6 := d 6
        have d7 := d 7
        have d8 := d 8
        simp at d0 d1 d2 d3 d4 d5 d6 d7 d8
        have dg := (hbk5.alloc (.cells #[.int .i64 p.id, .int .i64 p.sec, .int .i64 p.off, .slice A1 (bytes p.data).length k1, .int .i64 p.kind, .slice A2 (ints p.needs).length k2, .int .i64 p.owner, .int .i64 p.child, .bool p.written] 30)).cell 1
        simp at dg
        have hl5 : w1.heap.size + 1 ≤ w6.heap.size := by omega
        have hm6' := HR6.out.left_eq
        clear hrg hC hmw hbk hbel hd hn hg2 hr2 hb5 T5 hm5 hbk5 hm6 hg6 T6 hnb d hfd ev hfk
        unfold Pt.val at *
        go_wp2_with fail
        go_region
        all_goals
          go_wp2
          go_roundw
          case rel => exact ⟨_, cnt2, _, HR6.out, HCN.out, HM6.out, HBK6.out, HB6.out, hl5⟩
          case measure => rw [hm6', hcnt]; exact hlt
end Go.Proofs.Ytmkfaibjjbgbbaa
