/- Write of package scupperref14. -/
import Derived.Test.YtmkfaibjjbgbbaaRwLaw
import Derived.Test.YtmkfaibjjbgbbaaRadd
namespace Go.Proofs.Ytmkfaibjjbgbbaa
open Go.RowKit
set_option linter.unusedVariables false
attribute [local go_sem ↓] Go.wp_at_zero Go.wp_at_succ

theorem ptCells_set : ∀ (L : List (Value × Value × Pt)) (k : Nat) (e : Value × Value × Pt), L[k]? = some e → (ptCells L).set (k * 9 + 8) (.bool true) = ptCells (L.set k (e.1, e.2.1, e.2.2.done)) := by
  intro L
  induction L with
  | nil => intro k e h; cases h
  | cons a L ih =>
    intro k e h
    have hc : ∀ a L, ptCells (a :: L) = (a.2.2.cells a.1 a.2.1).toList ++ ptCells L := fun _ _ => rfl
    have hl : (a.2.2.cells a.1 a.2.1).toList.length = 9 := by simp [Pt.cells]
    cases k with
    | zero =>
      simp at h
      subst h
      rw [List.set_cons_zero, hc, hc, Nat.zero_mul, Nat.zero_add, List.set_append, if_pos (by omega)]
      rfl
    | succ k =>
      rw [List.set_cons_succ, hc, hc, List.set_append, if_neg (by omega), hl, show (k + 1) * 9 + 8 - 9 = k * 9 + 8 by omega, ih k e (by simpa using h)]

set_option maxHeartbeats 4000000 in
set_option maxRecDepth 100000 in
theorem rwrite_any (b : Nat) (x : G) (v : Value) (L : List Int) (w : World) (hG : RG w b x) (hx : Rise x.l) (hs : ∀ p ∈ x.l, p.small ∧ p.needs.length ≤ 1000) (hxl : x.l.length ≤ 1000) (hv : Arr w 3 v (ints L)) (hLl : L.length ≤ 1000) :
    Calls Try.prog 64 #[.pointer (some ⟨b, 0, none⟩), v] w fun e w' => e = .returned (.int .i64 (writeG x L).1) ∧ RG w' b (writeG x L).2 ∧ Turn (fun j => j = b) w w' := by
  obtain ⟨i0, hi0, hz0, hz1, hz2⟩ := info_parts info30
  have HG := Lib.hid hG
  have hat := hv
  obtain ⟨A, c, rfl, h1, h2⟩ := hv.len
  have HA := Lib.hid (show ∀ (k : Nat) (y : Int), L[k]? = some y → ∃ gb o cs, A = some ⟨gb, o, none⟩ ∧ Blk w gb 3 cs ∧ cs[o + k]? = some (.int .i64 y) from fun k y hy => by
    rcases hat with ⟨_, e⟩ | ⟨gb, o, c', cs, e1, _, _, hbk, hc⟩
    · have := ints_at hy; rw [e] at this; cases this
    · injection e1 with e1
      exact ⟨gb, o, cs, e1, hbk, hc k _ (ints_at hy)⟩)
  rw [ints_len] at h1 ⊢
  unfold maxLen at h2
  have HX := Lib.hid hx
  have HSm := Lib.hid hs
  clear hG hx hs hv hat
  go_enter Try.func64, Try.ntmps64
  go_wp2_with fail
  go_loopw [5] (fun i wr => ∃ (k : Nat) (y : G), k ≤ L.length ∧ i = .int .i64 k ∧ RG wr b y ∧ Turn (fun j => j = b) w wr ∧ Hid (writeG x L = writeG y (L.drop k)) ∧ Hid (Rise y.l) ∧ Hid (∀ p ∈ y.l, p.small ∧ p.needs.length ≤ 1000) ∧ Hid (y.l.length = x.l.length)) (fun i _ => L.length - (intOf i).toNat)
  case atStart => exact ⟨0, x, Nat.zero_le _, rfl, HG.out, Turn.refl _ _, by unfold Hid; rfl, HX, HSm, by unfold Hid; rfl⟩
  case round =>
    obtain ⟨k, y, hk, rfl, hg, hT, hW, hX, hS, hLen⟩ := hrel
    have HGk := Lib.hid hg
    have HT := Lib.hid hT
    have hsz := hT.size
    by_cases hlt : k < L.length
    · obtain ⟨id, hid⟩ : ∃ id, L[k]? = some id := ⟨_, List.getElem?_eq_getElem hlt⟩
      obtain ⟨gb, o, cs, rfl, hbk, hcs⟩ := HA.out k id hid
      have hc1 : wr.cell? ⟨gb, o + k, none⟩ = some (.int .i64 id) := by
        obtain ⟨_, hb0, _⟩ := HG.out
        exact ((hbk.turn hT (hbk.ne_ hb0 (by decide))).cell (o + k)).trans hcs
      have HON := Lib.hid (write_on (x := y) hid)
      have hyl : y.l.length ≤ 1000 := by have := hLen.out; omega
      have hFd := rfind_any b y id wr hg
      rcases findI_ref y id with ⟨hf, hi⟩ | ⟨j, p, hf, hj, hpid, hi⟩
      · rw [hi] at hFd
        have HFd := Lib.hid hFd
        have HE := Lib.hid (show writeG x L = (5, y) from by rw [hW.out, HON.out, show wr1 y id = (5, y) from by unfold wr1; rw [hf]]; rfl)
        clear hg hT hbk hcs hf hi hid hFd
        go_wp2_with fail
        refine HFd.out.mono ?_
        rintro e w5 ⟨rfl, rfl⟩
        go_wp2
        go_ret
        exact ⟨by rw [HE.out]; rfl, by rw [HE.out]; exact HGk.out, HT.out⟩
      · rw [hi] at hFd
        have HFd := Lib.hid hFd
        subst hpid
        have hjl := idx_lt hj
        have HRd := Lib.hid (readies_any b y wr hg hS.out hyl)
        have HBh := Lib.hid fun (W : World) (hW : Below wr.heap.size wr W) => rbehind_any b y j p W (hg.below hW) hj (fun q hq => (hS.out q hq).1) hyl
        have HRe := Lib.hid (ready_ref hX.out hj)
        have HBe := Lib.hid (behind_ref hX.out hj)
        have HMk := Lib.hid (mark_ref hX.out hj)
        have HW1 := Lib.hid (show wr1 y p.id = if !(readyG y p.sec).contains p.id || behindB y p then (23, y) else (0, mark y p.id) from by unfold wr1; rw [hf])
        have HJ := Lib.hid hj
        have hbr := hg.lt
        clear hg hT hbk hcs hf hi hid hFd hj
        cases hr : (readyG y p.sec).contains p.id with
        | false =>
          have HE := Lib.hid (show writeG x L = (23, y) from by rw [hW.out, HON.out, HW1.out, hr]; rfl)
          have HRe2 := Lib.hid (show (rdOuts y.l y.l.length)[j]? = some false from by rw [HRe.out, hr])
          clear hr
          go_wp2_with fail
          refine HFd.out.mono ?_
          rintro e w5 ⟨rfl, rfl⟩
          go_wp2_with fail
          refine HRd.out.mono ?_
          rintro e w6 ⟨o5, rfl, ho5, hb5⟩
          have hoc : w6.cell? ⟨o5, j, none⟩ = some (.bool false) := (World.ownsRow.cellAt ho5 j (by omega)).trans (by rw [List.getElem?_map, HRe2.out]; rfl)
          have HB5 := Lib.hid hb5
          clear ho5 hb5
          go_wp2
          go_ret
          exact ⟨by rw [HE.out]; rfl, by rw [HE.out]; exact HGk.out.below HB5.out, HT.out.trans (Turn.of_below (S := fun _ => False) HB5.out) (fun _ _ e => e.elim)⟩
        | true =>
          have HRe2 := Lib.hid (show (rdOuts y.l y.l.length)[j]? = some true from by rw [HRe.out, hr])
          cases hbh : behindB y p with
          | true =>
            have HE := Lib.hid (show writeG x L = (23, y) from by rw [hW.out, HON.out, HW1.out, hr, hbh]; rfl)
            rw [HBe.out, hbh] at HBh
            clear hr hbh
            go_wp2_with fail
            refine HFd.out.mono ?_
            rintro e w5 ⟨rfl, rfl⟩
            go_wp2_with fail
            refine HRd.out.mono ?_
            rintro e w6 ⟨o5, rfl, ho5, hb5⟩
            have hoc : w6.cell? ⟨o5, j, none⟩ = some (.bool true) := (World.ownsRow.cellAt ho5 j (by omega)).trans (by rw [List.getElem?_map, HRe2.out]; rfl)
            have HB5 := Lib.hid hb5
            clear ho5 hb5
            go_wp2_with fail
            refine (HBh.out _ (by exact HB5.out)).mono ?_
            rintro e w7 ⟨rfl, hb7⟩
            have HB7 := Lib.hid (HB5.out.trans (hb7.mono HB5.out.size))
            clear hb7
            go_wp2
            go_ret
            exact ⟨by rw [HE.out]; rfl, by rw [HE.out]; exact HGk.out.below HB7.out, HT.out.trans (Turn.of_below (S := fun _ => False) HB7.out) (fun _ _ e => e.elim)⟩
          | false =>
            have HE := Lib.hid (show writeG x L = writeG (mark y p.id) (L.drop (k + 1)) from by rw [hW.out, HON.out, HW1.out, hr, hbh]; rfl)
            rw [HBe.out, hbh] at HBh
            clear hr hbh
            go_wp2_with fail
            refine HFd.out.mono ?_
            rintro e w5 ⟨rfl, rfl⟩
            go_wp2_with fail
            refine HRd.out.mono ?_
            rintro e w6 ⟨o5, rfl, ho5, hb5⟩
            have hoc : w6.cell? ⟨o5, j, none⟩ = some (.bool true) := (World.ownsRow.cellAt ho5 j (by omega)).trans (by rw [List.getElem?_map, HRe2.out]; rfl)
            have HB5 := Lib.hid hb5
            clear ho5 hb5
            go_wp2_with fail
            refine (HBh.out _ (by exact HB5.out)).mono ?_
            rintro e w7 ⟨rfl, hb7⟩
            have HB7 := Lib.hid (HB5.out.trans (hb7.mono HB5.out.size))
            have hs7 := HB7.out.size
            clear hb7 hoc
            obtain ⟨lv, hX7, hl7⟩ := HGk.out.below HB7.out
            obtain ⟨Lc, A', c', e1, rfl, hAn, hAs, hone, harr⟩ := hl7.parts
            have hLb : Lc.length ≤ 1000 := by rw [e1, List.length_map] at hyl; exact hyl
            obtain ⟨e, hLj, rfl⟩ : ∃ e, Lc[j]? = some e ∧ e.2.2 = p := by
              have h := HJ.out
              rw [e1, List.getElem?_map] at h
              cases hq : Lc[j]? with
              | none => rw [hq] at h; cases h
              | some e => rw [hq] at h; exact ⟨e, rfl, by simpa using h⟩
            have hjL : j < Lc.length := by
              rcases Nat.lt_or_ge j Lc.length with h | h
              · exact h
              · rw [List.getElem?_eq_none h] at hLj; cases hLj
            have HLj := Lib.hid hLj
            have x1 := ((hX7.alloc (.cells #[] 30)).cell 1)
            simp at x1
            have HX7 := Lib.hid hX7
            have HL7 := Lib.hid hl7
            have HAr := Lib.hid harr
            have HE1 := Lib.hid e1
            have HAs := Lib.hid (show ∀ ad, A' = some ad → ∀ (j : Nat) (u : Value), (ptCells Lc)[j]? = some u → (w7.alloc (.cells #[] 30)).cell? (ad.add j) = some u from fun ad h j u hu => by
              obtain ⟨h1, h2⟩ := hAs ad h j u hu
              exact (World.cell?_of_block (a := ad.add j) (Below.heap_alloc w7 _ _ (show (ad.add j).block < _ from by unfold Addr.add; split <;> exact h1))).trans h2)
            clear hX7 hl7 harr e1 hAs hc1
            go_wp2_with (at_builtin; refine wpList_append_row rfl (.tmp 33) (.tmp 37) 50 rfl w7.heap.size 30 i0 _ 9 104 Try.underlying50 hi0 hz0 hz1 hz2 rfl (by decide) _ 0 [] rfl (World.ownsRow_made w7 #[] 0 (Nat.le_refl _) (Nat.zero_le _) rfl) A' Lc.length c' (ptCells Lc) rfl ?c0 hAn HAs.out hone ?c3 ?c4 ?c5 ?_)
            case c0 => exact ptCells_len _
            case c3 => simp only [maxLen]; omega
            case c4 => omega
            case c5 => simp
            intro r8 w8 hr8 hg8 _
            have hr8' : w8.ownsRow w7.heap.size 30 9 r8 Lc.length (ptCells Lc) := by simpa using hr8
            obtain ⟨g8, c8, rfl, hg8a, hg8b⟩ := World.ownsRow.form hr8' (by omega)
            have hs8 := hg8.size
            simp at hs8
            have hb8 : Below w7.heap.size w7 w8 := ⟨hg8.os, hg8.tape, hg8.output, by omega, fun i hi => (hg8.block i (by simp; omega) (fun e => by have e' : i = w7.heap.size := Option.some.inj e; omega)).trans (Below.heap_alloc w7 _ i hi)⟩
            have hcl := ptCells_len Lc
            have hcell : ∃ u, w8.cell? ⟨g8, j * 9 + 8, none⟩ = some u := by
              rw [World.ownsRow.cellAt hr8' (j * 9 + 8) (by omega)]
              exact ⟨_, List.getElem?_eq_getElem (by omega)⟩
            obtain ⟨u8, hcell⟩ := hcell
            have hfr := World.ownsRow.frozenAt hr8' (j * 9 + 8)
            obtain ⟨hst, hgr⟩ := World.ownsRow.stored hr8' (j * 9 + 8) (.bool true)
            rw [ptCells_set Lc j e HLj.out] at hst
            have HB8 := Lib.hid hb8
            have HST := Lib.hid hst
            have hX8 := (HX7.out.below hb8 HX7.out.lt)
            have hbne : b ≠ g8 := by have := HX7.out.lt; omega
            have hX9 := hX8.far (p := ⟨g8, j * 9 + 8, none⟩) hbne (.bool true)
            have HX9 := Lib.hid hX9
            have x91 := hX9.cell 1
            have f91 := hX9.frozen 1
            simp at x91
            have HR9 := Lib.hid (RL.of_own (L := Lc.set j (e.1, e.2.1, e.2.2.done)) hst (by rw [List.length_set]) (fun q hq => by
              have hB9 : Below w7.heap.size w7 (w8.setCell ⟨g8, j * 9 + 8, none⟩ (.bool true)) := hb8.setCell (p := ⟨g8, j * 9 + 8, none⟩) (by omega) _
              rcases List.mem_or_eq_of_mem_set hq with h | h
              · exact ⟨(HAr.out q h).1.below hB9, (HAr.out q h).2.below hB9⟩
              · subst h
                have := HAr.out e (List.mem_of_getElem? HLj.out)
                exact ⟨this.1.below hB9, this.2.below hB9⟩))
            have hTT : Turn (fun i => i = b) w (w8.setCell ⟨g8, j * 9 + 8, none⟩ (.bool true)) := (HT.out.trans (Turn.of_below (S := fun _ => False) HB7.out) (fun _ _ e => e.elim)).trans (Turn.of_below (S := fun _ => False) (hb8.setCell (p := ⟨g8, j * 9 + 8, none⟩) (by omega) (.bool true))) (fun _ _ e => e.elim)
            have HTT := Lib.hid hTT
            have hj0 : (0 : Int) ≤ (j : Int) := by omega
            have hj1 : (j : Int) < (Lc.length : Int) := by omega
            clear hr8 hr8' hg8 hb8 hst hgr hX8 hX9 hTT hAn hone x1
            go_wp2
            go_roundw
            case rel => exact ⟨k + 1, mark y e.2.2.id, by omega, by go_num, ⟨_, HX9.out.set_ 1 _, by
              have h := HR9.out.move (w' := (w8.setCell ⟨g8, j * 9 + 8, none⟩ (.bool true)).setCell ⟨b, 1, none⟩ (.slice (some ⟨g8, 0, none⟩) Lc.length c8)) (fun g t cs ht kk => kk.far (p := ⟨b, 1, none⟩) (kk.ne_ HX9.out (by rcases ht with rfl | rfl | rfl <;> decide)) _)
              rw [List.map_set, ← HE1.out, HMk.out] at h
              exact h⟩, HTT.out.setCell (p := ⟨b, 1, none⟩) (fun _ => rfl) _, HE, mark_rise hX.out _, (fun q hq => by
                obtain ⟨r, hr, rfl⟩ := List.mem_map.1 hq
                have := hS.out r hr
                split <;> exact this), by unfold Hid; rw [mark_len]; exact hLen.out⟩
            case measure => simp [intOf]; omega
    · obtain rfl : k = L.length := by omega
      have HE := Lib.hid (show writeG x L = (0, y) from by rw [hW.out, List.drop_length]; rfl)
      go_wp2
      go_ret
      exact ⟨by rw [HE.out]; rfl, by rw [HE.out]; exact HGk.out, HT.out⟩
end Go.Proofs.Ytmkfaibjjbgbbaa
