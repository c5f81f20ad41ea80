/- Write of package scupperref14 once more: whatever holds of the values of the patches' slices still does. The reference's plan: Carry; Copy of the reference's graph. Copy of the reference's graph; the reference's Batches. same of package scupperlaw16; plan.Cost. -/
import Derived.Test.YtmkfaibjjbgbbaaRwrite
import Derived.Test.YtmkfaibjjbgbbaaWriteQ
import Derived.Test.YtmkfaibjjbgbbaaJt4
namespace Go.Proofs.Ytmkfaibjjbgbbaa
open Go.RowKit
set_option linter.unusedVariables false
attribute [local go_sem ↓] Go.wp_at_zero Go.wp_at_succ

def RLQ (Q : Value → Value → Prop) (w : World) (v : Value) (l : List Pt) : Prop :=
  ∃ L : List (Value × Value × Pt), l = L.map (·.2.2) ∧ (∀ e ∈ L, Arr w 5 e.1 (bytes e.2.2.data) ∧ Arr w 3 e.2.1 (ints e.2.2.needs)) ∧ (∀ e ∈ L, Q e.1 e.2.1) ∧
    ((v = .slice none 0 0 ∧ L = []) ∨ ∃ g c cs, v = .slice (some ⟨g, 0, none⟩) L.length c ∧ L.length ≤ c ∧ c ≤ maxLen ∧ Blk w g 30 cs ∧ ∀ (i : Nat) (u : Value), (ptCells L)[i]? = some u → cs[i]? = some u)
def RGQ (Q : Value → Value → Prop) (w : World) (b : Nat) (x : G) : Prop := ∃ v, Blk w b 91 #[.int .i64 x.last, v] ∧ RLQ Q w v x.l
section
variable {Q : Value → Value → Prop} {w w' : World} {v : Value} {l : List Pt} {b : Nat} {x : G}
theorem RLQ.rl (h : RLQ Q w v l) : RL w v l := by
  obtain ⟨L, e, h1, _, h2⟩ := h
  exact ⟨L, e, h1, h2⟩
theorem RGQ.rg (h : RGQ Q w b x) : RG w b x := by
  obtain ⟨v, h1, h2⟩ := h
  exact ⟨v, h1, h2.rl⟩
/-- Blocks of the list itself, and of the slices of the patches there. -/
theorem RLQ.move (h : RLQ Q w v l) (hb : ∀ g cs, Blk w g 30 cs → Blk w' g 30 cs) (ha : ∀ vd vn e xs, Q vd vn → (e = 5 ∨ e = 3) → ∀ u, (u = vd ∨ u = vn) → Arr w e u xs → Arr w' e u xs) : RLQ Q w' v l := by
  obtain ⟨L, e, h1, hq, h2⟩ := h
  refine ⟨L, e, fun p hp => ⟨ha p.1 p.2.1 5 _ (hq p hp) (.inl rfl) _ (.inl rfl) (h1 p hp).1, ha p.1 p.2.1 3 _ (hq p hp) (.inr rfl) _ (.inr rfl) (h1 p hp).2⟩, hq, ?_⟩
  rcases h2 with h2 | ⟨g, c, cs, h3, h4, h5, h6, h7⟩
  · exact .inl h2
  · exact .inr ⟨g, c, cs, h3, h4, h5, hb g cs h6, h7⟩
theorem RLQ.move0 (h : RLQ Q w v l) (hb : ∀ g t cs, (t = 3 ∨ t = 5 ∨ t = 30) → Blk w g t cs → Blk w' g t cs) : RLQ Q w' v l :=
  h.move (fun g cs k => hb g 30 cs (.inr (.inr rfl)) k) fun _ _ e xs _ he u _ k => k.move fun g cs kk => hb g e cs (by rcases he with rfl | rfl; exact .inr (.inl rfl); exact .inl rfl) kk
theorem RLQ.below (h : RLQ Q w v l) (hb : Below w.heap.size w w') : RLQ Q w' v l := h.move (fun g cs k => k.below hb k.lt) fun _ _ _ _ _ _ _ _ k => k.below hb
theorem RGQ.below (h : RGQ Q w b x) (hb : Below w.heap.size w w') : RGQ Q w' b x := by
  obtain ⟨v, h1, h2⟩ := h
  exact ⟨v, h1.below hb h1.lt, h2.below hb⟩
theorem RLQ.parts (h : RLQ Q w v l) : ∃ (L : List (Value × Value × Pt)) (A : Option Addr) (c : Nat), l = L.map (·.2.2) ∧ v = .slice A L.length c ∧ (A = none → c = 0 ∧ L.length = 0) ∧ (∀ ad, A = some ad → ∀ j u, (ptCells L)[j]? = some u → ad.block < w.heap.size ∧ w.cell? (ad.add j) = some u) ∧ (∀ u ∈ ptCells L, u.oneCell' = true) ∧
    (∀ e ∈ L, Arr w 5 e.1 (bytes e.2.2.data) ∧ Arr w 3 e.2.1 (ints e.2.2.needs)) ∧ ∀ e ∈ L, Q e.1 e.2.1 := by
  obtain ⟨L, e, h1, hq, h2⟩ := h
  have hone : ∀ u ∈ ptCells L, u.oneCell' = true := ptCells_one L fun e he => by
    obtain ⟨A, c, e1, -, -⟩ := (h1 e he).1.len
    obtain ⟨B, d, e2, -, -⟩ := (h1 e he).2.len
    exact ⟨A, _, c, B, _, d, e1, e2⟩
  rcases h2 with ⟨rfl, rfl⟩ | ⟨g, c, cs, h3, h4, h5, h6, h7⟩
  · exact ⟨[], none, 0, e, rfl, fun _ => ⟨rfl, rfl⟩, (fun ad h => by cases h), hone, h1, hq⟩
  · exact ⟨L, some ⟨g, 0, none⟩, c, e, h3, (fun h => by cases h), fun ad hA j u hu => by
      cases hA
      rw [add_at, Nat.zero_add]
      exact ⟨h6.lt, (h6.cell j).trans (h7 j u hu)⟩, hone, h1, hq⟩
theorem RLQ.of_own {B n : Nat} {L : List (Value × Value × Pt)} (h : w.ownsRow B 30 9 v n (ptCells L)) (hn : n = L.length) (hq : ∀ e ∈ L, Q e.1 e.2.1) (ha : ∀ e ∈ L, Arr w 5 e.1 (bytes e.2.2.data) ∧ Arr w 3 e.2.1 (ints e.2.2.needs)) : RLQ Q w v (L.map (·.2.2)) := by
  subst hn
  refine ⟨L, rfl, ha, hq, ?_⟩
  rcases h.2 with ⟨hv, h0⟩ | ⟨g, cap, cur, hv, _, hg, hnc, hcm, hcs, ht⟩
  · exact .inl ⟨hv, List.eq_nil_of_length_eq_zero h0⟩
  · refine .inr ⟨g, cap, cur, hv, hnc, hcm, hg, fun i u hu => ?_⟩
    rw [← ht, List.getElem?_take] at hu
    split at hu
    · simpa using hu
    · cases hu
theorem RG.low (h : RG w b x) : RGQ (LowQ w.heap.size) w b x := by
  obtain ⟨v, h1, L, e, h2, h3⟩ := h
  exact ⟨v, h1, L, e, h2, fun p hp => ⟨(h2 p hp).1.low, (h2 p hp).2.low⟩, h3⟩
theorem Arr.keepOwn' {w w' : World} {e : TypeId} {v : Value} {xs : List Value} (h : Arr w e v xs) (hk : ∀ j, v.ownBlock = some j → w'.heap[j]? = w.heap[j]?) : Arr w' e v xs := by
  rcases h with ⟨rfl, rfl⟩ | ⟨g, o, c, cs, rfl, h2, h3, h4, h5⟩
  · exact .nil _ _
  · exact .inr ⟨g, o, c, cs, rfl, h2, h3, (hk g rfl).trans h4, h5⟩
/-- Blocks from B on of ints may turn: the graph's own slices lie below. -/
theorem RGQ.high {B : Nat} {S : Nat → Prop} (h : RGQ (LowQ B) w b x) (hT : Turn S w w') (hS : ∀ j, S j → B ≤ j ∧ ∃ cs, Blk w j 3 cs) : RGQ (LowQ B) w' b x := by
  obtain ⟨v, h1, h2⟩ := h
  refine ⟨v, h1.turn hT (fun e => by obtain ⟨-, cs, h'⟩ := hS _ e; exact h1.ne_ h' (by decide) rfl), h2.move (fun g cs k => k.turn hT (fun e => by obtain ⟨-, cs', h'⟩ := hS _ e; exact k.ne_ h' (by decide) rfl)) fun vd vn e xs hq he u hu k => k.keepOwn' fun j hj => hT.block j (k.low j hj) (fun e => ?_)⟩
  have hB := (hS j e).1
  rcases hu with rfl | rfl
  · exact absurd (hq.1 j hj) (by omega)
  · exact absurd (hq.2 j hj) (by omega)
end

set_option maxHeartbeats 4000000 in
set_option maxRecDepth 100000 in
theorem rwriteQ_any (Q : Value → Value → Prop) (b : Nat) (x : G) (v : Value) (L : List Int) (w : World) (hG : RGQ Q w b x) (hx : Rise x.l) (hs : ∀ p ∈ x.l, p.small ∧ p.needs.length ≤ 1000) (hxl : x.l.length ≤ 1000) (hv : Arr w 3 v (ints L)) (hLl : L.length ≤ 1000) :
    Calls Try.prog 64 #[.pointer (some ⟨b, 0, none⟩), v] w fun e w' => e = .returned (.int .i64 (writeG x L).1) ∧ RGQ Q w' b (writeG x L).2 ∧ Turn (fun j => j = b) w w' := by
  obtain ⟨i0, hi0, hz0, hz1, hz2⟩ := info_parts info30
  have HG := Lib.hid hG
  have hat := hv
  obtain ⟨A, c, rfl, h1, h2⟩ := hv.len
  have HA := Lib.hid (show ∀ (k : Nat) (y : Int), L[k]? = some y → ∃ gb o cs, A = some ⟨gb, o, none⟩ ∧ Blk w gb 3 cs ∧ cs[o + k]? = some (.int .i64 y) from fun k y hy => by
    rcases hat with ⟨_, e⟩ | ⟨gb, o, c', cs, e1, _, _, hbk, hc⟩
    · have := ints_at hy; rw [e] at this; cases this
    · injection e1 with e1
      exact ⟨gb, o, cs, e1, hbk, hc k _ (ints_at hy)⟩)
  rw [ints_len] at h1 ⊢
  unfold maxLen at h2
  have HX := Lib.hid hx
  have HSm := Lib.hid hs
  clear hG hx hs hv hat
  go_enter Try.func64, Try.ntmps64
  go_wp2_with fail
  go_loopw [5] (fun i wr => ∃ (k : Nat) (y : G), k ≤ L.length ∧ i = .int .i64 k ∧ RGQ Q wr b y ∧ Turn (fun j => j = b) w wr ∧ Hid (writeG x L = writeG y (L.drop k)) ∧ Hid (Rise y.l) ∧ Hid (∀ p ∈ y.l, p.small ∧ p.needs.length ≤ 1000) ∧ Hid (y.l.length = x.l.length)) (fun i _ => L.length - (intOf i).toNat)
  case atStart => exact ⟨0, x, Nat.zero_le _, rfl, HG.out, Turn.refl _ _, by unfold Hid; rfl, HX, HSm, by unfold Hid; rfl⟩
  case round =>
    obtain ⟨k, y, hk, rfl, hg, hT, hW, hX, hS, hLen⟩ := hrel
    have HGk := Lib.hid hg
    have HT := Lib.hid hT
    have hsz := hT.size
    by_cases hlt : k < L.length
    · obtain ⟨id, hid⟩ : ∃ id, L[k]? = some id := ⟨_, List.getElem?_eq_getElem hlt⟩
      obtain ⟨gb, o, cs, rfl, hbk, hcs⟩ := HA.out k id hid
      have hc1 : wr.cell? ⟨gb, o + k, none⟩ = some (.int .i64 id) := by
        obtain ⟨_, hb0, _⟩ := HG.out
        exact ((hbk.turn hT (hbk.ne_ hb0 (by decide))).cell (o + k)).trans hcs
      have HON := Lib.hid (write_on (x := y) hid)
      have hyl : y.l.length ≤ 1000 := by have := hLen.out; omega
      have hFd := rfind_any b y id wr hg.rg
      rcases findI_ref y id with ⟨hf, hi⟩ | ⟨j, p, hf, hj, hpid, hi⟩
      · rw [hi] at hFd
        have HFd := Lib.hid hFd
        have HE := Lib.hid (show writeG x L = (5, y) from by rw [hW.out, HON.out, show wr1 y id = (5, y) from by unfold wr1; rw [hf]]; rfl)
        clear hg hT hbk hcs hf hi hid hFd
        go_wp2_with fail
        refine HFd.out.mono ?_
        rintro e w5 ⟨rfl, rfl⟩
        go_wp2
        go_ret
        exact ⟨by rw [HE.out]; rfl, by rw [HE.out]; exact HGk.out, HT.out⟩
      · rw [hi] at hFd
        have HFd := Lib.hid hFd
        subst hpid
        have hjl := idx_lt hj
        have HRd := Lib.hid (readies_any b y wr hg.rg hS.out hyl)
        have HBh := Lib.hid fun (W : World) (hW : Below wr.heap.size wr W) => rbehind_any b y j p W (hg.rg.below hW) hj (fun q hq => (hS.out q hq).1) hyl
        have HRe := Lib.hid (ready_ref hX.out hj)
        have HBe := Lib.hid (behind_ref hX.out hj)
        have HMk := Lib.hid (mark_ref hX.out hj)
        have HW1 := Lib.hid (show wr1 y p.id = if !(readyG y p.sec).contains p.id || behindB y p then (23, y) else (0, mark y p.id) from by unfold wr1; rw [hf])
        have HJ := Lib.hid hj
        have hbr := hg.rg.lt
        clear hg hT hbk hcs hf hi hid hFd hj
        cases hr : (readyG y p.sec).contains p.id with
        | false =>
          have HE := Lib.hid (show writeG x L = (23, y) from by rw [hW.out, HON.out, HW1.out, hr]; rfl)
          have HRe2 := Lib.hid (show (rdOuts y.l y.l.length)[j]? = some false from by rw [HRe.out, hr])
          clear hr
          go_wp2_with fail
          refine HFd.out.mono ?_
          rintro e w5 ⟨rfl, rfl⟩
          go_wp2_with fail
          refine HRd.out.mono ?_
          rintro e w6 ⟨o5, rfl, ho5, hb5⟩
          have hoc : w6.cell? ⟨o5, j, none⟩ = some (.bool false) := (World.ownsRow.cellAt ho5 j (by omega)).trans (by rw [List.getElem?_map, HRe2.out]; rfl)
          have HB5 := Lib.hid hb5
          clear ho5 hb5
          go_wp2
          go_ret
          exact ⟨by rw [HE.out]; rfl, by rw [HE.out]; exact HGk.out.below HB5.out, HT.out.trans (Turn.of_below (S := fun _ => False) HB5.out) (fun _ _ e => e.elim)⟩
        | true =>
          have HRe2 := Lib.hid (show (rdOuts y.l y.l.length)[j]? = some true from by rw [HRe.out, hr])
          cases hbh : behindB y p with
          | true =>
            have HE := Lib.hid (show writeG x L = (23, y) from by rw [hW.out, HON.out, HW1.out, hr, hbh]; rfl)
            rw [HBe.out, hbh] at HBh
            clear hr hbh
            go_wp2_with fail
            refine HFd.out.mono ?_
            rintro e w5 ⟨rfl, rfl⟩
            go_wp2_with fail
            refine HRd.out.mono ?_
            rintro e w6 ⟨o5, rfl, ho5, hb5⟩
            have hoc : w6.cell? ⟨o5, j, none⟩ = some (.bool true) := (World.ownsRow.cellAt ho5 j (by omega)).trans (by rw [List.getElem?_map, HRe2.out]; rfl)
            have HB5 := Lib.hid hb5
            clear ho5 hb5
            go_wp2_with fail
            refine (HBh.out _ (by exact HB5.out)).mono ?_
            rintro e w7 ⟨rfl, hb7⟩
            have HB7 := Lib.hid (HB5.out.trans (hb7.mono HB5.out.size))
            clear hb7
            go_wp2
            go_ret
            exact ⟨by rw [HE.out]; rfl, by rw [HE.out]; exact HGk.out.below HB7.out, HT.out.trans (Turn.of_below (S := fun _ => False) HB7.out) (fun _ _ e => e.elim)⟩
          | false =>
            have HE := Lib.hid (show writeG x L = writeG (mark y p.id) (L.drop (k + 1)) from by rw [hW.out, HON.out, HW1.out, hr, hbh]; rfl)
            rw [HBe.out, hbh] at HBh
            clear hr hbh
            go_wp2_with fail
            refine HFd.out.mono ?_
            rintro e w5 ⟨rfl, rfl⟩
            go_wp2_with fail
            refine HRd.out.mono ?_
            rintro e w6 ⟨o5, rfl, ho5, hb5⟩
            have hoc : w6.cell? ⟨o5, j, none⟩ = some (.bool true) := (World.ownsRow.cellAt ho5 j (by omega)).trans (by rw [List.getElem?_map, HRe2.out]; rfl)
            have HB5 := Lib.hid hb5
            clear ho5 hb5
            go_wp2_with fail
            refine (HBh.out _ (by exact HB5.out)).mono ?_
            rintro e w7 ⟨rfl, hb7⟩
            have HB7 := Lib.hid (HB5.out.trans (hb7.mono HB5.out.size))
            have hs7 := HB7.out.size
            clear hb7 hoc
            obtain ⟨lv, hX7, hl7⟩ := HGk.out.below HB7.out
            obtain ⟨Lc, A', c', e1, rfl, hAn, hAs, hone, harr, hqq⟩ := hl7.parts
            have HQq := Lib.hid hqq
            clear hqq
            have hLb : Lc.length ≤ 1000 := by rw [e1, List.length_map] at hyl; exact hyl
            obtain ⟨e, hLj, rfl⟩ : ∃ e, Lc[j]? = some e ∧ e.2.2 = p := by
              have h := HJ.out
              rw [e1, List.getElem?_map] at h
              cases hq : Lc[j]? with
              | none => rw [hq] at h; cases h
              | some e => rw [hq] at h; exact ⟨e, rfl, by simpa using h⟩
            have hjL : j < Lc.length := by
              rcases Nat.lt_or_ge j Lc.length with h | h
              · exact h
              · rw [List.getElem?_eq_none h] at hLj; cases hLj
            have HLj := Lib.hid hLj
            have x1 := ((hX7.alloc (.cells #[] 30)).cell 1)
            simp at x1
            have HX7 := Lib.hid hX7
            have HL7 := Lib.hid hl7
            have HAr := Lib.hid harr
            have HE1 := Lib.hid e1
            have HAs := Lib.hid (show ∀ ad, A' = some ad → ∀ (j : Nat) (u : Value), (ptCells Lc)[j]? = some u → (w7.alloc (.cells #[] 30)).cell? (ad.add j) = some u from fun ad h j u hu => by
              obtain ⟨h1, h2⟩ := hAs ad h j u hu
              exact (World.cell?_of_block (a := ad.add j) (Below.heap_alloc w7 _ _ (show (ad.add j).block < _ from by unfold Addr.add; split <;> exact h1))).trans h2)
            clear hX7 hl7 harr e1 hAs hc1
            go_wp2_with (at_builtin; refine wpList_append_row rfl (.tmp 33) (.tmp 37) 50 rfl w7.heap.size 30 i0 _ 9 104 Try.underlying50 hi0 hz0 hz1 hz2 rfl (by decide) _ 0 [] rfl (World.ownsRow_made w7 #[] 0 (Nat.le_refl _) (Nat.zero_le _) rfl) A' Lc.length c' (ptCells Lc) rfl ?c0 hAn HAs.out hone ?c3 ?c4 ?c5 ?_)
            case c0 => exact ptCells_len _
            case c3 => simp only [maxLen]; omega
            case c4 => omega
            case c5 => simp
            intro r8 w8 hr8 hg8 _
            have hr8' : w8.ownsRow w7.heap.size 30 9 r8 Lc.length (ptCells Lc) := by simpa using hr8
            obtain ⟨g8, c8, rfl, hg8a, hg8b⟩ := World.ownsRow.form hr8' (by omega)
            have hs8 := hg8.size
            simp at hs8
            have hb8 : Below w7.heap.size w7 w8 := ⟨hg8.os, hg8.tape, hg8.output, by omega, fun i hi => (hg8.block i (by simp; omega) (fun e => by have e' : i = w7.heap.size := Option.some.inj e; omega)).trans (Below.heap_alloc w7 _ i hi)⟩
            have hcl := ptCells_len Lc
            have hcell : ∃ u, w8.cell? ⟨g8, j * 9 + 8, none⟩ = some u := by
              rw [World.ownsRow.cellAt hr8' (j * 9 + 8) (by omega)]
              exact ⟨_, List.getElem?_eq_getElem (by omega)⟩
            obtain ⟨u8, hcell⟩ := hcell
            have hfr := World.ownsRow.frozenAt hr8' (j * 9 + 8)
            obtain ⟨hst, hgr⟩ := World.ownsRow.stored hr8' (j * 9 + 8) (.bool true)
            rw [ptCells_set Lc j e HLj.out] at hst
            have HB8 := Lib.hid hb8
            have HST := Lib.hid hst
            have hX8 := (HX7.out.below hb8 HX7.out.lt)
            have hbne : b ≠ g8 := by have := HX7.out.lt; omega
            have hX9 := hX8.far (p := ⟨g8, j * 9 + 8, none⟩) hbne (.bool true)
            have HX9 := Lib.hid hX9
            have x91 := hX9.cell 1
            have f91 := hX9.frozen 1
            simp at x91
            have HR9 := Lib.hid (RLQ.of_own (Q := Q) (L := Lc.set j (e.1, e.2.1, e.2.2.done)) hst (by rw [List.length_set]) (fun q hq => by
              rcases List.mem_or_eq_of_mem_set hq with h | h
              · exact HQq.out q h
              · subst h; exact HQq.out e (List.mem_of_getElem? HLj.out)) (fun q hq => by
              have hB9 : Below w7.heap.size w7 (w8.setCell ⟨g8, j * 9 + 8, none⟩ (.bool true)) := hb8.setCell (p := ⟨g8, j * 9 + 8, none⟩) (by omega) _
              rcases List.mem_or_eq_of_mem_set hq with h | h
              · exact ⟨(HAr.out q h).1.below hB9, (HAr.out q h).2.below hB9⟩
              · subst h
                have := HAr.out e (List.mem_of_getElem? HLj.out)
                exact ⟨this.1.below hB9, this.2.below hB9⟩))
            have hTT : Turn (fun i => i = b) w (w8.setCell ⟨g8, j * 9 + 8, none⟩ (.bool true)) := (HT.out.trans (Turn.of_below (S := fun _ => False) HB7.out) (fun _ _ e => e.elim)).trans (Turn.of_below (S := fun _ => False) (hb8.setCell (p := ⟨g8, j * 9 + 8, none⟩) (by omega) (.bool true))) (fun _ _ e => e.elim)
            have HTT := Lib.hid hTT
            have hj0 : (0 : Int) ≤ (j : Int) := by omega
            have hj1 : (j : Int) < (Lc.length : Int) := by omega
            clear hr8 hr8' hg8 hb8 hst hgr hX8 hX9 hTT hAn hone x1
            go_wp2
            go_roundw
            case rel => exact ⟨k + 1, mark y e.2.2.id, by omega, by go_num, ⟨_, HX9.out.set_ 1 _, by
              have h := HR9.out.move0 (w' := (w8.setCell ⟨g8, j * 9 + 8, none⟩ (.bool true)).setCell ⟨b, 1, none⟩ (.slice (some ⟨g8, 0, none⟩) Lc.length c8)) (fun g t cs ht kk => kk.far (p := ⟨b, 1, none⟩) (kk.ne_ HX9.out (by rcases ht with rfl | rfl | rfl <;> decide)) _)
              rw [List.map_set, ← HE1.out, HMk.out] at h
              exact h⟩, HTT.out.setCell (p := ⟨b, 1, none⟩) (fun _ => rfl) _, HE, mark_rise hX.out _, (fun q hq => by
                obtain ⟨r, hr, rfl⟩ := List.mem_map.1 hq
                have := hS.out r hr
                split <;> exact this), by unfold Hid; rw [mark_len]; exact hLen.out⟩
            case measure => simp [intOf]; omega
    · obtain rfl : k = L.length := by omega
      have HE := Lib.hid (show writeG x L = (0, y) from by rw [hW.out, List.drop_length]; rfl)
      go_wp2
      go_ret
      exact ⟨by rw [HE.out]; rfl, by rw [HE.out]; exact HGk.out, HT.out⟩
end Go.Proofs.Ytmkfaibjjbgbbaa
namespace Go.Proofs.Ytmkfaibjjbgbbaa
open Go.RowKit
set_option linter.unusedVariables false
attribute [local go_sem ↓] Go.wp_at_zero Go.wp_at_succ

theorem built_type {B : Nat} {w : World} {v : Value} {l : List Int} (h : Built B w v l) : ∀ j, v.ownBlock = some j → B ≤ j ∧ ∃ cs, Blk w j 3 cs := by
  intro j hj
  refine ⟨(h.own j hj).1, ?_⟩
  rcases h.2 with ⟨hv, h0⟩ | ⟨g, cap, cur, hv, hb, hg, _⟩
  · rw [hv] at hj; cases hj
  · rw [hv] at hj
    obtain rfl : g = j := Option.some.inj hj
    exact ⟨cur, hg⟩
theorem turn_row {w w' : World} {v : Value} (h : w.grownBy w' v.ownBlock) : Turn (fun j => v.ownBlock = some j) w w' := ⟨h.os, h.tape, h.output, h.size, fun i hi hn => h.block i hi (fun e => hn e.symm)⟩
theorem RGQ.blk {Q : Value → Value → Prop} {w : World} {b : Nat} {x : G} (h : RGQ Q w b x) : ∃ cs, Blk w b 91 cs := by obtain ⟨v, h1, -⟩ := h; exact ⟨_, h1⟩
theorem RG.blk {w : World} {b : Nat} {x : G} (h : RG w b x) : ∃ cs, Blk w b 91 cs := by obtain ⟨v, h1, -⟩ := h; exact ⟨_, h1⟩

set_option maxHeartbeats 8000000 in
set_option maxRecDepth 100000 in
theorem rcarry_any (b : Nat) (x : G) (sv : Value) (S : List Int) (fb : Bool) (w : World) (h : RG w b x) (hF : Fine x) (hv : Arr w 3 sv (ints S)) :
    Calls Try.prog 44 #[.pointer (some ⟨b, 0, none⟩), batV sv fb] w fun e w' => ∃ r, e = .returned r ∧ Arr w' 3 r (ints (carryW x S).1) ∧ RG w' b (carryG x S) ∧ Turn (fun j => j = b) w w' := by
  obtain ⟨i0, hi0, hz0, hz1, hz2⟩ := info_parts info3
  have HFn := Lib.hid hF
  have hxl := hF.len
  have hbl := h.lt
  obtain ⟨A, c, rfl, hs1, hs2, -⟩ := hv.ints_at
  have HSv := Lib.hid hv.at
  unfold maxLen at hs2
  obtain ⟨w1, hw1⟩ : ∃ w1, w1 = w.alloc (.cells #[.slice A S.length c, .bool fb] 66) := ⟨_, rfl⟩
  have hb1 : Below w.heap.size w w1 := by rw [hw1]; exact (Below.refl _ _).alloc (Nat.le_refl _) _
  have HX1 := Lib.hid (show Blk w1 w.heap.size 66 #[.slice A S.length c, .bool fb] from by rw [hw1]; exact Blk.new _ _ _)
  have HR1 := Lib.hid (h.below hb1)
  have HQ1 := Lib.hid (h.below hb1).low
  have HB1 := Lib.hid hb1
  have HSt := Lib.hid (settle_all_eq)
  have hwl : w.heap.size < w1.heap.size := HX1.out.lt
  have hbne : ¬ w.heap.size = b := by omega
  clear h hF hv hb1
  unfold batV
  go_enter Try.func44, Try.ntmps44
  go_wp2_with fail
  rw [← hw1]
  have HSz := Lib.hid (show w1.heap.size = w.heap.size + 1 from by rw [hw1]; simp)
  rw [← HSz.out]
  clear hw1
  go_loopw [5, 6] (fun v i wr => ∃ (k : Nat) (y : G) (L : List Int), k ≤ S.length ∧ i = .int .i64 k ∧ Hid (Run x y L ∧ (carryW x S).1 = L ++ (carryW y (S.drop k)).1 ∧ (carryW x S).2 = (carryW y (S.drop k)).2) ∧ Built w1.heap.size wr v L ∧ RGQ (LowQ w1.heap.size) wr b y ∧ Turn (fun j => j = b) w1 wr) (fun _ i _ => S.length - (intOf i).toNat)
  case atStart => exact ⟨0, x, [], Nat.zero_le _, rfl, ⟨Run.start HFn.out.rise, rfl, rfl⟩, World.ownsRow_made w1 #[] 0 (Nat.le_refl _) (Nat.zero_le _) rfl, HQ1.out.below ((Below.refl _ _).alloc (Nat.le_refl _) _), (Turn.refl _ _).alloc _⟩
  case round =>
    obtain ⟨k, y, L, hk, rfl, hR, hO, hG, hT⟩ := hrel
    have HO := Lib.hid hO
    have HG := Lib.hid hG
    have HT := Lib.hid hT
    have hszT := hT.size
    have hX := HX1.out.turn hT hbne
    have hc0 := hX.cell 0
    simp at hc0
    have hLb := hR.out.1.bnd
    have HFy := Lib.hid (HFn.out.like hR.out.1.rise hR.out.1.same)
    by_cases hlt : k < S.length
    · obtain ⟨s, hs⟩ : ∃ s, S[k]? = some s := ⟨_, List.getElem?_eq_getElem hlt⟩
      obtain ⟨gb, o, cs, rfl, hbk, hcs⟩ := HSv.out k s hs
      obtain ⟨cb, hcb⟩ := HR1.out.blk
      have hc1 : wr.cell? ⟨gb, o + k, none⟩ = some (.int .i64 s) := (((hbk.below HB1.out hbk.lt).turn hT (fun e => (hbk.below HB1.out hbk.lt).ne_ hcb (by decide) e)).cell (o + k)).trans hcs
      have HST := Lib.hid (hR.out.1.step s)
      have hstb := (hR.out.1.step s).bnd
      rw [List.length_append] at hstb
      have hrl := readyG_len' y s
      have hyl := HFy.out.len
      have HC := Lib.hid (show (carryW x S).1 = (L ++ readyG y s) ++ (carryW (writeG y (readyG y s)).2 (S.drop (k + 1))).1 ∧ (carryW x S).2 = (carryW (writeG y (readyG y s)).2 (S.drop (k + 1))).2 from by
        rw [hR.out.2.1, hR.out.2.2, carry_on y hs, List.append_assoc]
        exact ⟨rfl, rfl⟩)
      have HRd := Lib.hid (rready_any b y s wr hG.rg HFy.out)
      have HWr := Lib.hid fun (W : World) (v : Value) (h : RGQ (LowQ w1.heap.size) W b y) (hv : Arr W 3 v (ints (readyG y s))) => rwriteQ_any (LowQ w1.heap.size) b y v (readyG y s) W h HFy.out.rise (fun p hp => ⟨(HFy.out.all p hp).1.1, (HFy.out.all p hp).2.2.2⟩) hyl hv (by omega)
      clear hO hG hT hX hs hbk hcs hcb
      generalize (writeG y (readyG y s)).2 = y2 at *
      generalize (writeG y (readyG y s)).1 = er at *
      generalize readyG y s = R at *
      go_wp2_with fail
      refine HRd.out.mono ?_
      rintro e w5 ⟨r, rfl, hr, hb⟩
      have HA5 := Lib.hid hr.arr
      have HG5 := Lib.hid (HG.out.below hb)
      have HO5 := Lib.hid (Built.below HO.out hb)
      have HT5 := Lib.hid (HT.out.trans (Turn.of_below (S := fun _ => False) hb) (fun i hi e => e.elim))
      clear hr hb HRd HG HO HT hc0 hc1
      go_wp2_with fail
      refine (HWr.out _ _ HG5.out HA5.out).mono ?_
      rintro e w6 ⟨rfl, hg6, ht6⟩
      obtain ⟨cb5, hcb5⟩ := HG5.out.blk
      have HG6 := Lib.hid hg6
      have HA6 := Lib.hid (Blk.arrs HA5.out ht6 (fun j e => by rw [e]; exact ⟨_, hcb5⟩) (by decide))
      have HO6 := Lib.hid (HO5.out.turnB ht6 hcb5 (by decide))
      have HT6 := Lib.hid (HT5.out.trans ht6 (fun i hi e => e))
      obtain ⟨A6, c6, e6, hA1, hA2, -, -⟩ := (Row.of_arr HA6.out).parts
      subst e6
      have HA1 := Lib.hid hA1
      have HA2 := Lib.hid hA2
      have hs6 := HT6.out.size
      rw [ints_len] at HA1 HA6 ⊢
      clear hg6 ht6 hcb5 HG5 HA5 HO5 HT5 HWr hA1 hA2
      go_wp2_with (at_builtin; refine wpList_append_row rfl (.tmp 26) (.tmp 27) 28 rfl w1.heap.size 3 i0 (.int .i64 0) 1 8 Try.underlying28 hi0 hz0 hz1 hz2 rfl (by decide) _ L.length (ints L) rfl HO6.out A6 R.length c6 (ints R) rfl ?c0 HA1.out HA2.out ints_one ?c3 ?c4 ?c5 ?_)
      case c0 => rw [ints_len]; omega
      case c3 => simp only [maxLen]; omega
      case c4 => omega
      case c5 => omega
      intro v' w7 hown7 hg7 _
      have HO7 := Lib.hid (show Built w1.heap.size w7 v' (L ++ R) from by
        unfold Built ints
        rw [List.map_append, List.length_append]
        exact hown7)
      have HG7 := Lib.hid (HG6.out.high (turn_row hg7) (fun j e => built_type HO6.out j e))
      have HT7 := Lib.hid (HT6.out.grown hg7 (fun j hj hl => by have := (HO6.out.own j hj).1; omega))
      clear hown7 hg7
      go_wp2
      go_roundw
      case rel => exact ⟨k + 1, y2, L ++ R, by omega, by go_num, ⟨HST.out, HC.out.1, HC.out.2⟩, HO7.out, HG7.out, HT7.out⟩
      case measure => simp [intOf]; omega
    · obtain rfl : k = S.length := by omega
      have HC := Lib.hid (show (carryW x S).1 = L ∧ carryG x S = settleG y (setQ (-1)) from by
        refine ⟨by rw [hR.out.2.1, List.drop_length]; exact List.append_nil L, ?_⟩
        rw [settle_all_eq]
        unfold carryG
        rw [hR.out.2.2, List.drop_length]
        rfl)
      have HSA := Lib.hid (rsettleAll_any b y wr hG.rg HFy.out.len)
      obtain ⟨cb, hcb⟩ := hG.blk
      have HCb := Lib.hid hcb
      clear hO hG hT hX hR hcb
      generalize settleG y (setQ (-1)) = z at *
      go_wp2_with fail
      refine HSA.out.mono ?_
      rintro e w6 ⟨rfl, hr6, ht6⟩
      have HA6 := Lib.hid (Blk.arrs HO.out.arr ht6 (fun j e => by rw [e]; exact ⟨_, HCb.out⟩) (by decide))
      have HR6 := Lib.hid hr6
      have HT6 := Lib.hid ((((Turn.of_below (S := fun j => j = b) HB1.out).trans HT.out (fun i hi e => e)).trans ht6 (fun i hi e => e)))
      clear hr6 ht6 HSA
      go_wp2
      go_ret
      exact ⟨_, rfl, by rw [HC.out.1]; exact HA6.out, by rw [HC.out.2]; exact HR6.out, HT6.out⟩
end Go.Proofs.Ytmkfaibjjbgbbaa
namespace Go.Proofs.Ytmkfaibjjbgbbaa
open Go.RowKit
set_option linter.unusedVariables false
attribute [local go_sem ↓] Go.wp_at_zero Go.wp_at_succ

set_option maxHeartbeats 4000000 in
set_option maxRecDepth 100000 in
theorem rcopy_any (b : Nat) (x : G) (w : World) (h : RG w b x) (hxl : x.l.length ≤ 1000) :
    Calls Try.prog 83 #[.pointer (some ⟨b, 0, none⟩)] w fun e w' => ∃ b', e = .returned (.pointer (some ⟨b', 0, none⟩)) ∧ RG w' b' x ∧ Below w.heap.size w w' ∧ w.heap.size ≤ b' := by
  obtain ⟨i0, hi0, hz0, hz1, hz2⟩ := info_parts info30
  have hbl := h.lt
  obtain ⟨v, hb, hl⟩ := h
  obtain ⟨L, A, c, e1, rfl, hAn, hAs, hone, harr⟩ := hl.parts
  have hLb : L.length ≤ 1000 := by rw [e1, List.length_map] at hxl; exact hxl
  have HAn := Lib.hid hAn
  have HAs := Lib.hid hAs
  have HOne := Lib.hid hone
  have HArr := Lib.hid harr
  have HE := Lib.hid e1
  have hcl := Lib.hid (ptCells_len L)
  have c0 := hb.cell 0
  have c1 := hb.cell 1
  simp at c0 c1
  have HB := Lib.hid hb
  have HS := Lib.hid fun (W : World) (hW : Below w.heap.size w W) => show W.cell? ⟨b, 0, none⟩ = some (.int .i64 x.last) ∧ W.cell? ⟨b, 1, none⟩ = some (.slice A L.length c) from ⟨(hb.below hW hbl).cell 0, (hb.below hW hbl).cell 1⟩
  have hd0 : Below w.heap.size w w.drew := (Below.refl _ _).drew
  clear hb hl hAn hAs hone harr e1 hxl
  go_enter Try.func83, Try.ntmps83
  go_wp2_with fail
  go_region_held3 (fun W => W.cell? ⟨b, 0, none⟩ = some (.int .i64 x.last) ∧ W.cell? ⟨b, 1, none⟩ = some (.slice A L.length c))
    (first | exact HS.out _ (hbe.alloc hbe.size _) | exact HS.out _ hbe | exact HS.out _ (hd0.alloc hd0.size _) | exact HS.out _ hd0)
    (first | (refine step_append_some rfl (.tmp 7) (.tmp 11) 50 rfl w.heap.size 30 i0 _ 9 104 Try.underlying50 hi0 hz0 hz1 hz2 (by rfl) (by decide) w.heap.size 0 0 [] (by rfl) (World.ownsRow_made w.drew #[] 0 (Nat.le_refl _) (Nat.zero_le _) rfl) A L.length c (ptCells L) (by rfl) hcl.out HAn.out (fun ad hA j u hu => ((hd0.alloc hd0.size _).cell (p := ad.add j) (by rw [add_block]; exact (HAs.out ad hA j u hu).1)).trans (HAs.out ad hA j u hu).2) HOne.out L.length (by omega) (by simp only [maxLen]; omega) (by omega) (by simp; try omega) ?_
              intro g1 cap1 wa hown1 hgrow1 hat1 hlt1
              rw [List.nil_append] at hown1
              have hbe : Below w.heap.size w wa := (hd0.alloc hd0.size _).grown hgrow1 (by simp) (fun j hj => by have e := Option.some.inj hj; omega)))
  have hO := hown1
  have HRG := Lib.hid (show RG (wa.alloc (.cells #[.int .i64 x.last, .slice (some ⟨g1, 0, none⟩) L.length cap1] 91)) wa.heap.size x from ⟨.slice (some ⟨g1, 0, none⟩) L.length cap1, Blk.new _ _ _, by
    rw [HE.out]
    exact (RL.of_own (B := w.heap.size) hO rfl (fun e he => ⟨(HArr.out e he).1.below hbe, (HArr.out e he).2.below hbe⟩)).below ((Below.refl _ _).alloc (Nat.le_refl _) _)⟩)
  have HBe := Lib.hid (hbe.alloc hbe.size (.cells #[.int .i64 x.last, .slice (some ⟨g1, 0, none⟩) L.length cap1] 91))
  have hsz := hbe.size
  clear hown1 hgrow1 hat1 hbe hO
  go_wp2
  go_ret
  exact ⟨_, rfl, HRG.out, HBe.out, hsz⟩

theorem info66 : (Try.prog.info? 66).map (fun i => (i.zero, i.size, i.bytes)) = some (some (.agg #[.slice none 0 0, .bool false]), 2, 32) := by kernel_rfl
/-- A list of the reference's batches of the call's own. -/
def BatsR (B : Nat) (w : World) (v : Value) (bs : List (List Int × Bool)) : Prop :=
  ∃ L : List (Value × List Int × Bool), bs = L.map (·.2) ∧ w.ownsRow B 66 2 v L.length (batCells L) ∧ ∀ b ∈ L, Arr w 3 b.1 (ints b.2.1)
theorem BatsR.below {B : Nat} {w w' : World} {v : Value} {bs : List (List Int × Bool)} (h : BatsR B w v bs) (hb : Below w.heap.size w w') : BatsR B w' v bs := by
  obtain ⟨L, e, h1, h2⟩ := h
  exact ⟨L, e, owns_keep h1 fun g hg => hb.block g (World.ownsRow.lt h1 g hg).2, fun b hb' => (h2 b hb').below hb⟩
theorem own_type66 {B n : Nat} {w : World} {v : Value} {xs : List Value} (h : w.ownsRow B 66 2 v n xs) : ∀ j, v.ownBlock = some j → ∃ cs, Blk w j 66 cs := by
  intro j hj
  rcases h.2 with ⟨hv, _⟩ | ⟨g', cap, cur, hv, _, hg', _⟩
  · rw [hv] at hj; cases hj
  · rw [hv] at hj
    injection hj with hj
    subst hj
    exact ⟨cur, hg'⟩
theorem BatsR.turn91 {B : Nat} {w w' : World} {v : Value} {bs : List (List Int × Bool)} {c : Nat} {cs : Array Value} (h : BatsR B w v bs) (hT : Turn (fun j => j = c) w w') (hc : Blk w c 91 cs) : BatsR B w' v bs := by
  obtain ⟨L, e, h1, h2⟩ := h
  refine ⟨L, e, owns_keep h1 fun g hg => hT.block g (World.ownsRow.lt h1 g hg).2 fun e => ?_, fun b hb' => Blk.arrs (h2 b hb') hT (fun j e => by rw [e]; exact ⟨_, hc⟩) (by decide)⟩
  obtain ⟨cs', h'⟩ := own_type66 h1 g hg
  exact h'.ne_ hc (by decide) e
theorem RG.typed66 {w w' : World} {b : Nat} {x : G} {S : Nat → Prop} (h : RG w b x) (hT : Turn S w w') (hS : ∀ j, S j → ∃ cs, Blk w j 66 cs) : RG w' b x :=
  h.turn hT fun j t cs' e hb => by
    obtain ⟨cs, hr⟩ := hS j e
    have : t = 66 := by
      by_cases ht : t = 66
      · exact ht
      · exact absurd rfl (hb.ne_ hr ht)
    subst this
    exact ⟨by decide, by decide, by decide, by decide⟩

set_option maxHeartbeats 8000000 in
set_option maxRecDepth 100000 in
theorem rbatches_any (b : Nat) (x : G) (v : Value) (ids : List Int) (w : World) (h : RG w b x) (hF : Fine x) (hl : x.l.length ≤ 100) (hcnt : (x.l.length : Int) ≤ x.last) (hlast : x.last ≤ 1000000) (hv : Row w v (ints ids)) :
    Calls Try.prog 41 #[.pointer (some ⟨b, 0, none⟩), v] w fun e w' => ∃ r, e = .returned r ∧ BatsR w.heap.size w' r (batchesG x ids) ∧ Below w.heap.size w w' := by
  obtain ⟨i0, hi0, hz0, hz1, hz2⟩ := info_parts info66
  have HFn := Lib.hid hF
  have HV := Lib.hid hv
  have HR0 := Lib.hid h
  have hbl := h.lt
  have HC := Lib.hid (rcopy_any b x w h (by omega))
  have HBt := Lib.hid (show batchesG x ids = batchesF ids (x.l.length + 1) x from rfl)
  clear h hF hv
  go_enter Try.func41, Try.ntmps41
  go_wp2_with fail
  refine HC.out.mono ?_
  rintro e w1 ⟨c, rfl, hR1, hb1, hcn⟩
  have HR1 := Lib.hid hR1
  have HB1 := Lib.hid hb1
  have hs1 := hb1.size
  clear hR1 hb1 HC
  go_wp2_with fail
  go_loopw [6, 7] (fun v i wr => ∃ (k : Nat) (y : G) (bs : List (List Int × Bool)), i = .int .i64 k ∧ Hid (Fine y ∧ batchesG x ids = bs ++ batchesF ids (y.l.length + 1) y ∧ bs.length = k) ∧ k + y.l.length ≤ x.l.length ∧ RG wr c y ∧ BatsR w.heap.size wr v bs ∧ Below w.heap.size w wr) (fun _ i _ => (x.last + 1 - intOf i).toNat)
  case atStart => exact ⟨0, x, [], rfl, ⟨HFn.out, HBt.out, rfl⟩, by omega, HR1.out.below ((Below.refl _ _).alloc (Nat.le_refl _) _), ⟨[], rfl, World.ownsRow_made w1 #[] 0 hs1 (Nat.zero_le _) rfl, fun b h => by cases h⟩, HB1.out.alloc HB1.out.size _⟩
  case round =>
    obtain ⟨k, y, bs, rfl, hFy, hky, hG, hB, hbel⟩ := hrel
    have HG := Lib.hid hG
    have HB := Lib.hid hB
    have HBw := Lib.hid hbel
    have hsz := hbel.size
    have c0 : wr.cell? ⟨b, 0, none⟩ = some (.int .i64 x.last) := by
      obtain ⟨lv, h1, -⟩ := HR0.out.below hbel
      exact h1.cell 0
    have hle : (k : Int) ≤ x.last := by omega
    have HN := Lib.hid (rnext_any c y v ids wr hG hFy.out.1 (HV.out.below hbel))
    clear hG hB hbel
    cases hp : planNext y ids with
    | none =>
      have HE := Lib.hid (show batchesG x ids = bs from by rw [hFy.out.2.1, batches_off hp, List.append_nil])
      rw [hp] at HN
      simp only [Option.map_none, Option.getD_none, Option.isSome_none] at HN
      clear hp
      go_wp2_with fail
      refine HN.out.mono ?_
      rintro e w3 ⟨sv, rfl, hsv, hb3⟩
      obtain ⟨A3, c3, rfl, -, -⟩ := hsv.len
      have HB3 := Lib.hid (HB.out.below hb3)
      have HW3 := Lib.hid (HBw.out.trans (hb3.mono hsz))
      clear hsv hb3
      unfold batV
      go_wp2
      go_ret
      exact ⟨_, rfl, by rw [HE.out]; exact HB3.out.below ((Below.refl _ _).alloc (Nat.le_refl _) _), HW3.out.alloc HW3.out.size _⟩
    | some bb =>
      have hless := next_less hFy.out.1 hp
      have HE := Lib.hid (show batchesG x ids = (bs ++ [bb]) ++ batchesF ids ((carryG y bb.1).l.length + 1) (carryG y bb.1) from by rw [hFy.out.2.1, batches_on hFy.out.1 hp _ (Nat.le_refl _), List.append_assoc]; rfl)
      have HFc := Lib.hid (hFy.out.1.carry bb.1)
      have HLk := Lib.hid hFy.out.2.2
      rw [hp] at HN
      simp only [Option.map_some, Option.getD_some, Option.isSome_some] at HN
      clear hp
      obtain ⟨S, fb⟩ := bb
      simp only at HN HE HFc hless
      go_wp2_with fail
      refine HN.out.mono ?_
      rintro e w3 ⟨sv, rfl, hsv, hb3⟩
      have HS3 := Lib.hid hsv
      obtain ⟨A3, c3, rfl, h31, h32⟩ := hsv.len
      rw [ints_len] at HS3 ⊢
      have HG3 := Lib.hid (HG.out.below hb3)
      have HB3 := Lib.hid (HB.out.below hb3)
      have HW3 := Lib.hid (HBw.out.trans (hb3.mono hsz))
      clear hsv hb3 HG HB HBw HN c0
      unfold batV
      go_upto_region 9 with (fail)
      obtain ⟨w4, hw4⟩ : ∃ w4, w4 = w3.alloc (.cells #[.slice A3 S.length c3, .bool fb] 66) := ⟨_, rfl⟩
      rw [← hw4]
      have hb4 : Below w3.heap.size w3 w4 := by rw [hw4]; exact (Below.refl _ _).alloc (Nat.le_refl _) _
      have HX4 := Lib.hid (show Blk w4 w3.heap.size 66 #[.slice A3 S.length c3, .bool fb] from by rw [hw4]; exact Blk.new _ _ _)
      have HG4 := Lib.hid (HG3.out.below hb4)
      have HB4 := Lib.hid (HB3.out.below hb4)
      have HW4 := Lib.hid (HW3.out.trans (hb4.mono HW3.out.size))
      have HS4 := Lib.hid (HS3.out.below hb4)
      obtain ⟨b8, hb8⟩ : ∃ b8, b8 = w3.heap.size := ⟨_, rfl⟩
      rw [← hb8] at HX4 ⊢
      obtain ⟨L, hL, hown, hLa⟩ := HB4.out
      have HO3b := Lib.hid (show ∀ j, u6.ownBlock = some j → j < b8 from fun j hj => by
        obtain ⟨L', _, h', _⟩ := HB3.out
        rw [hb8]
        exact (World.ownsRow.lt h' j hj).2)
      have HLa := Lib.hid hLa
      have hLl : L.length = bs.length := by rw [hL, List.length_map]
      have HL := Lib.hid hL
      have HO4 := Lib.hid hown
      have hbl4 : b8 < w4.heap.size := HX4.out.lt
      have hk2 : bs.length ≤ 100 := by have := HLk.out; omega
      have x0 := HX4.out.cell 0
      have x1 := HX4.out.cell 1
      simp at x0 x1
      clear hw4 hb4 hb8 hL hown hLa HG3 HB3 HW3 HS3
      go_wp2_with (at_builtin; refine wpList_append_own _ rfl (.tmp 30) (.tmp 32) 70 rfl w.heap.size 66 i0 (.agg #[.slice none 0 0, .bool false]) 2 32 Try.underlying70 hi0 hz0 hz1 hz2 rfl (by decide) _ _ _ rfl (World.ownsRow.alloc HO4.out _) ⟨w4.heap.size, 0, none⟩ 1 1 [.slice A3 S.length c3, .bool fb] rfl rfl ?c1 ?c2 ?c3 ?c4 ?c5 ?_)
      case c1 => exact two_new w4 66 (.slice A3 S.length c3) (.bool fb)
      case c2 => simp [Value.oneCell']
      case c3 => simp only [maxLen]; omega
      case c4 => omega
      case c5 => have := HW4.out.size; simp; omega
      intro v' w5 hown5 hg5 _
      have HT5 := Lib.hid (turn_row hg5)
      have hO4 := World.ownsRow.alloc HO4.out (.cells #[.slice A3 S.length c3, .bool fb] 66)
      have hty : ∀ j, u6.ownBlock = some j → ∃ cs, Blk (w4.alloc (.cells #[.slice A3 S.length c3, .bool fb] 66)) j 66 cs := own_type66 hO4
      have HG5 := Lib.hid (RG.typed66 (HG4.out.below ((Below.refl _ _).alloc (Nat.le_refl _) (.cells #[.slice A3 S.length c3, .bool fb] 66))) HT5.out hty)
      have HS5 := Lib.hid (Blk.arrs (HS4.out.alloc (.cells #[.slice A3 S.length c3, .bool fb] 66)) HT5.out hty (by decide))
      have HX5 := Lib.hid ((HX4.out.alloc (.cells #[.slice A3 S.length c3, .bool fb] 66)).turn HT5.out (fun e => by
        have h2 := HO3b.out _ e
        omega))
      have HB5 := Lib.hid (show BatsR w.heap.size w5 v' (bs ++ [(S, fb)]) from ⟨L ++ [(.slice A3 S.length c3, S, fb)], by rw [HL.out, List.map_append]; rfl, by
        rw [List.length_append, batCells_app, hLl]
        exact hown5, fun b hb => by
          rcases List.mem_append.1 hb with hb | hb
          · exact Blk.arrs ((HLa.out b hb).alloc (.cells #[.slice A3 S.length c3, .bool fb] 66)) HT5.out hty (by decide)
          · rw [List.mem_singleton.1 hb]; exact HS5.out⟩)
      have HW5 := Lib.hid ((HW4.out.alloc HW4.out.size (.cells #[.slice A3 S.length c3, .bool fb] 66)).grown hg5 (by have := HW4.out.size; simp; omega) (fun j hj => (World.ownsRow.lt HO4.out j hj).1))
      have HC5 := Lib.hid (rcarry_any c y _ S fb w5 HG5.out hFy.out.1 HS5.out)
      have y0 := HX5.out.cell 0
      have y1 := HX5.out.cell 1
      simp at y0 y1
      obtain ⟨cc, hcc⟩ := HG5.out.blk
      have HCc := Lib.hid hcc
      unfold batV at HC5
      clear hown5 hg5 hty hO4 hcc x0 x1
      go_wp2_with fail
      refine HC5.out.mono ?_
      rintro e w6 ⟨r6, rfl, -, hG6, hT6⟩
      have HG6 := Lib.hid hG6
      have HB6 := Lib.hid (HB5.out.turn91 hT6 HCc.out)
      have HW6 := Lib.hid (below_turn HW5.out hT6 (fun i hi e => by omega))
      clear hG6 hT6 HC5
      go_wp2
      go_roundw
      case rel => exact ⟨k + 1, carryG y S, bs ++ [(S, fb)], by go_num, ⟨HFc.out, HE.out, by rw [List.length_append, HLk.out]; rfl⟩, by omega, HG6.out, HB6.out, HW6.out⟩
      case measure => simp [intOf]; omega
end Go.Proofs.Ytmkfaibjjbgbbaa
namespace Go.Proofs.Ytmkfaibjjbgbbaa
open Go.RowKit
set_option linter.unusedVariables false
attribute [local go_sem ↓] Go.wp_at_zero Go.wp_at_succ

theorem batCells_len (L : List (Value × List Int × Bool)) : (batCells L).length = L.length * 2 := by
  induction L with
  | nil => rfl
  | cons e L ih =>
    have hc : batCells (e :: L) = [e.1, .bool e.2.2] ++ batCells L := rfl
    rw [hc, List.length_append, ih, List.length_cons]
    simp
    omega
theorem batCells_at : ∀ (L : List (Value × List Int × Bool)) (k : Nat) (e : Value × List Int × Bool), L[k]? = some e → (batCells L)[k * 2]? = some e.1 ∧ (batCells L)[k * 2 + 1]? = some (.bool e.2.2) := by
  intro L
  induction L with
  | nil => intro k e h; cases h
  | cons a L ih =>
    intro k e h
    have hc : batCells (a :: L) = [a.1, .bool a.2.2] ++ batCells L := rfl
    rw [hc]
    cases k with
    | zero =>
      simp at h
      subst h
      simp
    | succ k =>
      rw [List.getElem?_append_right (by simp; omega), List.getElem?_append_right (by simp; omega)]
      have := ih k e (by simpa using h)
      simp only [List.length_cons, List.length_nil]
      rw [show (k + 1) * 2 - (0 + 1 + 1) = k * 2 by omega, show (k + 1) * 2 + 1 - (0 + 1 + 1) = k * 2 + 1 by omega]
      exact this
/-- A list of batches as it reads. -/
def BL (w : World) (v : Value) (bs : List (List Int × Bool)) : Prop := ∃ A c, v = .slice A bs.length c ∧ bs.length ≤ c ∧ c ≤ 9223372036854775807 ∧
  ∀ (i : Nat) (s : List Int) (f : Bool), bs[i]? = some (s, f) → ∃ g S m d, A = some ⟨g, 0, none⟩ ∧ g < w.heap.size ∧ w.cell? ⟨g, i * 2, none⟩ = some (.slice S m d) ∧ w.cell? ⟨g, i * 2 + 1, none⟩ = some (.bool f) ∧ Arr w 3 (.slice S m d) (ints s)
theorem BL.of_own {B : Nat} {e : TypeId} {w : World} {v : Value} {L : List (Value × List Int × Bool)} (h : w.ownsRow B e 2 v L.length (batCells L)) (ha : ∀ b ∈ L, Arr w 3 b.1 (ints b.2.1)) : BL w v (L.map (·.2)) := by
  rcases h.2 with ⟨hv, h0⟩ | ⟨g, cap, cur, hv, hb, hg, hnc, hcm, hcs, ht⟩
  · obtain rfl : L = [] := List.eq_nil_of_length_eq_zero h0
    exact ⟨_, _, hv, Nat.le_refl _, by omega, fun i s f h => by simp at h⟩
  · refine ⟨_, _, by rw [hv, List.length_map], by rw [List.length_map]; omega, by unfold maxLen at hcm; omega, fun i s f hi => ?_⟩
    rw [List.getElem?_map] at hi
    cases hL : L[i]? with
    | none => rw [hL] at hi; cases hi
    | some q =>
      rw [hL] at hi
      obtain ⟨sv, s', f'⟩ := q
      have hi' : s' = s ∧ f' = f := by simpa using hi
      obtain ⟨rfl, rfl⟩ := hi'
      have hq := ha _ (List.mem_of_getElem? hL)
      obtain ⟨c0, c1⟩ := batCells_at L i _ hL
      have hil : i < L.length := by
        rcases Nat.lt_or_ge i L.length with h | h
        · exact h
        · rw [List.getElem?_eq_none h] at hL; cases hL
      obtain ⟨S, d, e1, -, -⟩ := hq.len
      subst hv
      refine ⟨g, S, _, d, rfl, (Array.getElem?_eq_some_iff.1 hg).1, ?_, ?_, by rw [← e1]; exact hq⟩
      · rw [← e1]
        exact (World.ownsRow.cellAt h (i * 2) (by omega)).trans c0
      · exact (World.ownsRow.cellAt h (i * 2 + 1) (by omega)).trans c1
theorem Bats.bl {B : Nat} {w : World} {v : Value} {bs : List (List Int × Bool)} (h : Bats B w v bs) : BL w v bs := by
  obtain ⟨L, rfl, h1, h2⟩ := h
  exact BL.of_own h1 h2
theorem BatsR.bl {B : Nat} {w : World} {v : Value} {bs : List (List Int × Bool)} (h : BatsR B w v bs) : BL w v bs := by
  obtain ⟨L, rfl, h1, h2⟩ := h
  exact BL.of_own h1 h2
theorem BL.below {w w' : World} {v : Value} {bs : List (List Int × Bool)} (h : BL w v bs) (hb : Below w.heap.size w w') : BL w' v bs := by
  obtain ⟨A, c, e, h1, h2, h3⟩ := h
  refine ⟨A, c, e, h1, h2, fun i s f hi => ?_⟩
  obtain ⟨g, S, m, d, e1, hg, c0, c1, ha⟩ := h3 i s f hi
  exact ⟨g, S, m, d, e1, Nat.lt_of_lt_of_le hg hb.size, (hb.cell (p := ⟨g, i * 2, none⟩) hg).trans c0, (hb.cell (p := ⟨g, i * 2 + 1, none⟩) hg).trans c1, ha.below hb⟩

set_option maxHeartbeats 4000000 in
theorem sameB_any (v u : Value) (bs : List (List Int × Bool)) (w : World) (hv : BL w v bs) (hu : BL w u bs) :
    Calls Try.prog 42 #[v, u] w fun e w' => e = .returned (.bool true) ∧ Below w.heap.size w w' := by
  obtain ⟨A, c, rfl, a1, a2, a3⟩ := hv
  obtain ⟨D, d, rfl, d1, d2, d3⟩ := hu
  have HA := Lib.hid a3
  have HD := Lib.hid d3
  have hne : ((bs.length : Int) != (bs.length : Int)) = false := by simp
  clear a3 d3
  go_enter Try.func42, Try.ntmps42
  go_wp2_with fail
  clear hne
  go_loopw [5] (fun i wr => ∃ k : Nat, k ≤ bs.length ∧ i = .int .i64 k ∧ Below w.heap.size w wr) (fun i _ => bs.length - (intOf i).toNat)
  case atStart => exact ⟨0, Nat.zero_le _, rfl, Below.refl _ _⟩
  case round =>
    obtain ⟨k, hk, rfl, hbel⟩ := hrel
    have HB := Lib.hid hbel
    have hsz := hbel.size
    by_cases hlt : k < bs.length
    · obtain ⟨⟨s, f⟩, hs⟩ : ∃ q, bs[k]? = some q := ⟨_, List.getElem?_eq_getElem hlt⟩
      obtain ⟨g, S, m, d', rfl, hg, x0, x1, hx⟩ := HA.out k s f hs
      obtain ⟨g', S', m', d'', rfl, hg', y0, y1, hy⟩ := HD.out k s f hs
      have HS := Lib.hid fun (W : World) (h : Below wr.heap.size wr W) => show W.cell? ⟨g, k * 2, none⟩ = some (.slice S m d') ∧ W.cell? ⟨g, k * 2 + 1, none⟩ = some (.bool f) ∧ W.cell? ⟨g', k * 2, none⟩ = some (.slice S' m' d'') ∧ W.cell? ⟨g', k * 2 + 1, none⟩ = some (.bool f) from by
        have h2 := hbel.trans (h.mono hsz)
        exact ⟨(h2.cell (p := ⟨g, k * 2, none⟩) hg).trans x0, (h2.cell (p := ⟨g, k * 2 + 1, none⟩) hg).trans x1, (h2.cell (p := ⟨g', k * 2, none⟩) hg').trans y0, (h2.cell (p := ⟨g', k * 2 + 1, none⟩) hg').trans y1⟩
      have HC := Lib.hid fun (W : World) (h : Below wr.heap.size wr W) => sameInts_same _ _ s W (hx.below (hbel.trans (h.mono hsz))) (hy.below (hbel.trans (h.mono hsz)))
      have hd0 : Below wr.heap.size wr wr.drew := (Below.refl _ _).drew
      have hk0 : (0 : Int) ≤ (k : Int) := by omega
      have hk1 : (k : Int) < (bs.length : Int) := by omega
      have hff : (f != f) = false := by simp
      clear hbel hs hx hy x0 x1 y0 y1
      go_wp2_with fail
      go_region_held3 (fun W => W.cell? ⟨g, k * 2, none⟩ = some (.slice S m d') ∧ W.cell? ⟨g, k * 2 + 1, none⟩ = some (.bool f) ∧ W.cell? ⟨g', k * 2, none⟩ = some (.slice S' m' d'') ∧ W.cell? ⟨g', k * 2 + 1, none⟩ = some (.bool f))
        (first | exact HS.out _ hb3 | exact HS.out _ hd0)
        (first | (go_at_call 39; refine (HC.out _ hd0).mono ?_; rintro e w3 ⟨rfl, hb3'⟩; have hb3 := hd0.trans (hb3'.mono hd0.size)))
      have HB3 := Lib.hid (HB.out.trans (hb3.mono hsz))
      clear hb3 hb3'
      go_wp2
      go_roundw
      case rel => exact ⟨k + 1, by omega, by go_num, HB3.out⟩
      case measure => simp [intOf]; omega
    · obtain rfl : k = bs.length := by omega
      clear hbel
      go_wp2
      go_ret
      exact ⟨rfl, HB.out⟩

/-! What batches cost. -/
def cW (l : List (List Int × Bool)) : Int := (l.map fun b => if b.2 then (0 : Int) else b.1.length).sum
def cF (l : List (List Int × Bool)) : Int := (l.map fun b => if b.2 then (1 : Int) else 0).sum
def cU (l : List (List Int × Bool)) : Int := (l.map fun b => if b.2 then (0 : Int) else 1).sum
theorem cost_on {l : List (List Int × Bool)} {k : Nat} {b : List Int × Bool} (h : l[k]? = some b) :
    cW (l.take (k + 1)) = cW (l.take k) + (if b.2 then 0 else b.1.length) ∧ cF (l.take (k + 1)) = cF (l.take k) + (if b.2 then 1 else 0) ∧ cU (l.take (k + 1)) = cU (l.take k) + (if b.2 then 0 else 1) := by
  unfold cW cF cU
  rw [List.take_add_one, h]
  simp
  split <;> rfl
theorem cost_bd : ∀ (l : List (List Int × Bool)), (∀ b ∈ l, b.1.length ≤ 1000) → (0 ≤ cW l ∧ cW l ≤ 1000 * l.length) ∧ (0 ≤ cF l ∧ cF l ≤ l.length) ∧ (0 ≤ cU l ∧ cU l ≤ l.length) := by
  intro l
  induction l with
  | nil => intro _; simp [cW, cF, cU]
  | cons b l ih =>
    intro h
    have h1 := ih fun q hq => h q (List.mem_cons_of_mem _ hq)
    have h2 := h b (by simp)
    have e1 : cW (b :: l) = (if b.2 then (0 : Int) else b.1.length) + cW l := by simp [cW]
    have e2 : cF (b :: l) = (if b.2 then (1 : Int) else 0) + cF l := by simp [cF]
    have e3 : cU (b :: l) = (if b.2 then (0 : Int) else 1) + cU l := by simp [cU]
    rw [e1, e2, e3, List.length_cons]
    split <;> omega

set_option maxHeartbeats 4000000 in
theorem cost_any (v : Value) (bs : List (List Int × Bool)) (w : World) (hv : BL w v bs) (hl : bs.length ≤ 1000) (hs : ∀ b ∈ bs, b.1.length ≤ 1000) :
    Calls Try.prog 45 #[v] w fun e w' => e = .returned (.agg #[.int .i64 (cW bs), .int .i64 (cF bs), .int .i64 (cU bs)]) ∧ Below w.heap.size w w' := by
  obtain ⟨A, c, rfl, a1, a2, a3⟩ := hv
  have HA := Lib.hid a3
  have HSm := Lib.hid hs
  clear a3 hs
  go_enter Try.func45, Try.ntmps45
  go_wp2_with fail
  obtain ⟨w1, hw1⟩ : ∃ w1, w1 = (w.alloc (.cells #[.int .i64 0, .int .i64 0, .int .i64 0] 74)).alloc (.cells #[.int .i64 0, .int .i64 0, .int .i64 0] 74) := ⟨_, rfl⟩
  rw [← hw1]
  have hb1 : Below w.heap.size w w1 := by rw [hw1]; exact ((Below.refl _ _).alloc (Nat.le_refl _) _).alloc (by simp) _
  have HX1 := Lib.hid (show Blk w1 w.heap.size 74 #[.int .i64 0, .int .i64 0, .int .i64 0] from by rw [hw1]; exact (Blk.new _ _ _).alloc _)
  have HY1 := Lib.hid (show Blk w1 (w.heap.size + 1) 74 #[.int .i64 0, .int .i64 0, .int .i64 0] from by
    rw [hw1]
    have := Blk.new (w.alloc (.cells #[.int .i64 0, .int .i64 0, .int .i64 0] 74)) 74 #[.int .i64 0, .int .i64 0, .int .i64 0]
    simpa using this)
  have HB1 := Lib.hid hb1
  have hl1 : w.heap.size + 1 < w1.heap.size := HY1.out.lt
  clear hw1 hb1
  go_loopw [8] (fun i wr => ∃ k : Nat, k ≤ bs.length ∧ i = .int .i64 k ∧ Blk wr (w.heap.size + 1) 74 #[.int .i64 (cW (bs.take k)), .int .i64 (cF (bs.take k)), .int .i64 (cU (bs.take k))] ∧ Turn (fun j => j = w.heap.size + 1) w1 wr) (fun i _ => bs.length - (intOf i).toNat)
  case atStart => exact ⟨0, Nat.zero_le _, rfl, HY1.out, Turn.refl _ _⟩
  case round =>
    obtain ⟨k, hk, rfl, hY, hT⟩ := hrel
    have HT := Lib.hid hT
    have HY := Lib.hid hY
    have hszT := hT.size
    have HX := Lib.hid (HX1.out.turn hT (by omega))
    have hbel := HB1.out.trans (hT.below (B := w.heap.size) HB1.out.size (fun i hi e => by omega))
    have HBw := Lib.hid hbel
    have y0 := hY.cell 0
    have y1 := hY.cell 1
    have y2 := hY.cell 2
    simp at y0 y1 y2
    have f0 := hY.frozen 0
    have f1 := hY.frozen 1
    have f2 := hY.frozen 2
    have hyl : w.heap.size + 1 < wr.heap.size := hY.lt
    have hbd := cost_bd (bs.take k) (fun b hb => HSm.out b (List.mem_of_mem_take hb))
    rw [List.length_take] at hbd
    obtain ⟨⟨p1, p2⟩, ⟨p3, p4⟩, ⟨p5, p6⟩⟩ := hbd
    by_cases hlt : k < bs.length
    · obtain ⟨⟨s, f⟩, hs⟩ : ∃ q, bs[k]? = some q := ⟨_, List.getElem?_eq_getElem hlt⟩
      obtain ⟨g, S, m, d', rfl, hg, x0, x1, hx⟩ := HA.out k s f hs
      have hsl := HSm.out _ (List.mem_of_getElem? hs)
      simp only at hsl
      have hx0 := (hbel.cell (p := ⟨g, k * 2, none⟩) hg).trans x0
      have hx1 := (hbel.cell (p := ⟨g, k * 2 + 1, none⟩) hg).trans x1
      obtain ⟨S', d'', e, -, -⟩ := hx.len
      injection e with e1 e2 e3
      subst e1 e2 e3
      rw [ints_len] at hx0
      have HOn := Lib.hid (cost_on hs)
      clear hT hY hbel hs hx x0 x1
      generalize cW (bs.take k) = W0 at *
      generalize cF (bs.take k) = F0 at *
      generalize cU (bs.take k) = U0 at *
      cases f with
      | true =>
        have HOn2 := Lib.hid (show cW (bs.take (k + 1)) = W0 ∧ cF (bs.take (k + 1)) = F0 + 1 ∧ cU (bs.take (k + 1)) = U0 from by
          have h := HOn.out
          simpa using h)
        have ew : IntKind.i64.wrap (F0 + 1) = F0 + 1 := IntWalk.i64_in _ (by omega) |>.trans rfl
        have HYn := Lib.hid ((HY.out.set_ 1 (.int .i64 (F0 + 1))).alloc (.cells #[.slice S s.length d', .bool true] 61))
        have HTn := Lib.hid ((HT.out.setCell (p := ⟨w.heap.size + 1, 1, none⟩) (fun _ => rfl) (.int .i64 (F0 + 1))).alloc (.cells #[.slice S s.length d', .bool true] 61))
        go_wp2
        go_roundw
        case rel => exact ⟨k + 1, by omega, by go_num, by rw [HOn2.out.1, HOn2.out.2.1, HOn2.out.2.2]; exact HYn.out, HTn.out⟩
        case measure => simp [intOf]; omega
      | false =>
        have HOn2 := Lib.hid (show cW (bs.take (k + 1)) = W0 + s.length ∧ cF (bs.take (k + 1)) = F0 ∧ cU (bs.take (k + 1)) = U0 + 1 from by
          have h := HOn.out
          simpa using h)
        have ew : IntKind.i64.wrap (W0 + s.length) = W0 + s.length := IntWalk.i64_in _ (by omega) |>.trans rfl
        have ew2 : IntKind.i64.wrap (U0 + 1) = U0 + 1 := IntWalk.i64_in _ (by omega) |>.trans rfl
        have HYn := Lib.hid (((HY.out.set_ 0 (.int .i64 (W0 + s.length))).set_ 2 (.int .i64 (U0 + 1))).alloc (.cells #[.slice S s.length d', .bool false] 61))
        have HTn := Lib.hid (((HT.out.setCell (p := ⟨w.heap.size + 1, 0, none⟩) (fun _ => rfl) (.int .i64 (W0 + s.length))).setCell (p := ⟨w.heap.size + 1, 2, none⟩) (fun _ => rfl) (.int .i64 (U0 + 1))).alloc (.cells #[.slice S s.length d', .bool false] 61))
        go_wp2
        go_roundw
        case rel => exact ⟨k + 1, by omega, by go_num, by rw [HOn2.out.1, HOn2.out.2.1, HOn2.out.2.2]; exact HYn.out, HTn.out⟩
        case measure => simp [intOf]; omega
    · obtain rfl : k = bs.length := by omega
      rw [List.take_length] at *
      have z0 := HX.out.cell 0
      have z1 := HX.out.cell 1
      have z2 := HX.out.cell 2
      simp at z0 z1 z2
      have e0 := HX.out.frozen 0
      have e1 := HX.out.frozen 1
      have e2 := HX.out.frozen 2
      have hxl : w.heap.size < wr.heap.size := HX.out.lt
      clear hT hY hbel
      obtain ⟨W0, HW0⟩ : ∃ W0, Hid (W0 = cW bs) := ⟨_, Lib.hid rfl⟩
      obtain ⟨F0, HF0⟩ : ∃ W0, Hid (W0 = cF bs) := ⟨_, Lib.hid rfl⟩
      obtain ⟨U0, HU0⟩ : ∃ W0, Hid (W0 = cU bs) := ⟨_, Lib.hid rfl⟩
      rw [← HW0.out] at y0
      rw [← HF0.out] at y1
      rw [← HU0.out] at y2
      go_wp2
      have F := ((HX.out.set_ 0 (.int .i64 W0)).set_ 1 (.int .i64 F0)).set_ 2 (.int .i64 U0)
      have T := ((((Turn.refl (fun j => j = w.heap.size) wr).setCell (p := ⟨w.heap.size, 0, none⟩) (fun _ => rfl) (.int .i64 W0)).setCell (p := ⟨w.heap.size, 1, none⟩) (fun _ => rfl) (.int .i64 F0)).setCell (p := ⟨w.heap.size, 2, none⟩) (fun _ => rfl) (.int .i64 U0))
      have hbl2 := HBw.out.trans (T.below (B := w.heap.size) HBw.out.size (fun i hi e => by omega))
      have q0 := F.cell 0
      have q1 := F.cell 1
      have q2 := F.cell 2
      generalize (((wr.setCell ⟨w.heap.size, 0, none⟩ (.int .i64 W0)).setCell ⟨w.heap.size, 1, none⟩ (.int .i64 F0)).setCell ⟨w.heap.size, 2, none⟩ (.int .i64 U0)) = X at *
      simp at q0 q1 q2
      exact bodyPost_ret (v := .agg #[.int .i64 W0, .int .i64 F0, .int .i64 U0]) (by simp [results, Try.results45, go_sem, q0, q1, q2]) rfl ⟨by rw [HW0.out, HF0.out, HU0.out], hbl2⟩
end Go.Proofs.Ytmkfaibjjbgbbaa
