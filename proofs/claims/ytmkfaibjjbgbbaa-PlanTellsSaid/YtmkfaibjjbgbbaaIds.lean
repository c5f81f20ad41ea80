/- graph.ids: the numbers of the patches that are asked for, by rising numbers, whatever order the map is told in. -/
import Derived.Test.YtmkfaibjjbgbbaaAdd
namespace Go.Proofs.Ytmkfaibjjbgbbaa
open Go.RowKit
set_option linter.unusedVariables false

/-- Function g with what it captured answers q p, for each patch of the graph, in every later world. -/
def TellsP (g : Nat) (lb : Array Value) (x : G) (q : Pt → Bool) (w : World) : Prop :=
  ∀ (W : World) (v : Value) (p : Pt), p ∈ x.l → PtV W v p → Below w.heap.size w W → Calls Try.prog g (#[v] ++ lb) W fun e w' => e = .returned (.bool (q p)) ∧ Below W.heap.size W w'

def idsOf (x : G) (q : Pt → Bool) : List Int := (x.l.filter q).map (·.id)

theorem ids_rise {x : G} (h : x.l.Pairwise (fun p q => p.id < q.id)) (q : Pt → Bool) : (idsOf x q).Pairwise (· < ·) := by
  unfold idsOf
  rw [List.pairwise_map]
  exact h.filter q
theorem mem_ids {x : G} {q : Pt → Bool} {k : Int} : k ∈ idsOf x q ↔ ∃ p ∈ x.l, q p = true ∧ p.id = k := by
  unfold idsOf
  simp only [List.mem_map, List.mem_filter]
  constructor
  · rintro ⟨p, ⟨h1, h2⟩, h3⟩; exact ⟨p, h1, h2, h3⟩
  · rintro ⟨p, h1, h2, h3⟩; exact ⟨p, ⟨h1, h2⟩, h3⟩
theorem sort_is {L M : List Int} (hL : L.Nodup) (hM : M.Pairwise (· < ·)) (h : ∀ k, k ∈ L ↔ k ∈ M) : (L.mergeSort fun a b => decide (a ≤ b)) = M := by
  have hMn : M.Nodup := hM.imp fun h e => by omega
  refine List.Perm.eq_of_pairwise (le := fun a b : Int => a ≤ b) (fun a b _ _ h1 h2 => by omega) ?_ (hM.imp fun h => by omega) ((List.mergeSort_perm _ _).trans ((List.perm_ext_iff_of_nodup hL hMn).2 h))
  have := List.pairwise_mergeSort (le := fun a b : Int => decide (a ≤ b)) (fun a b c h1 h2 => by simp at *; omega) (fun a b => by simp; omega) L
  exact this.imp fun h => by simpa using h

theorem find_mem {x : G} {k : Int} {p : Pt} (h : x.find k = some p) : p ∈ x.l ∧ p.id = k := by
  unfold G.find at h
  have h1 := List.find?_some h
  exact ⟨List.mem_of_find?_eq_some h, by simpa using h1⟩
theorem find_none {x : G} {k : Int} (h : x.find k = none) : ∀ p ∈ x.l, p.id ≠ k := by
  unfold G.find at h
  rw [List.find?_eq_none] at h
  intro p hp
  have := h p hp
  simpa using this

theorem id_inj {x : G} (h : x.l.Pairwise (fun p q => p.id < q.id)) {p q : Pt} (hp : p ∈ x.l) (hq : q ∈ x.l) (e : p.id = q.id) : p = q := by
  revert hp hq
  generalize x.l = l at *
  induction l with
  | nil => intro hp; cases hp
  | cons a l ih =>
    rw [List.pairwise_cons] at h
    intro hp hq
    rcases List.mem_cons.1 hp with h1 | h1
    · rcases List.mem_cons.1 hq with h2 | h2
      · rw [h1, h2]
      · have := h.1 q h2; rw [← h1] at this; omega
    · rcases List.mem_cons.1 hq with h2 | h2
      · have := h.1 p h1; rw [← h2] at this; omega
      · exact ih h.2 h1 h2

theorem ids_nil (fv : Value) (w : World) : Calls Try.prog 49 #[.pointer none, fv] w fun e w' => e = .returned (.slice none 0 0) ∧ w' = w := by
  go_enter Try.func49, Try.ntmps49
  go_wp2
  go_ret
  exact ⟨rfl, rfl⟩

/-- What the loop keeps: which of the keys that have come were asked for. -/
def Came (x : G) (q : Pt → Bool) (left : Int → Bool) (L : List Int) : Prop := L.Nodup ∧ ∀ k, k ∈ L ↔ left k = false ∧ ∃ p ∈ x.l, q p = true ∧ p.id = k
theorem Came.on {x : G} {q : Pt → Bool} {left : Int → Bool} {L : List Int} (h : Came x q left L) {k : Int} {p : Pt} (hp : p ∈ x.l) (hk : p.id = k) (hl : left k = true) (hq : q p = true) :
    Came x q (fun y => left y && !decide (y = k)) (L ++ [k]) := by
  have hno : k ∉ L := fun hm => by have := ((h.2 k).1 hm).1; rw [hl] at this; cases this
  refine ⟨?_, fun y => ?_⟩
  · rw [List.nodup_append]
    refine ⟨h.1, by simp, fun a ha b hb e => ?_⟩
    simp at hb
    subst hb
    subst e
    exact hno ha
  · rw [List.mem_append, List.mem_singleton, h.2 y]
    by_cases e : y = k
    · subst e
      simp [hl]
      exact ⟨p, hp, hq, hk⟩
    · simp [e]
theorem Came.off {x : G} {q : Pt → Bool} {left : Int → Bool} {L : List Int} (h : Came x q left L) (hx : x.l.Pairwise (fun p q => p.id < q.id)) {k : Int} {p : Pt} (hp : p ∈ x.l) (hk : p.id = k) (hl : left k = true) (hq : q p = false) :
    Came x q (fun y => left y && !decide (y = k)) L := by
  refine ⟨h.1, fun y => ?_⟩
  rw [h.2 y]
  by_cases e : y = k
  · subst e
    simp [hl]
    intro p' hp' hq' e
    rw [id_inj hx hp' hp (e.trans hk.symm), hq] at hq'
    cases hq'
  · simp [e]
theorem Came.len {x : G} {q : Pt → Bool} {left : Int → Bool} {L : List Int} (h : Came x q left L) : L.length ≤ x.l.length := by
  have hsub : ∀ k ∈ L, k ∈ x.l.map (·.id) := fun k hk => by
    obtain ⟨_, p, hp, _, e⟩ := (h.2 k).1 hk
    exact List.mem_map.2 ⟨p, hp, e⟩
  have := List.Nodup.length_le_of_subset h.1 (fun k hk => hsub k hk)
  simpa using this

/-- A list of ints that the call itself has built. -/
def Built (B : Nat) (w : World) (v : Value) (l : List Int) : Prop := w.ownsRow B 3 1 v l.length (ints l)
theorem Built.arr {B : Nat} {w : World} {v : Value} {l : List Int} (h : Built B w v l) : Arr w 3 v (ints l) := Arr.of_own h
theorem Built.mono {B B' : Nat} {w : World} {v : Value} {l : List Int} (h : Built B w v l) (hb : B' ≤ B) : Built B' w v l := by
  refine ⟨h.1, ?_⟩
  rcases h.2 with h0 | ⟨g, cap, cur, hv, hg, hr⟩
  · exact .inl h0
  · exact .inr ⟨g, cap, cur, hv, Nat.le_trans hb hg, hr⟩
theorem Built.own {B : Nat} {w : World} {v : Value} {l : List Int} (h : Built B w v l) : ∀ k, v.ownBlock = some k → B ≤ k ∧ k < w.heap.size := World.ownsRow.lt h

theorem Built.below {B : Nat} {w w' : World} {v : Value} {l : List Int} (h : Built B w v l) (hb : Below w.heap.size w w') : Built B w' v l := by
  refine ⟨h.1, ?_⟩
  rcases h.2 with h0 | ⟨g, cap, cur, hv, hg, hc, hr⟩
  · exact .inl h0
  · exact .inr ⟨g, cap, cur, hv, hg, (hb.block g (Array.getElem?_eq_some_iff.1 hc).1).trans hc, hr⟩
theorem RangeIs.below {w w' : World} {b r n : Nat} {f : Int → Option Value} {left : Int → Bool} {cnt : Nat} (h : RangeIs w b r n f left cnt) (hb : Below w.heap.size w w') : RangeIs w' b r n f left cnt :=
  h.keep (hb.block b h.map.lt) (hb.block r h.lt)

set_option maxHeartbeats 1000000 in
theorem ids_any (g mb n : Nat) (x : G) (gf : Nat) (lb : Array Value) (q : Pt → Bool) (w : World) (hG : Gr w g mb n x) (hx : x.l.Pairwise (fun p q => p.id < q.id)) (hlen : x.l.length ≤ 100000)
    (eg : ∀ args w, (callFunc gf args).run Try.prog w = .ok (.enter gf args) w) (hq : TellsP gf lb x q w) :
    Calls Try.prog 49 #[.pointer (some ⟨g, 0, none⟩), .func (.func gf) #[] lb] w fun e w' => ∃ r, e = .returned r ∧ Built w.heap.size w' r (idsOf x q) ∧ Below w.heap.size w w' := by
  obtain ⟨i0, hi0, hz0, hz1, hz2⟩ := info_parts info3
  have HQ := Lib.hid hq
  have HX := Lib.hid hx
  have HG := Lib.hid hG
  obtain ⟨hg, f, hm, hh⟩ := hG
  obtain ⟨w1, cnt0, hrange, hr1, hgr1, hsz1⟩ := hm.range Try.underlying77
  have HH := Lib.hid hh
  have HM := Lib.hid hm
  have HR1 := Lib.hid hr1
  have hB1 : Below w.heap.size w w1 := ⟨hgr1.os, hgr1.tape, hgr1.output, hgr1.size, fun i hi => hgr1.block i hi (by simp)⟩
  have HB1 := Lib.hid hB1
  have c1 := HG.out.c1
  have hmbl := HG.out.ltm
  have hnoneC : ∀ k, (f k).isSome = false → ∀ p ∈ x.l, p.id ≠ k := fun k hk p hp e => by
    have := HH.out k
    cases hfd : x.find k with
    | none => exact find_none hfd p hp e
    | some p' =>
      rw [hfd] at this
      obtain ⟨v, ev, _⟩ := this
      rw [ev] at hk
      cases hk
  have HC0 := Lib.hid (show Came x q (fun k => (f k).isSome) [] from ⟨List.nodup_nil, fun k => by
    constructor
    · intro h; cases h
    · rintro ⟨h1, p, hp, _, e⟩; exact absurd e (hnoneC k h1 p hp)⟩)
  clear hm hh hg hq hx hr1 hgr1 hB1 hnoneC
  go_enter Try.func49, Try.ntmps49
  go_wp2
  go_loopw [5] (fun v wr => ∃ (left : Int → Bool) (cnt : Nat) (L : List Int), RangeIs wr mb w.heap.size n f left cnt ∧ Below w.heap.size w wr ∧ Built (w.heap.size + 1) wr v L ∧ Hid (Came x q left L) ∧ w.heap.size + 1 ≤ wr.heap.size) (fun _ wr => wr.rangeLeft mb w.heap.size)
  case atStart => exact ⟨_, cnt0, [], HR1.out, HB1.out, World.ownsRow_nil _ _ _ _, HC0.out, by omega⟩
  case round =>
    obtain ⟨left, cnt, L, hrg, hbel, hown, hC, hsz⟩ := hrel
    have HC := Lib.hid hC
    have HO := Lib.hid hown
    have HB := Lib.hid hbel
    have hLl := hC.out.len
    have hcnt := hrg.left_eq
    rcases hrg.next 0 with ⟨h0, hrun⟩ | ⟨k, v, w2, cnt2, hfk, hlk, hwf, hrun, hr2, hlt, hg2, hsz2, hen⟩
    · have HS := Lib.hid (sort_is hC.out.1 (ids_rise HX.out q) (fun k => by
        rw [hC.out.2 k, mem_ids, h0 k]
        simp))
      have HK := Lib.hid (sort_own wr hown (by omega))
      clear hC hown hbel h0 hrg
      go_wp2_with fail
      refine HK.out.mono ?_
      rintro e w3 ⟨rfl, ho3, hg3⟩
      rw [HS.out] at ho3
      have hl3 : L.length = (idsOf x q).length := by
        rw [← HS.out, List.length_mergeSort]
      rw [hl3] at ho3
      have HR := Lib.hid ((show Built (w.heap.size + 1) w3 _ (idsOf x q) from ho3).mono (show w.heap.size ≤ w.heap.size + 1 by omega))
      have HB3 := Lib.hid (HB.out.grown hg3 HB.out.size (fun j hj => by have := (HO.out.own j hj).1; omega))
      clear ho3 hg3
      go_wp2
      go_ret
      exact ⟨_, rfl, HR.out, HB3.out⟩
    · have hpv := HH.out k
      cases hfd : x.find k with
      | none => rw [hfd] at hpv; rw [hpv] at hfk; cases hfk
      | some p =>
        rw [hfd] at hpv
        obtain ⟨v', ev, hv⟩ := hpv
        rw [ev] at hfk
        obtain rfl : v' = v := Option.some.inj hfk
        obtain ⟨hpm, hpk⟩ := find_mem hfd
        subst hpk
        have HV := Lib.hid hv
        obtain ⟨vd, vn, rfl, hd, hn⟩ := hv
        obtain ⟨A1, k1, rfl, -, -⟩ := hd.len
        obtain ⟨A2, k2, rfl, -, -⟩ := hn.len
        have hb2 : Below w.heap.size w w2 := HB.out.grown hg2 HB.out.size (fun j hj => by injection hj with hj; omega)
        have HB2 := Lib.hid hb2
        have hT := HQ.out (w2.alloc (.cells #[.int .i64 p.id, .int .i64 p.sec, .int .i64 p.off, .slice A1 (bytes p.data).length k1, .int .i64 p.kind, .slice A2 (ints p.needs).length k2, .int .i64 p.owner, .int .i64 p.child, .bool p.written] 30)) _ p hpm ((HV.out.below hb2).alloc _) (hb2.alloc hb2.size _)
        have hO2 : Built (w.heap.size + 1) w2 _ L := World.ownsRow.kept hown hg2 (Or.inr fun e => by have := (HO.out.own _ e).1; omega)
        have HO2 := Lib.hid hO2
        have HR2 := Lib.hid hr2
        clear hC hown hbel hrg hb2 hd hn ev hfk hfd hO2 hr2 hg2
        unfold Pt.val at *
        cases hqp : q p with
        | true =>
          rw [hqp] at hT
          have HT := Lib.hid hT
          have HCN := Lib.hid (HC.out.on hpm rfl hlk hqp)
          clear hT hqp
          go_wp2_with fail
          refine HT.out.mono ?_
          rintro e w3 ⟨rfl, hb3⟩
          have hs3 := hb3.size
          have HB3 := Lib.hid ((HB2.out.alloc HB2.out.size _).trans (hb3.mono (by have := HB2.out.size; simp; omega)))
          have HR3 := Lib.hid ((HR2.out.below ((Below.refl _ _).alloc (Nat.le_refl _) _)).below hb3)
          have HO3 := Lib.hid (Built.below (Built.below HO2.out ((Below.refl _ _).alloc (Nat.le_refl _) _)) hb3)
          simp at hs3
          clear hb3
          go_wp2_with (at_builtin; refine wpList_append_own _ rfl (.tmp 24) (.tmp 26) 28 rfl (w.heap.size + 1) 3 i0 (.int .i64 0) 1 8 Try.underlying28 hi0 hz0 hz1 hz2 rfl (by decide) _ _ _ rfl (HO3.out.alloc _) ⟨w3.heap.size, 0, none⟩ 1 1 [.int .i64 p.id] rfl rfl ?c1 ?c2 ?c3 ?c4 ?c5 ?_)
          case c1 => exact one_new _ _ _
          case c2 => simp [Value.oneCell']
          case c3 => simp only [maxLen]; omega
          case c4 => omega
          case c5 => simp; omega
          intro v' w4 hown4 hg4 _
          have HO4 := Lib.hid (show Built (w.heap.size + 1) w4 v' (L ++ [p.id]) from by
            unfold Built ints
            rw [List.map_append, List.length_append]
            exact hown4)
          have HB4 := Lib.hid ((HB3.out.alloc HB3.out.size _).grown hg4 (by simp; omega) (fun j hj => by have := (HO3.out.own j hj).1; omega))
          have HR4 := Lib.hid ((HR3.out.below ((Below.refl _ _).alloc (Nat.le_refl _) _)).keep (hg4.block mb (by simp; omega) (fun e => by have := (HO3.out.own _ e.symm).1; omega)) (hg4.block w.heap.size (by simp; omega) (fun e => by have := (HO3.out.own _ e.symm).1; omega)))
          have hs4 := hg4.size
          simp at hs4
          have hm4 := HR4.out.left_eq
          clear hown4 hg4
          go_wp2
          go_roundw
          case rel => exact ⟨_, cnt2, _, HR4.out, HB4.out, HO4.out, HCN.out, by omega⟩
          case measure => rw [hm4, hcnt]; exact hlt
        | false =>
          rw [hqp] at hT
          have HT := Lib.hid hT
          have HCN := Lib.hid (HC.out.off HX.out hpm rfl hlk hqp)
          clear hT hqp
          go_wp2_with fail
          refine HT.out.mono ?_
          rintro e w3 ⟨rfl, hb3⟩
          have hs3 := hb3.size
          have HB3 := Lib.hid ((HB2.out.alloc HB2.out.size _).trans (hb3.mono (by have := HB2.out.size; simp; omega)))
          have HR3 := Lib.hid ((HR2.out.below ((Below.refl _ _).alloc (Nat.le_refl _) _)).below hb3)
          have HO3 := Lib.hid (Built.below (Built.below HO2.out ((Below.refl _ _).alloc (Nat.le_refl _) _)) hb3)
          simp at hs3
          clear hb3
          have hm3 := HR3.out.left_eq
          go_wp2
          go_roundw
          case rel => exact ⟨_, cnt2, _, HR3.out, HB3.out, HO3.out, HCN.out, by omega⟩
          case measure => rw [hm3, hcnt]; exact hlt
end Go.Proofs.Ytmkfaibjjbgbbaa
