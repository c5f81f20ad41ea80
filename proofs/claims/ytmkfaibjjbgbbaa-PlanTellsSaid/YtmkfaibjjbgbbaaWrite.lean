/- graph.Write. -/
import Derived.Test.YtmkfaibjjbgbbaaBehind
namespace Go.Proofs.Ytmkfaibjjbgbbaa
open Go.RowKit
set_option linter.unusedVariables false

def Pt.done (p : Pt) : Pt := { p with written := true }
def mark (x : G) (k : Int) : G := ⟨x.last, x.l.map fun p => if p.id = k then p.done else p⟩
def wr1 (x : G) (id : Int) : Int × G := match x.find id with
  | none => (5, x)
  | some p => if !(readyG x p.sec).contains id || behindB x p then (23, x) else (0, mark x id)
def writeG : G → List Int → Int × G
  | x, [] => (0, x)
  | x, id :: r => if (wr1 x id).1 = 0 then writeG (wr1 x id).2 r else ((wr1 x id).1, x)

theorem mark_find (x : G) (k y : Int) : (mark x k).find y = (x.find y).map fun p => if p.id = k then p.done else p := by
  unfold mark G.find
  rw [List.find?_map]
  congr 1
  congr 1
  funext p
  show decide ((if p.id = k then p.done else p).id = y) = decide (p.id = y)
  split <;> rfl
theorem mark_rise {x : G} (hx : x.l.Pairwise (fun p q => p.id < q.id)) (k : Int) : (mark x k).l.Pairwise (fun p q => p.id < q.id) := by
  unfold mark
  show (x.l.map _).Pairwise _
  rw [List.pairwise_map]
  refine hx.imp fun {p q} h => ?_
  have e : ∀ r : Pt, (if r.id = k then r.done else r).id = r.id := fun r => by split <;> rfl
  rw [e, e]
  exact h
theorem mark_fit {x : G} (h : ∀ p ∈ x.l, p.fit) (k : Int) : ∀ p ∈ (mark x k).l, p.fit := by
  intro p hp
  obtain ⟨q, hq, rfl⟩ := List.mem_map.1 hp
  have := h q hq
  split
  · exact this
  · exact this
theorem mark_len (x : G) (k : Int) : (mark x k).l.length = x.l.length := by simp [mark]

theorem write_nil (v : Value) (w : World) : Calls Try.prog 18 #[.pointer none, v] w fun e w' => e = .returned (.int .i64 1) ∧ w' = w := by
  go_enter Try.func18, Try.ntmps18
  go_wp2
  go_ret
  exact ⟨rfl, rfl⟩

theorem write_on {x : G} {L : List Int} {k : Nat} {id : Int} (h : L[k]? = some id) : writeG x (L.drop k) = if (wr1 x id).1 = 0 then writeG (wr1 x id).2 (L.drop (k + 1)) else ((wr1 x id).1, x) := by
  have hk : k < L.length := by
    rcases Nat.lt_or_ge k L.length with h1 | h1
    · exact h1
    · rw [List.getElem?_eq_none h1] at h; cases h
  rw [List.drop_eq_getElem_cons hk]
  rw [List.getElem?_eq_getElem hk] at h
  rw [Option.some.inj h]
  rfl

set_option maxHeartbeats 2000000 in
theorem write_any (g mb n : Nat) (x : G) (v : Value) (L : List Int) (w : World) (hG : Gr w g mb n x) (hx : x.l.Pairwise (fun p q => p.id < q.id)) (hlen : x.l.length ≤ 100000) (hfit : ∀ p ∈ x.l, p.fit)
    (hv : Arr w 3 v (ints L)) (hL : ∀ id ∈ L, (key id).wf = true) (hLl : L.length ≤ 100000) (hn : n ≤ 1000000) :
    Calls Try.prog 18 #[.pointer (some ⟨g, 0, none⟩), v] w fun e w' => e = .returned (.int .i64 (writeG x L).1) ∧ Gr w' g mb (n + L.length) (writeG x L).2 ∧ Turn (fun j => j = mb) w w' := by
  have HG := Lib.hid hG
  have HK := Lib.hid hL
  have hat := hv
  obtain ⟨A, c, rfl, h1, h2⟩ := hv.len
  have HA := Lib.hid (show ∀ (k : Nat) (y : Int), L[k]? = some y → ∃ gb o cs, A = some ⟨gb, o, none⟩ ∧ Blk w gb 3 cs ∧ cs[o + k]? = some (.int .i64 y) from fun k y hy => by
    rcases hat with ⟨_, e⟩ | ⟨gb, o, c', cs, e1, _, _, hbk, hc⟩
    · have := ints_at hy; rw [e] at this; cases this
    · injection e1 with e1
      exact ⟨gb, o, cs, e1, hbk, hc k _ (ints_at hy)⟩)
  rw [ints_len] at h1 ⊢
  unfold maxLen at h2
  have HX := Lib.hid hx
  have HFit := Lib.hid hfit
  clear hG hx hfit hv hL hat
  go_enter Try.func18, Try.ntmps18
  go_wp2_with fail
  go_loopw [13] (fun i wr => ∃ (k : Nat) (xk : G), k ≤ L.length ∧ i = .int .i64 k ∧ Gr wr g mb (n + k) xk ∧ Turn (fun j => j = mb) w wr ∧ Hid (writeG x L = writeG xk (L.drop k)) ∧ Hid (xk.l.Pairwise (fun p q => p.id < q.id)) ∧ Hid (∀ p ∈ xk.l, p.fit) ∧ Hid (xk.l.length = x.l.length)) (fun i _ => L.length - (intOf i).toNat)
  case atStart => exact ⟨0, x, Nat.zero_le _, rfl, HG.out, Turn.refl _ _, by unfold Hid; rfl, HX, HFit, by unfold Hid; rfl⟩
  case round =>
    obtain ⟨k, y, hk, rfl, hg, hT, hW, hX, hF, hLen⟩ := hrel
    have HGk := Lib.hid hg
    have HT := Lib.hid hT
    by_cases hlt : k < L.length
    · obtain ⟨id, hid⟩ : ∃ id, L[k]? = some id := ⟨_, List.getElem?_eq_getElem hlt⟩
      obtain ⟨gb, o, cs, rfl, hbk, hcs⟩ := HA.out k id hid
      have hc1 : wr.cell? ⟨gb, o + k, none⟩ = some (.int .i64 id) := by
        obtain ⟨_, f0, hm0, _⟩ := HG.out
        exact ((hbk.turn hT (fun e => hm0.not_blk hbk e.symm)).cell (o + k)).trans hcs
      have hkw := HK.out id (List.mem_of_getElem? hid)
      have hcg := hg.c1
      have HON := Lib.hid (write_on (x := y) hid)
      rcases hg.look hkw with ⟨p, A1, k1, A2, k2, hf', hpv, hl⟩ | ⟨hf', hl⟩
      · obtain ⟨hpm, hpid⟩ := find_mem hf'
        subst hpid
        have hpf := hF.out p hpm
        have hl2 := (hl wr (Below.refl _ _)).2
        have hyl : y.l.length ≤ 100000 := by have := hLen.out; omega
        have hbx : Below wr.heap.size wr (wr.alloc (.cells #[.int .i64 p.id, .int .i64 p.sec, .int .i64 p.off, .slice A1 (bytes p.data).length k1, .int .i64 p.kind, .slice A2 (ints p.needs).length k2, .int .i64 p.owner, .int .i64 p.child, .bool p.written] 30)) := (Below.refl _ _).alloc (Nat.le_refl _) _
        have HRdy := Lib.hid (ready_any g mb (n + k) y p.sec (wr.alloc (.cells #[.int .i64 p.id, .int .i64 p.sec, .int .i64 p.off, .slice A1 (bytes p.data).length k1, .int .i64 p.kind, .slice A2 (ints p.needs).length k2, .int .i64 p.owner, .int .i64 p.child, .bool p.written] 30)) (hg.alloc _) hX.out hyl hF.out)
        have HBeh := Lib.hid fun (W : World) (hW : Below wr.heap.size wr W) => behind_any g mb (n + k) y p A1 k1 A2 k2 W (hg.below hW) hX.out hyl hF.out (hpv.below hW) hpf.1
        have HPV := Lib.hid hpv
        have HW1 := Lib.hid (show wr1 y p.id = if !(readyG y p.sec).contains p.id || behindB y p then (23, y) else (0, mark y p.id) from by unfold wr1; rw [hf'])
        have HFind := Lib.hid hf'
        have HN9 := Lib.hid (Blk.new wr 30 #[.int .i64 p.id, .int .i64 p.sec, .int .i64 p.off, .slice A1 (bytes p.data).length k1, .int .i64 p.kind, .slice A2 (ints p.needs).length k2, .int .i64 p.owner, .int .i64 p.child, .bool p.written])
        unfold Pt.val at hl2
        unfold Pt.val at HBeh
        clear hg hT hbk hcs hl hf' hid hpv
        go_wp2_with fail
        refine HRdy.out.mono ?_
        rintro e w2 ⟨r, rfl, hr, hb2⟩
        have HR := Lib.hid hr.arr
        have HB2 := Lib.hid (hbx.trans (hb2.mono (by simp)))
        have h9 := HN9.out.below hb2 (by simp)
        have hs2 : wr.heap.size < w2.heap.size := h9.lt
        have H9 := Lib.hid h9
        have d := h9.cell
        have d0 := d 0
        have d1 := d 1
        have d2 := d 2
        have d3 := d 3
        have d4 := d 4
        have d5 := d 5
        have d6 := d 6
        have d7 := d 7
        have d8 := d 8
        simp at d0 d1 d2 d3 d4 d5 d6 d7 d8
        clear hr hb2 d h9 hbx
        go_wp2_with fail
        refine (contains_any r (readyG y p.sec) p.id w2 HR.out).mono ?_
        rintro e w2b ⟨rfl, hw2b⟩
        subst w2b
        cases hc : (readyG y p.sec).contains p.id with
        | false =>
          have HE := Lib.hid (show writeG x L = (23, y) by rw [hW.out, HON.out, HW1.out, hc]; rfl)
          clear hc
          go_wp2
          go_ret
          exact ⟨by rw [HE.out]; rfl, by rw [HE.out]; exact (HGk.out.below HB2.out).mono (by omega), HT.out.trans (Turn.of_below (S := fun _ => False) HB2.out) (fun i hi e => e.elim)⟩
        | true =>
          have HC := Lib.hid hc
          clear hc
          go_wp2_with fail
          refine (HBeh.out w2 HB2.out).mono ?_
          rintro e w3 ⟨rfl, hb3⟩
          have HB3 := Lib.hid (HB2.out.trans (hb3.mono HB2.out.size))
          have hs3 := hb3.size
          have h9 := H9.out.below hb3 H9.out.lt
          cases hh : behindB y p with
          | true =>
            have HE := Lib.hid (show writeG x L = (23, y) by rw [hW.out, HON.out, HW1.out, HC.out, hh]; rfl)
            clear hh hb3 h9
            go_wp2
            go_ret
            exact ⟨by rw [HE.out]; rfl, by rw [HE.out]; exact (HGk.out.below HB3.out).mono (by omega), HT.out.trans (Turn.of_below (S := fun _ => False) HB3.out) (fun i hi e => e.elim)⟩
          | false =>
            have HE := Lib.hid (show writeG x L = writeG (mark y p.id) (L.drop (k + 1)) by rw [hW.out, HON.out, HW1.out, HC.out, hh]; rfl)
            obtain ⟨hgb, f, hm, hho⟩ := HGk.out.below HB3.out
            have hX4 := h9.set_ 8 (.bool true)
            have T4 : Turn (fun j => j = wr.heap.size) w3 (w3.setCell ⟨wr.heap.size, 8, none⟩ (.bool true)) := (Turn.refl (fun j => j = wr.heap.size) w3).setCell (p := ⟨wr.heap.size, 8, none⟩) (fun _ => rfl) (.bool true)
            have hmbn : ¬ mb = wr.heap.size := fun e => absurd HGk.out.ltm (by omega)
            have hm4 := hm.turn T4 hmbn
            have hg4 := hgb.turn T4 (fun e => absurd HGk.out.lt (by omega))
            have hP4 : PtV (w3.setCell ⟨wr.heap.size, 8, none⟩ (.bool true)) _ p := (HPV.out.below HB3.out).move fun i t cs ht kk => kk.turn T4 fun e => kk.ne_ h9 (by rcases ht with rfl | rfl <;> decide) e
            have hh4 : Holds (w3.setCell ⟨wr.heap.size, 8, none⟩ (.bool true)) f y := hho.move fun i t cs ht kk => kk.turn T4 fun e => kk.ne_ h9 (by rcases ht with rfl | rfl <;> decide) e
            have f8 := h9.frozen 8
            have l3 : wr.heap.size < w3.heap.size := h9.lt
            have c8 := h9.cell 8
            simp at c8
            have HTT := Lib.hid ((Turn.of_below (S := fun _ => False) HB3.out).trans (S' := fun j => j = wr.heap.size) T4 (fun i hi e => by omega))
            clear hh hb3 hgb hm hho T4 d0 d1 d2 d3 d4 d5 d6 d7 d8
            obtain ⟨w5, hupd, hm5, hg5⟩ := hm4.drew.store Try.underlying77 (by unfold maxLen; omega) hkw (Value.agg #[.int .i64 p.id, .int .i64 p.sec, .int .i64 p.off, .slice A1 (bytes p.data).length k1, .int .i64 p.kind, .slice A2 (ints p.needs).length k2, .int .i64 p.owner, .int .i64 p.child, .bool true])
            have HM5 := Lib.hid hm5
            have HG5 := Lib.hid hg5
            have HM4 := Lib.hid hm4
            have HGB4 := Lib.hid hg4
            have HP4 := Lib.hid hP4
            have HH4 := Lib.hid hh4
            have hX5 : Blk (w3.setCell ⟨wr.heap.size, 8, none⟩ (.bool true)) wr.heap.size 30 #[.int .i64 p.id, .int .i64 p.sec, .int .i64 p.off, .slice A1 (bytes p.data).length k1, .int .i64 p.kind, .slice A2 (ints p.needs).length k2, .int .i64 p.owner, .int .i64 p.child, .bool true] := by simpa using hX4
            have HX5 := Lib.hid hX5
            clear hm5 hg5 hm4 hg4 hP4 hh4 hX4 hX5 h9
            go_wp2_with fail
            generalize w3.setCell ⟨wr.heap.size, 8, none⟩ (.bool true) = w4 at *
            have d := HX5.out.cell
            have d0 := d 0
            have d1 := d 1
            have d2 := d 2
            have d3 := d 3
            have d4 := d 4
            have d5 := d 5
            have d6 := d 6
            have d7 := d 7
            have d8 := d 8
            have dg := HGB4.out.cell 1
            simp at d0 d1 d2 d3 d4 d5 d6 d7 d8 dg
            clear d f8 l3 c8
            go_region
            have T5 := turn_of_grown HG5.out
            have HGR := Lib.hid (show Gr w5 g mb (n + (k + 1)) (mark y p.id) from ⟨HGB4.out.drew.turn T5 (fun e => HGk.out.ne e.symm), _, HM5.out, by
              have hmv : ∀ i t cs, (t = 3 ∨ t = 5) → Blk w4 i t cs → Blk w5 i t cs := fun i t cs ht kk => kk.drew.turn T5 fun e => HM4.out.not_blk kk e.symm
              intro z
              rw [mark_find]
              have hz := HH4.out z
              by_cases e : z = p.id
              · subst e
                rw [HFind.out]
                show ∃ v, _ ∧ PtV w5 v (if p.id = p.id then p.done else p)
                rw [if_pos rfl]
                obtain ⟨vd, vn, e1, hd, hn'⟩ := HP4.out
                have e2 := congrArg (fun v => match v with | .agg cs => (cs[3]?, cs[5]?) | _ => (none, none)) e1
                simp [Pt.val] at e2
                refine ⟨_, upd_same _ _ _, _, _, rfl, ?_, ?_⟩
                · rw [← e2.1] at hd
                  exact hd.move fun i cs kk => hmv i 5 cs (.inr rfl) kk
                · rw [← e2.2] at hn'
                  exact hn'.move fun i cs kk => hmv i 3 cs (.inl rfl) kk
              · cases hfz : y.find z with
                | none =>
                  rw [hfz] at hz
                  exact (upd_other _ _ e).trans hz
                | some q =>
                  rw [hfz] at hz
                  obtain ⟨v, ev, hv⟩ := hz
                  show ∃ v, _ ∧ PtV w5 v (if q.id = p.id then q.done else q)
                  rw [if_neg (by rw [(find_mem hfz).2]; exact e)]
                  exact ⟨v, (upd_other _ _ e).trans ev, hv.move hmv⟩⟩)
            have HT5 := Lib.hid ((HT.out.trans HTT.out (fun i hi e => e.elim)).drew.trans (S' := fun j => j = mb) T5 (fun i hi e => e))
            clear T5 hupd d0 d1 d2 d3 d4 d5 d6 d7 d8 dg
            go_wp2
            go_roundw
            case rel => exact ⟨k + 1, mark y p.id, by omega, by go_num, HGR.out, HT5.out, HE, mark_rise hX.out _, mark_fit hF.out _, by unfold Hid; rw [mark_len]; exact hLen.out⟩
            case measure => simp [intOf]; omega
      · have hl2 := (hl wr (Below.refl _ _)).2
        have h5 : wr1 y id = (5, y) := by unfold wr1; rw [hf']
        have HE := Lib.hid (show writeG x L = (5, y) by rw [hW.out, HON.out, h5]; rfl)
        unfold zeroV at hl2
        clear hg hT hbk hcs hl hf' h5 hid
        go_wp2
        go_ret
        exact ⟨by rw [HE.out]; rfl, by rw [HE.out]; exact (HGk.out.alloc _).mono (by omega), HT.out.alloc _⟩
    · obtain rfl : k = L.length := by omega
      have HE := Lib.hid (show writeG x L = (0, y) by rw [hW.out, List.drop_length]; rfl)
      clear hg hT
      go_wp2
      go_ret
      exact ⟨by rw [HE.out]; rfl, by rw [HE.out]; exact HGk.out, HT.out⟩
end Go.Proofs.Ytmkfaibjjbgbbaa
