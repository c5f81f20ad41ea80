/- graph.Write once more: whatever holds of the values of the patches' slices still does. -/
import Derived.Test.YtmkfaibjjbgbbaaNil
namespace Go.Proofs.Ytmkfaibjjbgbbaa
open Go.RowKit
set_option linter.unusedVariables false
attribute [local go_sem ↓] Go.wp_at_zero Go.wp_at_succ

/-- As Holds, and Q holds of the two slices of each patch. -/
def HoldsQ (Q : Value → Value → Prop) (w : World) (f : Int → Option Value) (x : G) : Prop := ∀ k, match x.find k with | some p => ∃ vd vn, f k = some (p.val vd vn) ∧ Arr w 5 vd (bytes p.data) ∧ Arr w 3 vn (ints p.needs) ∧ Q vd vn | none => f k = none
def GrQ (Q : Value → Value → Prop) (w : World) (g mb n : Nat) (x : G) : Prop := Blk w g 79 #[.int .i64 x.last, .map (some mb)] ∧ ∃ f, MapIs w mb n f ∧ HoldsQ Q w f x

section
variable {Q : Value → Value → Prop} {w w' : World} {g mb n : Nat} {x : G} {f : Int → Option Value}
theorem HoldsQ.holds (h : HoldsQ Q w f x) : Holds w f x := by
  intro k
  have := h k
  cases hk : x.find k with
  | none => rw [hk] at this; exact this
  | some p =>
    rw [hk] at this
    obtain ⟨vd, vn, e, h1, h2, _⟩ := this
    exact ⟨_, e, vd, vn, rfl, h1, h2⟩
theorem HoldsQ.move (h : HoldsQ Q w f x) (hb : ∀ g t cs, (t = 3 ∨ t = 5) → Blk w g t cs → Blk w' g t cs) : HoldsQ Q w' f x := by
  intro k
  have := h k
  cases hk : x.find k with
  | none => rw [hk] at this; exact this
  | some p =>
    rw [hk] at this
    obtain ⟨vd, vn, e, h1, h2, h3⟩ := this
    exact ⟨vd, vn, e, h1.move fun g cs k => hb g 5 cs (.inr rfl) k, h2.move fun g cs k => hb g 3 cs (.inl rfl) k, h3⟩
theorem GrQ.gr (h : GrQ Q w g mb n x) : Gr w g mb n x := ⟨h.1, h.2.choose, h.2.choose_spec.1, h.2.choose_spec.2.holds⟩
theorem GrQ.below (h : GrQ Q w g mb n x) (hb : Below w.heap.size w w') : GrQ Q w' g mb n x := by
  obtain ⟨hg, f, hm, hh⟩ := h
  exact ⟨hg.below hb hg.lt, f, hm.keep (hb.block mb hm.lt), hh.move fun g t cs _ k => k.below hb k.lt⟩
theorem GrQ.alloc (h : GrQ Q w g mb n x) (o : Obj) : GrQ Q (w.alloc o) g mb n x := h.below ((Below.refl _ _).alloc (Nat.le_refl _) o)
theorem GrQ.mono (h : GrQ Q w g mb n x) {m : Nat} (hn : n ≤ m) : GrQ Q w g mb m x := by
  obtain ⟨hg, f, hm, hh⟩ := h
  exact ⟨hg, f, hm.mono hn, hh⟩
theorem GrQ.lt (h : GrQ Q w g mb n x) : g < w.heap.size := h.1.lt
theorem GrQ.ltm (h : GrQ Q w g mb n x) : mb < w.heap.size := h.gr.ltm
theorem GrQ.ne (h : GrQ Q w g mb n x) : mb ≠ g := h.gr.ne
theorem GrQ.c1 (h : GrQ Q w g mb n x) : w.cell? ⟨g, 1, Option.none⟩ = Option.some (.map (Option.some mb)) := h.1.cell 1
theorem GrQ.look (h : GrQ Q w g mb n x) {k : Int} (hk : (key k).wf = true) :
    (∃ p A1 k1 A2 k2, x.find k = some p ∧ (PtV w (p.val (.slice A1 (bytes p.data).length k1) (.slice A2 (ints p.needs).length k2)) p ∧ Q (.slice A1 (bytes p.data).length k1) (.slice A2 (ints p.needs).length k2)) ∧
      (∀ W, Below w.heap.size w W → (Instr.lookup 77 (.map (some mb)) (.int .i64 k) false).run Try.prog W = .ok (p.val (.slice A1 (bytes p.data).length k1) (.slice A2 (ints p.needs).length k2)) W ∧
        (Instr.lookup 77 (.map (some mb)) (.int .i64 k) true).run Try.prog W = .ok (.tuple #[p.val (.slice A1 (bytes p.data).length k1) (.slice A2 (ints p.needs).length k2), .bool true]) W)) ∨
    (x.find k = none ∧ ∀ W, Below w.heap.size w W → (Instr.lookup 77 (.map (some mb)) (.int .i64 k) false).run Try.prog W = .ok zeroV W ∧ (Instr.lookup 77 (.map (some mb)) (.int .i64 k) true).run Try.prog W = .ok (.tuple #[zeroV, .bool false]) W) := by
  obtain ⟨hg, f, hm, hh⟩ := h
  have hl := hh k
  cases hf : x.find k with
  | none =>
    rw [hf] at hl
    refine .inr ⟨rfl, fun W hW => ?_⟩
    have hm' : MapIs W mb n f := hm.keep (hW.block mb hm.lt)
    have h1 := hm'.look Try.underlying77 (zero30 W) hk
    have h2 := hm'.look_ok Try.underlying77 (zero30 W) hk
    rw [hl] at h1 h2
    exact ⟨h1, h2⟩
  | some p =>
    rw [hf] at hl
    obtain ⟨vd, vn, ev, hd, hn, hq⟩ := hl
    have HV : PtV w (p.val vd vn) p := ⟨vd, vn, rfl, hd, hn⟩
    obtain ⟨A1, k1, rfl, -, -⟩ := hd.len
    obtain ⟨A2, k2, rfl, -, -⟩ := hn.len
    refine .inl ⟨p, A1, k1, A2, k2, rfl, ⟨HV, hq⟩, fun W hW => ?_⟩
    have hm' : MapIs W mb n f := hm.keep (hW.block mb hm.lt)
    have h1 := hm'.look Try.underlying77 (zero30 W) hk
    have h2 := hm'.look_ok Try.underlying77 (zero30 W) hk
    rw [ev] at h1 h2
    exact ⟨h1, h2⟩
end
theorem PtV.parts' {w : World} {p : Pt} {a b : Value} (h : PtV w (p.val a b) p) : Arr w 5 a (bytes p.data) ∧ Arr w 3 b (ints p.needs) := by
  obtain ⟨vd, vn, e, hd, hn⟩ := h
  have e2 := congrArg (fun v => match v with | .agg cs => (cs[3]?, cs[5]?) | _ => (none, none)) e
  simp [Pt.val] at e2
  rw [e2.1, e2.2]
  exact ⟨hd, hn⟩
/-- The slices lie below B. -/
def LowQ (B : Nat) (vd vn : Value) : Prop := (∀ j, vd.ownBlock = some j → j < B) ∧ ∀ j, vn.ownBlock = some j → j < B
theorem Arr.low {w : World} {e : TypeId} {v : Value} {xs : List Value} (h : Arr w e v xs) : ∀ j, v.ownBlock = some j → j < w.heap.size := by
  intro j hj
  rcases h with ⟨rfl, _⟩ | ⟨g, o, c, cs, rfl, _, _, h4, _⟩
  · cases hj
  · injection hj with hj
    rw [← hj]
    exact h4.lt
theorem Gr.low {w : World} {g mb n : Nat} {x : G} (h : Gr w g mb n x) : GrQ (LowQ w.heap.size) w g mb n x := by
  obtain ⟨hg, f, hm, hh⟩ := h
  refine ⟨hg, f, hm, fun k => ?_⟩
  have := hh k
  cases hk : x.find k with
  | none => rw [hk] at this; exact this
  | some p =>
    rw [hk] at this
    obtain ⟨v, e, vd, vn, rfl, hd, hn⟩ := this
    exact ⟨vd, vn, e, hd, hn, hd.low, hn.low⟩

set_option maxHeartbeats 2000000 in
theorem writeQ_any (Q : Value → Value → Prop) (g mb n : Nat) (x : G) (v : Value) (L : List Int) (w : World) (hG : GrQ Q w g mb n x) (hx : x.l.Pairwise (fun p q => p.id < q.id)) (hlen : x.l.length ≤ 100000) (hfit : ∀ p ∈ x.l, p.fit)
    (hv : Arr w 3 v (ints L)) (hL : ∀ id ∈ L, (key id).wf = true) (hLl : L.length ≤ 100000) (hn : n ≤ 1000000) :
    Calls Try.prog 18 #[.pointer (some ⟨g, 0, none⟩), v] w fun e w' => e = .returned (.int .i64 (writeG x L).1) ∧ GrQ Q w' g mb (n + L.length) (writeG x L).2 ∧ Turn (fun j => j = mb) w w' := by
  have HG := Lib.hid hG
  have HK := Lib.hid hL
  have hat := hv
  obtain ⟨A, c, rfl, h1, h2⟩ := hv.len
  have HA := Lib.hid (show ∀ (k : Nat) (y : Int), L[k]? = some y → ∃ gb o cs, A = some ⟨gb, o, none⟩ ∧ Blk w gb 3 cs ∧ cs[o + k]? = some (.int .i64 y) from fun k y hy => by
    rcases hat with ⟨_, e⟩ | ⟨gb, o, c', cs, e1, _, _, hbk, hc⟩
    · have := ints_at hy; rw [e] at this; cases this
    · injection e1 with e1
      exact ⟨gb, o, cs, e1, hbk, hc k _ (ints_at hy)⟩)
  rw [ints_len] at h1 ⊢
  unfold maxLen at h2
  have HX := Lib.hid hx
  have HFit := Lib.hid hfit
  clear hG hx hfit hv hL hat
  go_enter Try.func18, Try.ntmps18
  go_wp2_with fail
  go_loopw [13] (fun i wr => ∃ (k : Nat) (xk : G), k ≤ L.length ∧ i = .int .i64 k ∧ GrQ Q wr g mb (n + k) xk ∧ Turn (fun j => j = mb) w wr ∧ Hid (writeG x L = writeG xk (L.drop k)) ∧ Hid (xk.l.Pairwise (fun p q => p.id < q.id)) ∧ Hid (∀ p ∈ xk.l, p.fit) ∧ Hid (xk.l.length = x.l.length)) (fun i _ => L.length - (intOf i).toNat)
  case atStart => exact ⟨0, x, Nat.zero_le _, rfl, HG.out, Turn.refl _ _, by unfold Hid; rfl, HX, HFit, by unfold Hid; rfl⟩
  case round =>
    obtain ⟨k, y, hk, rfl, hg, hT, hW, hX, hF, hLen⟩ := hrel
    have HGk := Lib.hid hg
    have HT := Lib.hid hT
    by_cases hlt : k < L.length
    · obtain ⟨id, hid⟩ : ∃ id, L[k]? = some id := ⟨_, List.getElem?_eq_getElem hlt⟩
      obtain ⟨gb, o, cs, rfl, hbk, hcs⟩ := HA.out k id hid
      have hc1 : wr.cell? ⟨gb, o + k, none⟩ = some (.int .i64 id) := by
        obtain ⟨_, f0, hm0, _⟩ := HG.out
        exact ((hbk.turn hT (fun e => hm0.not_blk hbk e.symm)).cell (o + k)).trans hcs
      have hkw := HK.out id (List.mem_of_getElem? hid)
      have hcg := hg.c1
      have HON := Lib.hid (write_on (x := y) hid)
      rcases hg.look hkw with ⟨p, A1, k1, A2, k2, hf', ⟨hpv, hqq⟩, hl⟩ | ⟨hf', hl⟩
      · obtain ⟨hpm, hpid⟩ := find_mem hf'
        subst hpid
        have hpf := hF.out p hpm
        have hl2 := (hl wr (Below.refl _ _)).2
        have hyl : y.l.length ≤ 100000 := by have := hLen.out; omega
        have hbx : Below wr.heap.size wr (wr.alloc (.cells #[.int .i64 p.id, .int .i64 p.sec, .int .i64 p.off, .slice A1 (bytes p.data).length k1, .int .i64 p.kind, .slice A2 (ints p.needs).length k2, .int .i64 p.owner, .int .i64 p.child, .bool p.written] 30)) := (Below.refl _ _).alloc (Nat.le_refl _) _
        have HRdy := Lib.hid (ready_any g mb (n + k) y p.sec (wr.alloc (.cells #[.int .i64 p.id, .int .i64 p.sec, .int .i64 p.off, .slice A1 (bytes p.data).length k1, .int .i64 p.kind, .slice A2 (ints p.needs).length k2, .int .i64 p.owner, .int .i64 p.child, .bool p.written] 30)) (hg.alloc _).gr hX.out hyl hF.out)
        have HBeh := Lib.hid fun (W : World) (hW : Below wr.heap.size wr W) => behind_any g mb (n + k) y p A1 k1 A2 k2 W (hg.below hW).gr hX.out hyl hF.out (hpv.below hW) hpf.1
        have HPV := Lib.hid hpv
        have HQQ := Lib.hid hqq
        have HW1 := Lib.hid (show wr1 y p.id = if !(readyG y p.sec).contains p.id || behindB y p then (23, y) else (0, mark y p.id) from by unfold wr1; rw [hf'])
        have HFind := Lib.hid hf'
        have HN9 := Lib.hid (Blk.new wr 30 #[.int .i64 p.id, .int .i64 p.sec, .int .i64 p.off, .slice A1 (bytes p.data).length k1, .int .i64 p.kind, .slice A2 (ints p.needs).length k2, .int .i64 p.owner, .int .i64 p.child, .bool p.written])
        unfold Pt.val at hl2
        unfold Pt.val at HBeh
        clear hg hT hbk hcs hl hf' hid hpv hqq
        go_wp2_with fail
        refine HRdy.out.mono ?_
        rintro e w2 ⟨r, rfl, hr, hb2⟩
        have HR := Lib.hid hr.arr
        have HB2 := Lib.hid (hbx.trans (hb2.mono (by simp)))
        have h9 := HN9.out.below hb2 (by simp)
        have hs2 : wr.heap.size < w2.heap.size := h9.lt
        have H9 := Lib.hid h9
        have d := h9.cell
        have d0 := d 0
        have d1 := d 1
        have d2 := d 2
        have d3 := d 3
        have d4 := d 4
        have d5 := d 5
        have d6 := d 6
        have d7 := d 7
        have d8 := d 8
        simp at d0 d1 d2 d3 d4 d5 d6 d7 d8
        clear hr hb2 d h9 hbx
        go_wp2_with fail
        refine (contains_any r (readyG y p.sec) p.id w2 HR.out).mono ?_
        rintro e w2b ⟨rfl, hw2b⟩
        subst w2b
        cases hc : (readyG y p.sec).contains p.id with
        | false =>
          have HE := Lib.hid (show writeG x L = (23, y) by rw [hW.out, HON.out, HW1.out, hc]; rfl)
          clear hc
          go_wp2
          go_ret
          exact ⟨by rw [HE.out]; rfl, by rw [HE.out]; exact (HGk.out.below HB2.out).mono (by omega), HT.out.trans (Turn.of_below (S := fun _ => False) HB2.out) (fun i hi e => e.elim)⟩
        | true =>
          have HC := Lib.hid hc
          clear hc
          go_wp2_with fail
          refine (HBeh.out w2 HB2.out).mono ?_
          rintro e w3 ⟨rfl, hb3⟩
          have HB3 := Lib.hid (HB2.out.trans (hb3.mono HB2.out.size))
          have hs3 := hb3.size
          have h9 := H9.out.below hb3 H9.out.lt
          cases hh : behindB y p with
          | true =>
            have HE := Lib.hid (show writeG x L = (23, y) by rw [hW.out, HON.out, HW1.out, HC.out, hh]; rfl)
            clear hh hb3 h9
            go_wp2
            go_ret
            exact ⟨by rw [HE.out]; rfl, by rw [HE.out]; exact (HGk.out.below HB3.out).mono (by omega), HT.out.trans (Turn.of_below (S := fun _ => False) HB3.out) (fun i hi e => e.elim)⟩
          | false =>
            have HE := Lib.hid (show writeG x L = writeG (mark y p.id) (L.drop (k + 1)) by rw [hW.out, HON.out, HW1.out, HC.out, hh]; rfl)
            obtain ⟨hgb, f, hm, hho⟩ := HGk.out.below HB3.out
            have hX4 := h9.set_ 8 (.bool true)
            have T4 : Turn (fun j => j = wr.heap.size) w3 (w3.setCell ⟨wr.heap.size, 8, none⟩ (.bool true)) := (Turn.refl (fun j => j = wr.heap.size) w3).setCell (p := ⟨wr.heap.size, 8, none⟩) (fun _ => rfl) (.bool true)
            have hmbn : ¬ mb = wr.heap.size := fun e => absurd HGk.out.ltm (by omega)
            have hm4 := hm.turn T4 hmbn
            have hg4 := hgb.turn T4 (fun e => absurd HGk.out.lt (by omega))
            have hP4 : PtV (w3.setCell ⟨wr.heap.size, 8, none⟩ (.bool true)) _ p := (HPV.out.below HB3.out).move fun i t cs ht kk => kk.turn T4 fun e => kk.ne_ h9 (by rcases ht with rfl | rfl <;> decide) e
            have hh4 : HoldsQ Q (w3.setCell ⟨wr.heap.size, 8, none⟩ (.bool true)) f y := hho.move fun i t cs ht kk => kk.turn T4 fun e => kk.ne_ h9 (by rcases ht with rfl | rfl <;> decide) e
            have f8 := h9.frozen 8
            have l3 : wr.heap.size < w3.heap.size := h9.lt
            have c8 := h9.cell 8
            simp at c8
            have HTT := Lib.hid ((Turn.of_below (S := fun _ => False) HB3.out).trans (S' := fun j => j = wr.heap.size) T4 (fun i hi e => by omega))
            clear hh hb3 hgb hm hho T4 d0 d1 d2 d3 d4 d5 d6 d7 d8
            obtain ⟨w5, hupd, hm5, hg5⟩ := hm4.drew.store Try.underlying77 (by unfold maxLen; omega) hkw (Value.agg #[.int .i64 p.id, .int .i64 p.sec, .int .i64 p.off, .slice A1 (bytes p.data).length k1, .int .i64 p.kind, .slice A2 (ints p.needs).length k2, .int .i64 p.owner, .int .i64 p.child, .bool true])
            have HM5 := Lib.hid hm5
            have HG5 := Lib.hid hg5
            have HM4 := Lib.hid hm4
            have HGB4 := Lib.hid hg4
            have HP4 := Lib.hid hP4
            have HH4 := Lib.hid hh4
            have hX5 : Blk (w3.setCell ⟨wr.heap.size, 8, none⟩ (.bool true)) wr.heap.size 30 #[.int .i64 p.id, .int .i64 p.sec, .int .i64 p.off, .slice A1 (bytes p.data).length k1, .int .i64 p.kind, .slice A2 (ints p.needs).length k2, .int .i64 p.owner, .int .i64 p.child, .bool true] := by simpa using hX4
            have HX5 := Lib.hid hX5
            clear hm5 hg5 hm4 hg4 hP4 hh4 hX4 hX5 h9
            go_wp2_with fail
            generalize w3.setCell ⟨wr.heap.size, 8, none⟩ (.bool true) = w4 at *
            have d := HX5.out.cell
            have d0 := d 0
            have d1 := d 1
            have d2 := d 2
            have d3 := d 3
            have d4 := d 4
            have d5 := d 5
            have d6 := d 6
            have d7 := d 7
            have d8 := d 8
            have dg := HGB4.out.cell 1
            simp at d0 d1 d2 d3 d4 d5 d6 d7 d8 dg
            clear d f8 l3 c8
            go_region
            have T5 := turn_of_grown HG5.out
            have HGR := Lib.hid (show GrQ Q w5 g mb (n + (k + 1)) (mark y p.id) from ⟨HGB4.out.drew.turn T5 (fun e => HGk.out.ne e.symm), _, HM5.out, by
              have hmv : ∀ i t cs, (t = 3 ∨ t = 5) → Blk w4 i t cs → Blk w5 i t cs := fun i t cs ht kk => kk.drew.turn T5 fun e => HM4.out.not_blk kk e.symm
              intro z
              rw [mark_find]
              have hz := HH4.out z
              by_cases e : z = p.id
              · subst e
                rw [HFind.out]
                show ∃ vd vn, upd f p.id _ p.id = some ((if p.id = p.id then p.done else p).val vd vn) ∧ Arr w5 5 vd (bytes (if p.id = p.id then p.done else p).data) ∧ Arr w5 3 vn (ints (if p.id = p.id then p.done else p).needs) ∧ Q vd vn
                rw [if_pos rfl]
                obtain ⟨hd, hn'⟩ := PtV.parts' HP4.out
                exact ⟨_, _, upd_same _ _ _, hd.move fun i cs kk => hmv i 5 cs (.inr rfl) kk, hn'.move fun i cs kk => hmv i 3 cs (.inl rfl) kk, HQQ.out⟩
              · cases hfz : y.find z with
                | none =>
                  rw [hfz] at hz
                  exact (upd_other _ _ e).trans hz
                | some q =>
                  rw [hfz] at hz
                  obtain ⟨vd, vn, ev, hd, hn', hq'⟩ := hz
                  show ∃ vd vn, _ = some ((if q.id = p.id then q.done else q).val vd vn) ∧ Arr w5 5 vd (bytes (if q.id = p.id then q.done else q).data) ∧ Arr w5 3 vn (ints (if q.id = p.id then q.done else q).needs) ∧ Q vd vn
                  rw [if_neg (by rw [(find_mem hfz).2]; exact e)]
                  exact ⟨vd, vn, (upd_other _ _ e).trans ev, hd.move fun i cs kk => hmv i 5 cs (.inr rfl) kk, hn'.move fun i cs kk => hmv i 3 cs (.inl rfl) kk, hq'⟩⟩)
            have HT5 := Lib.hid ((HT.out.trans HTT.out (fun i hi e => e.elim)).drew.trans (S' := fun j => j = mb) T5 (fun i hi e => e))
            clear T5 hupd d0 d1 d2 d3 d4 d5 d6 d7 d8 dg
            go_wp2
            go_roundw
            case rel => exact ⟨k + 1, mark y p.id, by omega, by go_num, HGR.out, HT5.out, HE, mark_rise hX.out _, mark_fit hF.out _, by unfold Hid; rw [mark_len]; exact hLen.out⟩
            case measure => simp [intOf]; omega
      · have hl2 := (hl wr (Below.refl _ _)).2
        have h5 : wr1 y id = (5, y) := by unfold wr1; rw [hf']
        have HE := Lib.hid (show writeG x L = (5, y) by rw [hW.out, HON.out, h5]; rfl)
        unfold zeroV at hl2
        clear hg hT hbk hcs hl hf' h5 hid
        go_wp2
        go_ret
        exact ⟨by rw [HE.out]; rfl, by rw [HE.out]; exact (HGk.out.alloc _).mono (by omega), HT.out.alloc _⟩
    · obtain rfl : k = L.length := by omega
      have HE := Lib.hid (show writeG x L = (0, y) by rw [hW.out, List.drop_length]; rfl)
      clear hg hT
      go_wp2
      go_ret
      exact ⟨by rw [HE.out]; rfl, by rw [HE.out]; exact HGk.out, HT.out⟩
end Go.Proofs.Ytmkfaibjjbgbbaa
