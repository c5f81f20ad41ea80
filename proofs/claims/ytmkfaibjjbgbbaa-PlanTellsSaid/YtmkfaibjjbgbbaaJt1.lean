/- made of package scupperlaw16. A list of patches among the inputs, as it lies. All, Written, By, About, Ready of package scupperref14. settle, Settle, SettleAll of package scupperref14. -/
import Derived.Test.YtmkfaibjjbgbbaaRwrite
import Derived.Test.YtmkfaibjjbgbbaaOpen
import Derived.Test.YtmkfaibjjbgbbaaAllLaw
namespace Go.Proofs.Ytmkfaibjjbgbbaa
open Go.RowKit
set_option linter.unusedVariables false
attribute [local go_sem ↓] Go.wp_at_zero Go.wp_at_succ

/-- A list of patches as it lies among the inputs. -/
def PatsR (w : World) (A : Option Addr) (n : Nat) (l : List PtD) : Prop :=
  l.length = n ∧ ∀ (i : Nat) (a : PtD), l[i]? = some a → (∃ g o, A = some ⟨g, o, none⟩ ∧ g < w.heap.size ∧ ∀ (j : Nat) (u : Value), (a.p.cells a.vd a.vn)[j]? = some u → w.cell? ⟨g, o + i * 9 + j, none⟩ = some u) ∧ Row w a.vd (bytes a.p.data) ∧ Row w a.vn (ints a.p.needs)

def intoF (last k : Int) : Int := 1 + amongF k last
def mkPt (p : Pt) (last : Int) : Pt := if 0 < last then { p.few with needs := p.few.needs.map (intoF last) } else p.few
theorem mkPt_len (p : Pt) (last : Int) : (mkPt p last).data.length ≤ 70 ∧ (mkPt p last).needs.length ≤ 6 := by
  unfold mkPt Pt.few
  split <;> simp <;> omega
theorem few_same {p : Pt} (h1 : p.data.length ≤ 70) (h2 : p.needs.length ≤ 6) : p.few = p := by
  unfold Pt.few
  rw [List.take_of_length_le h1, List.take_of_length_le h2]

theorem RG.turn {S : Nat → Prop} {w w' : World} {b : Nat} {x : G} (h : RG w b x) (hT : Turn S w w') (hS : ∀ j t cs, S j → Blk w j t cs → t ≠ 91 ∧ t ≠ 3 ∧ t ≠ 5 ∧ t ≠ 30) : RG w' b x := by
  obtain ⟨v, h1, h2⟩ := h
  exact ⟨v, h1.turn hT (fun e => (hS _ _ _ e h1).1 rfl), h2.move fun g t cs ht k => k.turn hT (fun e => by
    obtain ⟨-, a, b, c⟩ := hS _ _ _ e k
    rcases ht with rfl | rfl | rfl
    · exact a rfl
    · exact b rfl
    · exact c rfl)⟩
theorem Gr.turnT {w w' : World} {g mb n : Nat} {x : G} {S : Nat → Prop} (h : Gr w g mb n x) (hT : Turn S w w') (hS : ∀ j, S j → ∃ cs, Blk w j 91 cs) : Gr w' g mb n x := by
  obtain ⟨hg, f, hm, hh⟩ := h
  refine ⟨hg.turn hT (fun e => by obtain ⟨cs, h'⟩ := hS _ e; exact absurd rfl (hg.ne_ h' (by decide))), f, hm.turn hT (fun e => by obtain ⟨cs, h'⟩ := hS _ e; exact hm.not_blk h' rfl), hh.move fun k t cs ht kk => kk.turn hT fun e => ?_⟩
  obtain ⟨cs', h'⟩ := hS _ e
  exact absurd rfl (kk.ne_ h' (by rcases ht with rfl | rfl <;> decide))
/-- What a write of package graph turns is no list and no graph of the reference. -/
theorem Gr.none_of {w : World} {g mb n : Nat} {x : G} (h : Gr w g mb n x) : ∀ j t cs, (j = g ∨ j = mb) → Blk w j t cs → t ≠ 91 ∧ t ≠ 3 ∧ t ≠ 5 ∧ t ≠ 30 := by
  intro j t cs hj hb
  obtain ⟨hg, f, hm, hh⟩ := h
  rcases hj with rfl | rfl
  · have : t = 79 := by
      have e : j ≠ j ∨ t = 79 := by
        by_cases ht : t = 79
        · exact .inr ht
        · exact .inl (hb.ne_ hg ht)
      exact e.resolve_left (fun h => h rfl)
    subst this
    exact ⟨by decide, by decide, by decide, by decide⟩
  · exact absurd rfl (hm.not_blk hb)
theorem add_needs {x : G} (h : ∀ q ∈ x.l, q.needs.length ≤ 1000) {p : Pt} (hp : p.needs.length ≤ 1000) : ∀ q ∈ (addG x p).2.2.l, q.needs.length ≤ 1000 := by
  unfold addG
  split
  · intro q hq
    rcases List.mem_append.1 hq with hq | hq
    · exact h q hq
    · rw [List.mem_singleton.1 hq]; exact hp
  · exact h
theorem add_cnt {x : G} (h : (x.l.length : Int) ≤ x.last) (p : Pt) : ((addG x p).2.2.l.length : Int) ≤ (addG x p).2.2.last := by
  unfold addG
  split
  · show ((x.l ++ [p.as (x.last + 1)]).length : Int) ≤ x.last + 1
    rw [List.length_append]
    simp
    omega
  · exact h
theorem Young.fine {x : G} (h : Young x) (hn : ∀ q ∈ x.l, q.needs.length ≤ 1000) (hl : x.l.length ≤ 1000) : Fine x :=
  ⟨h.rise, hl, fun p hp => ⟨(h.all p hp).2.1, (h.all p hp).2.2.1, (h.all p hp).2.2.2.1, hn p hp⟩⟩
theorem Fine.mark {x : G} (h : Fine x) (k : Int) : Fine (mark x k) := h.like (mark_rise h.rise k) (un_mark x k)
theorem write_fine {x : G} (h : Fine x) (id : Int) : Fine (writeG x [id]).2 ∧ (writeG x [id]).2.l.length = x.l.length ∧ (writeG x [id]).2.last = x.last := by
  have key : (writeG x [id]).2 = x ∨ (writeG x [id]).2 = mark x id := by
    show (if (wr1 x id).1 = 0 then writeG (wr1 x id).2 [] else ((wr1 x id).1, x)).2 = x ∨ (if (wr1 x id).1 = 0 then writeG (wr1 x id).2 [] else ((wr1 x id).1, x)).2 = _
    unfold wr1
    cases hf : x.find id with
    | none => left; rfl
    | some p =>
      dsimp only
      split
      · left; rfl
      · right; rfl
  rcases key with e | e
  · rw [e]; exact ⟨h, rfl, rfl⟩
  · rw [e]; exact ⟨h.mark id, mark_len x id, rfl⟩

theorem Row.at_int {w : World} {B : Option Addr} {n d : Nat} {ids : List Int} (h : Row w (.slice B n d) (ints ids)) : ∀ (k : Nat) (y : Int), ids[k]? = some y → ∃ g o, B = some ⟨g, o, none⟩ ∧ g < w.heap.size ∧ w.cell? ⟨g, o + k, none⟩ = some (.int .i64 y) := by
  intro k y hy
  obtain ⟨A, c, e, h1, h2, h0, h3⟩ := h
  injection e with e1 e2 e3
  subst e1
  have hk : k < ids.length := by
    rcases Nat.lt_or_ge k ids.length with h | h
    · exact h
    · rw [List.getElem?_eq_none h] at hy; cases hy
  rw [ints_len] at h1
  cases B with
  | none => have := h0 rfl; omega
  | some ad =>
    obtain ⟨z, hz⟩ : ∃ z, ids[0]? = some z := ⟨_, List.getElem?_eq_getElem (by omega)⟩
    have h00 := (h3 ad rfl 0 _ (ints_at hz)).2
    have hs : ad.spot = none := by simpa [Addr.add] using World.cell?_spot h00
    obtain ⟨b, o, sp⟩ := ad
    simp only at hs
    subst hs
    obtain ⟨h4, h5⟩ := h3 _ rfl k _ (ints_at hy)
    rw [add_at] at h5
    exact ⟨b, o, rfl, h4, h5⟩

set_option maxHeartbeats 4000000 in
set_option maxRecDepth 100000 in
theorem made_any2 (A : Option Addr) (n c : Nat) (l : List PtD) (v : Value) (ids : List Int) (w : World) (hA : PatsR w A n l) (hn : n ≤ c) (hc : c ≤ 9223372036854775807) (hv : Row w v (ints ids)) (hk : ∀ k ∈ ids, (key k).wf = true) :
    Calls Try.prog 32 #[.slice A n c, v] w fun e w' => ∃ g mb b nb x, e = .returned (.tuple #[.pointer (some ⟨g, 0, none⟩), .pointer (some ⟨b, 0, none⟩)]) ∧ Gr w' g mb nb x ∧ RG w' b x ∧ Fine x ∧ Due x ∧ x.l.length ≤ 30 ∧ nb ≤ 100 ∧ Below w.heap.size w w' ∧ w.heap.size ≤ g ∧ w.heap.size ≤ mb ∧ w.heap.size ≤ b ∧ ((x.l.length : Int) ≤ x.last ∧ x.last ≤ 30) := by
  have HA := Lib.hid hA
  have HV := Lib.hid hv
  have HK := Lib.hid hk
  clear hA hv hk
  obtain ⟨B, d, rfl, v1, v2, -, -⟩ := HV.out
  rw [ints_len] at v1 HV ⊢
  unfold maxLen at v2
  go_enter Try.func32, Try.ntmps32
  go_wp2_with fail
  refine (new_any w).mono ?_
  rintro e w1 ⟨g, mb, rfl, hG1, hb1, hgn, hmn⟩
  have HB1 := Lib.hid hb1
  have HG1 := Lib.hid hG1
  have hs1 := hb1.size
  clear hG1 hb1
  go_wp2_with fail
  refine (rnew_any w1).mono ?_
  rintro e w2 ⟨b, rfl, hR2, hb2, hbn⟩
  have HB2 := Lib.hid (HB1.out.trans (hb2.mono hs1))
  have HG2 := Lib.hid (HG1.out.below hb2)
  have HR2 := Lib.hid hR2
  clear hR2 hb2
  go_wp2_with fail
  go_loopw [8] (fun i wr => ∃ k : Nat, k ≤ n ∧ k ≤ 30 ∧ i = .int .i64 k ∧ ∃ x : G, Hid (Young x ∧ x.l.length ≤ k ∧ (∀ q ∈ x.l, q.needs.length ≤ 1000) ∧ (x.l.length : Int) ≤ x.last) ∧ x.last ≤ k ∧ Gr wr g mb k x ∧ RG wr b x ∧ Below w.heap.size w wr) (fun i _ => n - (intOf i).toNat)
  case atStart => exact ⟨0, Nat.zero_le _, by omega, rfl, G.none, ⟨Young.none, Nat.le_refl _, (fun q h => by cases h), by decide⟩, by decide, HG2.out, HR2.out, HB2.out⟩
  case round =>
    rename World => wo
    obtain ⟨k, hk, hk30, rfl, x, hY, hlast, hG, hR, hbel⟩ := hrel
    have HG := Lib.hid hG
    have HR := Lib.hid hR
    have HB := Lib.hid hbel
    have hsz := hbel.size
    have hl0 := hY.out.1.last.1
    by_cases hlt : k < n ∧ k < 30
    · obtain ⟨hlt, hlt30⟩ := hlt
      obtain ⟨a, ha⟩ : ∃ a, l[k]? = some a := ⟨_, List.getElem?_eq_getElem (by rw [HA.out.1]; exact hlt)⟩
      obtain ⟨⟨gb, o, eA, hgb, hcs⟩, hrd, hrn⟩ := HA.out.2 k a ha
      subst eA
      have HC := Lib.hid fun (j : Nat) (u : Value) (h : (a.p.cells a.vd a.vn)[j]? = some u) => (hbel.cell (p := ⟨gb, o + k * 9 + j, none⟩) hgb).trans (hcs j u h)
      have c0 : wo.cell? ⟨gb, o + k * 9, none⟩ = some (.int .i64 a.p.id) := HC.out 0 _ rfl
      have c1 : wo.cell? ⟨gb, o + k * 9 + 1, none⟩ = some (.int .i64 a.p.sec) := HC.out 1 _ rfl
      have c2 : wo.cell? ⟨gb, o + k * 9 + 2, none⟩ = some (.int .i64 a.p.off) := HC.out 2 _ rfl
      have c3 : wo.cell? ⟨gb, o + k * 9 + 3, none⟩ = some (a.vd) := HC.out 3 _ rfl
      have c4 : wo.cell? ⟨gb, o + k * 9 + 4, none⟩ = some (.int .i64 a.p.kind) := HC.out 4 _ rfl
      have c5 : wo.cell? ⟨gb, o + k * 9 + 5, none⟩ = some (a.vn) := HC.out 5 _ rfl
      have c6 : wo.cell? ⟨gb, o + k * 9 + 6, none⟩ = some (.int .i64 a.p.owner) := HC.out 6 _ rfl
      have c7 : wo.cell? ⟨gb, o + k * 9 + 7, none⟩ = some (.int .i64 a.p.child) := HC.out 7 _ rfl
      have c8 : wo.cell? ⟨gb, o + k * 9 + 8, none⟩ = some (.bool a.p.written) := HC.out 8 _ rfl
      have i1 : (0 : Int) ≤ (k : Int) := by omega
      have i2 : (k : Int) < (n : Int) := by omega
      have hFew := few_any a.vd a.vn a.p wo (hrd.below hbel) (hrn.below hbel)
      have hq6 : a.p.few.needs.length ≤ 6 := by unfold Pt.few; simp; omega
      have HQ := Lib.hid (show mkPt a.p x.last = if 0 < x.last then { a.p.few with needs := a.p.few.needs.map (intoF x.last) } else a.p.few from rfl)
      have HQl := Lib.hid (mkPt_len a.p x.last)
      have HFew := Lib.hid hFew
      clear hG hR hbel ha hgb hcs hrd hrn HC hFew
      obtain ⟨⟨pid, psec, poff, pdata, pkind, pneeds, pown, pch, pwr⟩, vd, vn⟩ := a
      simp only at c0 c1 c2 c3 c4 c5 c6 c7 c8 HFew HQ HQl hq6
      generalize Pt.few ⟨pid, psec, poff, pdata, pkind, pneeds, pown, pch, pwr⟩ = q at *
      generalize mkPt ⟨pid, psec, poff, pdata, pkind, pneeds, pown, pch, pwr⟩ x.last = pn at *
      unfold Pt.val at HFew
      simp only at HFew
      go_wp2_with fail
      refine HFew.out.mono ?_
      rintro e w3 ⟨ud, un, rfl, hu, hun, hap, hb3⟩
      obtain ⟨A1, m1, k1, rfl⟩ := owns_shape hu
      obtain ⟨A2, m2, k2, rfl⟩ := owns_shape hun
      obtain rfl : m2 = q.needs.length := by
        obtain ⟨A', c', e, _⟩ := hun.arr.len
        injection e with _ e _
        rw [ints_len] at e
        exact e
      have hs3 := hb3.size
      have HU3 := Lib.hid hu
      have HN3 := Lib.hid hun
      have HAp := Lib.hid hap
      have HB3 := Lib.hid hb3
      have HB3s := hb3.size
      clear hu hun hap hb3 HFew c0 c1 c2 c3 c4 c5 c6 c7 c8
      go_wp2_with fail
      obtain ⟨w4, hw4⟩ : ∃ w4, w4 = w3.alloc (.cells #[.int .i64 q.id, .int .i64 q.sec, .int .i64 q.off, .slice A1 m1 k1, .int .i64 q.kind, .slice A2 q.needs.length k2, .int .i64 q.owner, .int .i64 q.child, .bool q.written] 30) := ⟨_, rfl⟩
      rw [← hw4]
      obtain ⟨b9, hb9⟩ : ∃ b9, b9 = w3.heap.size := ⟨_, rfl⟩
      have HX4 := Lib.hid (show Blk w4 b9 30 #[.int .i64 q.id, .int .i64 q.sec, .int .i64 q.off, .slice A1 m1 k1, .int .i64 q.kind, .slice A2 q.needs.length k2, .int .i64 q.owner, .int .i64 q.child, .bool q.written] from by rw [hw4, hb9]; exact Blk.new _ _ _)
      have HB4 := Lib.hid (show Below wo.heap.size wo w4 from by rw [hw4]; exact HB3.out.alloc HB3.out.size _)
      have HU4 := Lib.hid (show w4.ownsRow wo.heap.size 5 1 (.slice A1 m1 k1) q.data.length (bytes q.data) from by rw [hw4]; exact World.ownsRow.alloc HU3.out _)
      have HN4 := Lib.hid (show Built wo.heap.size w4 (.slice A2 q.needs.length k2) q.needs from by rw [hw4]; exact World.ownsRow.alloc HN3.out _)
      have hlo : ∀ j, (Value.slice A2 q.needs.length k2).ownBlock = some j → wo.heap.size ≤ j ∧ j < b9 := fun j hj => by
        have h1 := HN3.out.own j hj
        rw [hb9]; exact h1
      have HLo := Lib.hid hlo
      have hs4 : w3.heap.size < w4.heap.size := by rw [hw4]; simp
      have hb9o : wo.heap.size ≤ b9 := by rw [hb9]; exact HB3s
      rw [← hb9]
      rw [← hb9] at hs4
      clear hw4 hb9 HU3 HN3 HB3 hlo
      go_loopw [10] (fun i W => ∃ j : Nat, j ≤ q.needs.length ∧ i = .int .i64 j ∧ Turn (fun j => (Value.slice A2 q.needs.length k2).ownBlock = some j) w4 W ∧ Built wo.heap.size W (.slice A2 q.needs.length k2) (mixF (intoF x.last) j q.needs) ∧ Hid (j = 0 ∨ 0 < x.last)) (fun i _ => q.needs.length - (intOf i).toNat)
      case atStart => exact ⟨0, Nat.zero_le _, rfl, Turn.refl _ _, by rw [mix_zero]; exact HN4.out, .inl rfl⟩
      case round =>
        obtain ⟨j, hj, rfl, hT, hO, hC⟩ := hrel
        have HT := Lib.hid hT
        have HO := Lib.hid hO
        have hX := HX4.out.turn hT (fun e => by have := (HLo.out _ e).2; omega)
        have hW : Below wo.heap.size wo wr := HB4.out.trans (hT.below (B := wo.heap.size) HB4.out.size (fun i hi e => by have := (HLo.out _ e).1; omega))
        have HW := Lib.hid hW
        obtain ⟨rv, hRb, -⟩ := HR.out.below hW
        have y0 := hRb.cell 0
        have x5 := hX.cell 5
        simp at y0 x5
        have hsz2 := hT.size
        have lb : b < wr.heap.size := hRb.lt
        have l9 : b9 < wr.heap.size := hX.lt
        by_cases hc : j < q.needs.length ∧ 0 < x.last
        · obtain ⟨hlt, hlast0⟩ := hc
          obtain ⟨y, hy⟩ : ∃ y, q.needs[j]? = some y := ⟨_, List.getElem?_eq_getElem hlt⟩
          obtain ⟨gn, c3, e, hgl, hgw⟩ := World.ownsRow.form hO (by rw [mix_len]; omega)
          injection e with eB e1 e2
          subst eB e2
          clear e1
          have hO' : wr.ownsRow wo.heap.size 3 1 (.slice (some ⟨gn, 0, none⟩) q.needs.length k2) q.needs.length (ints (mixF (intoF x.last) j q.needs)) := by
            have h := hO
            unfold Built at h
            rw [mix_len] at h
            exact h
          have hcg : wr.cell? ⟨gn, j, none⟩ = some (.int .i64 y) := (World.ownsRow.cellAt hO' j (by omega)).trans (ints_at (mix_at _ hy))
          have hfg := World.ownsRow.frozenAt hO' j
          obtain ⟨hst, hgr⟩ := World.ownsRow.stored hO' j (.int .i64 (intoF x.last y))
          have hbd := among_bd y x.last (by omega)
          have HBn := Lib.hid (show IntKind.i64.wrap (1 + amongF y x.last) = intoF x.last y from IntWalk.i64_in _ (by omega) |>.trans rfl)
          have HST := Lib.hid (show Built wo.heap.size (wr.setCell ⟨gn, j, none⟩ (.int .i64 (intoF x.last y))) (.slice (some ⟨gn, 0, none⟩) q.needs.length k2) (mixF (intoF x.last) (j + 1) q.needs) from by
            unfold Built
            rw [mix_len, ← mix_on _ hy]
            have := hst
            unfold ints at this ⊢
            rwa [← List.map_set] at this)
          have HTT := Lib.hid ((HT.out.setCell (p := ⟨gn, j, none⟩) (fun _ => rfl) (.int .i64 (intoF x.last y))))
          have HMl := Lib.hid fun (W : World) => among_any y x.last W (by omega) (by omega)
          clear hX hT hO hO' hst hgr hy hW hRb
          go_wp2_with fail
          go_region_with (go_at_call 12; refine (HMl.out _).mono ?_; rintro e wx ⟨rfl, rfl⟩)
          all_goals
            rw [HBn.out]
            go_wp2
            go_roundw
            case rel => exact ⟨j + 1, by omega, by go_num, HTT.out.drew, HST.out, by unfold Hid; exact .inr (by simpa using hlast0)⟩
            case measure => simp [intOf]; omega
        · have HUk := Lib.hid (owns_keep HU4.out (fun jj hj' => HT.out.block jj (World.ownsRow.lt HU4.out jj hj').2 (fun e => HAp.out jj hj' e)))
          have HEnd := Lib.hid (show mixF (intoF x.last) j q.needs = pn.needs ∧ pn.id = q.id ∧ pn.sec = q.sec ∧ pn.off = q.off ∧ pn.data = q.data ∧ pn.kind = q.kind ∧ pn.owner = q.owner ∧ pn.child = q.child ∧ pn.written = q.written from by
            rw [HQ.out]
            by_cases hcc : 0 < x.last
            · rw [if_pos hcc]
              have : j = q.needs.length := by
                rcases Nat.lt_or_ge j q.needs.length with h | h
                · exact absurd ⟨h, hcc⟩ hc
                · omega
              subst this
              exact ⟨mix_all _ _, rfl, rfl, rfl, rfl, rfl, rfl, rfl, rfl⟩
            · rw [if_neg hcc]
              obtain rfl : j = 0 := (hC.out).resolve_right hcc
              exact ⟨mix_zero _ _, rfl, rfl, rfl, rfl, rfl, rfl, rfl, rfl⟩)
          have hVal := Lib.hid (show (Value.agg #[.int .i64 q.id, .int .i64 q.sec, .int .i64 q.off, .slice A1 m1 k1, .int .i64 q.kind, .slice A2 q.needs.length k2, .int .i64 q.owner, .int .i64 q.child, .bool q.written]) = pn.val (.slice A1 m1 k1) (.slice A2 q.needs.length k2) from by
            obtain ⟨-, e1, e2, e3, e4, e5, e6, e7, e8⟩ := HEnd.out
            unfold Pt.val
            rw [e1, e2, e3, e5, e6, e7, e8])
          have HPV := Lib.hid (show PtV wr (pn.val (.slice A1 m1 k1) (.slice A2 q.needs.length k2)) pn from by
            obtain ⟨e0, e1, e2, e3, e4, e5, e6, e7, e8⟩ := HEnd.out
            refine PtV.of_own (b := wo.heap.size) ?_ ?_
            · rw [e4]; exact HUk.out
            · rw [← e0]; exact HO.out)
          have HF2 := Lib.hid (show Calls Try.prog 48 #[.agg #[.int .i64 q.id, .int .i64 q.sec, .int .i64 q.off, .slice A1 m1 k1, .int .i64 q.kind, .slice A2 q.needs.length k2, .int .i64 q.owner, .int .i64 q.child, .bool q.written]] wr _ from by
            rw [hVal.out]
            exact few_any _ _ pn wr (Row.of_arr HPV.out.parts'.1) (Row.of_arr HPV.out.parts'.2))
          rw [few_same HQl.out.1 HQl.out.2] at HF2
          have hcx := hX.cell
          have y0 := hcx 0
          have y1 := hcx 1
          have y2 := hcx 2
          have y3 := hcx 3
          have y4 := hcx 4
          have y6 := hcx 6
          have y7 := hcx 7
          have y8 := hcx 8
          simp at y0 y1 y2 y3 y4 y6 y7 y8
          have yb : wr.cell? ⟨b, 0, none⟩ = some (.int .i64 x.last) := by
            have h := hRb.cell 0
            simpa using h
          have HX := Lib.hid hX
          have hcases : (¬ j < q.needs.length) ∨ (j < q.needs.length ∧ ¬ 0 < x.last) := by
            by_cases h1 : j < q.needs.length
            · exact .inr ⟨h1, fun h => hc ⟨h1, h⟩⟩
            · exact .inl h1
          have HGw := Lib.hid (HG.out.below hW)
          have HRw := Lib.hid (HR.out.below hW)
          have HBw := Lib.hid (HB.out.trans (hW.mono hsz))
          have hgo : g < wo.heap.size ∧ mb < wo.heap.size ∧ b < wo.heap.size := ⟨HG.out.lt, HG.out.ltm, HR.out.lt⟩
          obtain ⟨hgo1, hgo2, hgo3⟩ := hgo
          clear hc hcx hX hW hRb hT hO HX4 HB4 HU4 HN4 HT HO HW HEnd HQ HG HR HB
          rcases hcases with hge | ⟨hlt2, hge⟩
          all_goals
            go_wp2_with fail
            refine HF2.out.mono ?_
            rintro e w5 ⟨ud, un, rfl, hu, hun, -, hb5⟩
            have HV5 := Lib.hid (PtV.of_own hu hun)
            have hs5 := hb5.size
            have HG5 := Lib.hid (HGw.out.below hb5)
            have HR5 := Lib.hid (HRw.out.below hb5)
            have HX5 := Lib.hid (HX.out.below hb5 l9)
            have HP5 := Lib.hid (HPV.out.below hb5)
            have HB5 := Lib.hid (HBw.out.trans (hb5.mono HBw.out.size))
            clear hu hun hb5 HF2 y0 y1 y2 y3 y4 y6 y7 y8 yb
            have HAdd := Lib.hid (add_any g mb k x _ pn _ HG5.out HV5.out (by have := HQl.out.1; omega) (by have := HQl.out.2; omega) hl0 (by omega) (by omega) (fun p hp => (hY.out.1.all p hp).2.2.2.2))
            go_wp2_with fail
            refine HAdd.out.mono ?_
            rintro e w6 ⟨rfl, hG6, hT6⟩
            have HG6 := Lib.hid hG6
            have HR6 := Lib.hid (HR5.out.turn hT6 HG5.out.none_of)
            have hX6 := HX5.out.turn hT6 (by omega)
            have HP6 := Lib.hid (HP5.out.move (fun jj t cs ht kk => kk.turn hT6 (fun e => by
              obtain ⟨-, a, b, -⟩ := HG5.out.none_of jj t cs e kk
              rcases ht with rfl | rfl
              · exact a rfl
              · exact b rfl)))
            have HB6 := Lib.hid (below_turn HB5.out hT6 (fun i hi e => by omega))
            have hs6 := hT6.size
            have HR2' := Lib.hid (show Calls Try.prog 62 #[.pointer (some ⟨b, 0, none⟩), .agg #[.int .i64 q.id, .int .i64 q.sec, .int .i64 q.off, .slice A1 m1 k1, .int .i64 q.kind, .slice A2 q.needs.length k2, .int .i64 q.owner, .int .i64 q.child, .bool q.written]] w6 _ from by
              rw [hVal.out]
              exact radd_any b x _ pn w6 HR6.out HP6.out (by have := HQl.out.1; omega) (by have := HQl.out.2; omega) hl0 (by omega) (by have := hY.out.2.1; omega))
            have hcx := hX6.cell
            have y0 := hcx 0
            have y1 := hcx 1
            have y2 := hcx 2
            have y3 := hcx 3
            have y4 := hcx 4
            have y5 := hcx 5
            have y6 := hcx 6
            have y7 := hcx 7
            have y8 := hcx 8
            simp at y0 y1 y2 y3 y4 y5 y6 y7 y8
            have l96 := hX6.lt
            have HY6 := Lib.hid (show Young (addG x pn).2.2 ∧ (addG x pn).2.2.l.length ≤ k + 1 ∧ (∀ q ∈ (addG x pn).2.2.l, q.needs.length ≤ 1000) ∧ (addG x pn).2.2.last ≤ (k : Int) + 1 ∧ ((addG x pn).2.2.l.length : Int) ≤ (addG x pn).2.2.last from by
              obtain ⟨a1, a2, a3, -, -⟩ := hY.out.1.add pn (by omega)
              have h1 := hY.out.2.1
              exact ⟨a1, by omega, add_needs hY.out.2.2.1 (by have := HQl.out.2; omega), by omega, add_cnt hY.out.2.2.2 pn⟩)
            clear hG6 hT6 hX6 hcx HAdd HV5 HG5 HR5 HX5 HP5 HB5
            generalize addG x pn = r at *
            obtain ⟨rid, rer, x'⟩ := r
            simp only at HG6 HY6 HR2'
            go_wp2_with fail
            refine HR2'.out.mono ?_
            rintro e w7 ⟨rfl, hR7, hT7⟩
            have HR7 := Lib.hid hR7
            have HG7 := Lib.hid (HG6.out.turnT hT7 (fun jj e => by obtain ⟨rv, h1, -⟩ := HR6.out; rw [e]; exact ⟨_, h1⟩))
            have HB7 := Lib.hid (below_turn HB6.out hT7 (fun i hi e => by omega))
            clear hR7 hT7 HR2' HG6 HR6 HP6 HB6 y0 y1 y2 y3 y4 y5 y6 y7 y8
            go_wp2_with fail
            go_roundw
            case rel => exact ⟨k + 1, by omega, by omega, by go_num, x', ⟨HY6.out.1, HY6.out.2.1, HY6.out.2.2.1, HY6.out.2.2.2.2⟩, by have := HY6.out.2.2.2.1; omega, HG7.out, HR7.out, HB7.out⟩
            case measure => simp [intOf]; omega
    · have hcases : (¬ k < n) ∨ (k < n ∧ ¬ k < 30) := by
        by_cases h : k < n
        · exact .inr ⟨h, fun h2 => hlt ⟨h, h2⟩⟩
        · exact .inl h
      clear hlt
      have HF0 := Lib.hid (show Fine x ∧ Due x ∧ ((x.l.length : Int) ≤ x.last ∧ x.last ≤ 30) from ⟨hY.out.1.fine hY.out.2.2.1 (by have := hY.out.2.1; omega), (fun p hp hw => by rw [(hY.out.1.all p hp).1] at hw; cases hw), ⟨hY.out.2.2.2, by omega⟩⟩)
      have hxl : x.l.length ≤ 30 := by have := hY.out.2.1; omega
      clear hY hG hR hbel
      rcases hcases with hge | ⟨hlt, hge⟩
      all_goals
        go_wp2_with fail
        go_loopw [11] (fun i wr => ∃ j : Nat, j ≤ ids.length ∧ j ≤ 4 ∧ i = .int .i64 j ∧ ∃ (y : G) (nb : Nat), Hid (Fine y ∧ Due y ∧ ((y.l.length : Int) ≤ y.last ∧ y.last ≤ 30)) ∧ y.l.length ≤ 30 ∧ nb ≤ 30 + j ∧ Gr wr g mb nb y ∧ RG wr b y ∧ Below w.heap.size w wr) (fun i _ => ids.length - (intOf i).toNat)
        case atStart => exact ⟨0, Nat.zero_le _, by omega, rfl, x, k, HF0, hxl, by omega, HG.out, HR.out, HB.out⟩
        case round =>
          clear HG HR HB HF0 hxl hlast hl0 hsz
          rename World => wp
          obtain ⟨j, hj, hj4, rfl, y, nb, hF, hyl, hnb, hG, hR, hbel⟩ := hrel
          have HG := Lib.hid hG
          have HR := Lib.hid hR
          have HB := Lib.hid hbel
          have hsz := hbel.size
          by_cases hlt : j < ids.length ∧ j < 4
          · obtain ⟨hlt, hlt4⟩ := hlt
            obtain ⟨id, hid⟩ : ∃ id, ids[j]? = some id := ⟨_, List.getElem?_eq_getElem hlt⟩
            obtain ⟨gv, ov, rfl, hgv, hcv⟩ := HV.out.at_int j id hid
            have c1 : wp.cell? ⟨gv, ov + j, none⟩ = some (.int .i64 id) := (hbel.cell (p := ⟨gv, ov + j, none⟩) hgv).trans hcv
            have hkw := HK.out id (List.mem_of_getElem? hid)
            have HW := Lib.hid (write_any g mb nb y _ [id] (wp.alloc (.cells #[.int .i64 id] 3)) (hG.alloc _) hF.out.1.rise (by omega) (fun p hp => (hF.out.1.all p hp).1) (Arr.one wp 3 (.int .i64 id)) (fun z hz => by rw [List.mem_singleton.1 hz]; exact hkw) (by simp) (by omega))
            have HRa := Lib.hid (hR.below ((Below.refl _ _).alloc (Nat.le_refl _) (.cells #[.int .i64 id] 3)))
            have HGa := Lib.hid (hG.alloc (.cells #[.int .i64 id] 3))
            have HBa := Lib.hid (hbel.alloc hsz (.cells #[.int .i64 id] 3))
            obtain ⟨f1, f2, f3⟩ := write_fine hF.out.1 id
            have HF2 := Lib.hid (show Fine (writeG y [id]).2 ∧ Due (writeG y [id]).2 ∧ (((writeG y [id]).2.l.length : Int) ≤ (writeG y [id]).2.last ∧ (writeG y [id]).2.last ≤ 30) from ⟨f1, (Clean.writeG [id] y hF.out.1.rise hF.out.2.1.clean).due, by rw [f2, f3]; exact hF.out.2.2⟩)
            have hmb : w.heap.size ≤ mb := by omega
            have hgvb : gv ≠ mb ∧ gv ≠ b ∧ gv < wp.heap.size := ⟨by omega, by omega, by omega⟩
            obtain ⟨hgm, hgb2, hgw⟩ := hgvb
            have HC1 := Lib.hid (show ∀ W, Turn (fun j => j = mb) (wp.alloc (.cells #[.int .i64 id] 3)) W → W.cell? ⟨gv, ov + j, none⟩ = some (.int .i64 id) from fun W hT => (World.cell?_of_block (a := ⟨gv, ov + j, none⟩) (hT.block gv (by simp; omega) hgm)).trans ((World.cell?_of_block (a := ⟨gv, ov + j, none⟩) (Below.heap_alloc wp _ gv hgw)).trans c1))
            clear hG hR hbel hid hcv f1 f3
            go_wp2_with fail
            refine HW.out.mono ?_
            rintro e w6 ⟨rfl, hG6, hT6⟩
            have HG6 := Lib.hid hG6
            have HR6 := Lib.hid (HRa.out.turn hT6 (fun jj t cs e kk => HGa.out.none_of jj t cs (.inr e) kk))
            have HB6 := Lib.hid (below_turn HBa.out hT6 (fun i hi e => by omega))
            have c2 := HC1.out w6 hT6
            have HRw := Lib.hid (rwrite_any b y _ [id] (w6.alloc (.cells #[.int .i64 id] 3)) (HR6.out.below ((Below.refl _ _).alloc (Nat.le_refl _) _)) hF.out.1.rise (fun p hp => ⟨(hF.out.1.all p hp).1.1, (hF.out.1.all p hp).2.2.2⟩) (by omega) (Arr.one w6 3 (.int .i64 id)) (by simp))
            have hR6 := HR6.out
            clear hG6 hT6 HW HRa HGa HBa HC1
            go_wp2_with fail
            refine HRw.out.mono ?_
            rintro e w7 ⟨rfl, hR7, hT7⟩
            have HR7 := Lib.hid hR7
            have HG7 := Lib.hid ((HG6.out.alloc (.cells #[.int .i64 id] 3)).turnT hT7 (fun jj e => by obtain ⟨rv, h1, -⟩ := hR6; rw [e]; exact ⟨_, h1.alloc _⟩))
            have HB7 := Lib.hid (below_turn (HB6.out.alloc HB6.out.size _) hT7 (fun i hi e => by omega))
            clear hR7 hT7 hR6 HRw
            generalize (writeG y [id]).2 = y2 at *
            go_wp2_with fail
            go_roundw
            case rel => exact ⟨j + 1, by omega, by omega, by go_num, y2, nb + 1, HF2, by omega, by omega, HG7.out, HR7.out, HB7.out⟩
            case measure => simp [intOf]; omega
          · have hcases2 : (¬ j < ids.length) ∨ (j < ids.length ∧ ¬ j < 4) := by
              by_cases h : j < ids.length
              · exact .inr ⟨h, fun h2 => hlt ⟨h, h2⟩⟩
              · exact .inl h
            clear hlt hG hR hbel
            rcases hcases2 with hge3 | ⟨hlt3, hge3⟩
            all_goals
              go_wp2_with fail
              go_ret2
              exact ⟨_, _, _, nb, y, rfl, HG.out, HR.out, hF.out.1, hF.out.2.1, hyl, by omega, HB.out, by omega, by omega, by omega, hF.out.2.2⟩
theorem made_any (A : Option Addr) (n c : Nat) (l : List PtD) (v : Value) (ids : List Int) (w : World) (hA : PatsR w A n l) (hn : n ≤ c) (hc : c ≤ 9223372036854775807) (hv : Row w v (ints ids)) (hk : ∀ k ∈ ids, (key k).wf = true) :
    Calls Try.prog 32 #[.slice A n c, v] w fun e w' => ∃ g mb b nb x, e = .returned (.tuple #[.pointer (some ⟨g, 0, none⟩), .pointer (some ⟨b, 0, none⟩)]) ∧ Gr w' g mb nb x ∧ RG w' b x ∧ Fine x ∧ Due x ∧ x.l.length ≤ 30 ∧ nb ≤ 100 ∧ Below w.heap.size w w' ∧ w.heap.size ≤ g ∧ w.heap.size ≤ mb ∧ w.heap.size ≤ b ∧ (x.l.length : Int) ≤ x.last :=
  (made_any2 A n c l v ids w hA hn hc hv hk).mono fun e w' ⟨g, mb, b, nb, x, h1, h2, h3, h4, h5, h6, h7, h8, h9, h10, h11, h12⟩ => ⟨g, mb, b, nb, x, h1, h2, h3, h4, h5, h6, h7, h8, h9, h10, h11, h12.1⟩
end Go.Proofs.Ytmkfaibjjbgbbaa
namespace Go.Proofs.Ytmkfaibjjbgbbaa
open Go.ChangeShapes Go.WideShapes Go.ChangeAt Go.RowKit Go.Deep
set_option linter.unusedVariables false

section
variable {H : Type} {enc : TypeId × Value → H} {W : World} {base : Nat} {spare : Nat → Bool} {held : Bool}
instance : Inhabited PtD := ⟨⟨⟨0, 0, 0, [], 0, [], 0, 0, false⟩, .slice none 0 0, .slice none 0 0⟩⟩
set_option maxRecDepth 100000 in
theorem pats_open {b0 : Nat} {v : Value} {d : DataW H} {p : List MemPlace} (hv : Value.okWide Try.prog W .any b0 50 v) (h : DataW.Trod enc Try.prog W base spare held 50 v d p) :
    ∃ A n c l, v = .slice A n c ∧ PatsR W A n l ∧ n ≤ c ∧ c ≤ 9223372036854775807 := by
  obtain ⟨A, n, c, rfl⟩ := okWide_slice Try.underlying50 hv
  obtain ⟨fuel, hf⟩ := h
  rcases open_slice Try.underlying50 hf with ⟨hcs, _⟩ | ⟨a, len, cap, m, k, D, Pl, hcs, _, hl, hm, hmm, _, hi⟩
  · simp [Value.cells] at hcs
    obtain ⟨rfl, rfl, rfl⟩ := hcs
    exact ⟨_, _, _, [], rfl, ⟨rfl, fun i x hx => by simp at hx⟩, Nat.le_refl _, by omega⟩
  · simp [Value.cells] at hcs
    obtain ⟨rfl, rfl, rfl⟩ := hcs
    have hnm : n ≤ m := by rw [hmm]; split <;> omega
    have hel0 : ∀ i, i < n → ∃ x : PtD, (∀ (j : Nat) (u : Value), (x.p.cells x.vd x.vn)[j]? = some u → W.cell? (a.add (i * 9 + j)) = some u) ∧ Row W x.vd (bytes x.p.data) ∧ Row W x.vn (ints x.p.needs) := by
      intro i hin
      obtain ⟨cs', hc, ht⟩ := hi i (by omega)
      rw [cells30] at hc
      obtain ⟨_, hcl, hat⟩ := World.cells?_some hc
      match cs', hcl with
      | [u0, u1, u2, u3, u4, u5, u6, u7, u8], _ =>
        obtain ⟨b, ⟨f0, f1, f2, f3, f4, f5, f6, f7, f8⟩, hd, hn⟩ := patch_open ht
        subst f0 f1 f2 f3 f4 f5 f6 f7 f8
        refine ⟨b, fun j u hu => ?_, hd, hn⟩
        have hj : j < 9 := by
          rcases Nat.lt_or_ge j 9 with h | h
          · exact h
          · rw [Array.getElem?_eq_none (by unfold Pt.cells; simpa using h)] at hu; cases hu
        have := hat j hj
        rw [Go.Deep.add_add] at this
        rw [this]
        unfold Pt.cells at hu
        rw [← hu]
        simp
    obtain ⟨f, hf⟩ := choose_lt hel0
    refine ⟨some a, n, c, (List.range n).map f, rfl, ⟨by simp, fun i x hx => ?_⟩, hl, by unfold maxLen at hm; omega⟩
    have hin : i < n := by
      rcases Nat.lt_or_ge i n with h | h
      · exact h
      · rw [List.getElem?_eq_none (by simpa using h)] at hx; cases hx
    rw [List.getElem?_map, List.getElem?_range hin] at hx
    simp at hx
    subst hx
    have h00 := (hf 0 (by omega)).1 0 _ rfl
    have hs : a.spot = none := by simpa [Addr.add] using World.cell?_spot h00
    have hb : a.block < W.heap.size := by simpa [Addr.add] using World.block_lt_of_cell? W _ h00
    obtain ⟨b, o, sp⟩ := a
    simp only at hs hb
    subst hs
    have hadd : ∀ j, (⟨b, o, none⟩ : Addr).add j = ⟨b, o + j, none⟩ := by intro j; unfold Addr.add; split <;> simp_all
    obtain ⟨c0, c1, c2⟩ := hf i hin
    exact ⟨⟨b, o, rfl, hb, fun j u hu => by have := c0 j u hu; rw [hadd, ← Nat.add_assoc] at this; exact this⟩, c1, c2⟩
end
end Go.Proofs.Ytmkfaibjjbgbbaa
namespace Go.Proofs.Ytmkfaibjjbgbbaa
open Go.RowKit
set_option linter.unusedVariables false
attribute [local go_sem ↓] Go.wp_at_zero Go.wp_at_succ

/-- One number more at the end of a list of the call's own. -/
theorem wpList_append_int {w : World} {ops : Array Oper} {rest : List Oper} {o : Oper} {a : Act} {Q : Exit → Act → World → Prop} (hgd : o.guard = none) (s x : Operand)
    (ho : o.op = .call { callee := .builtin .append, args := #[s, x], argTypes := #[28, 28] })
    (B : Nat) (v : Value) (l : List Int) (hs : a.eval s = v) (hown : Built B w v l) (y : Int) (g c : Nat) (hx : a.eval x = .slice (some ⟨g, 0, none⟩) 1 c) (hc : w.cell? ⟨g, 0, none⟩ = some (.int .i64 y))
    (hl : l.length ≤ 100000) (hbase : B ≤ w.heap.size)
    (h : ∀ v' w', Built B w' v' (l ++ [y]) → w.grownBy w' v.ownBlock → (v'.ownBlock = v.ownBlock ∨ v'.ownBlock = some w.heap.size) → wpList Try.prog ops Q rest (a.put o.dst v') w') : wpList Try.prog ops Q (o :: rest) a w := by
  obtain ⟨i3, hi3, hz3, hz31, hz32⟩ := info_parts info3
  refine wpList_append_row hgd s x 28 ho B 3 i3 (.int .i64 0) 1 8 Try.underlying28 hi3 hz3 hz31 hz32 rfl (by decide) v l.length (ints l) hs hown (some ⟨g, 0, none⟩) 1 c (ints [y]) hx rfl (fun h => by cases h) (fun ad had j u hu => ?_) ints_one ?_ ?_ hbase (fun v' w' h1 h2 h5 => ?_)
  · cases had
    rw [add_at, Nat.zero_add]
    rcases j with _ | j
    · rw [show (ints [y])[0]? = some (.int .i64 y) from rfl] at hu
      rw [← Option.some.inj hu]; exact hc
    · simp [ints] at hu
  · simp only [maxLen]; omega
  · omega
  · refine h v' w' ?_ h2 h5
    unfold Built
    rw [List.length_append, show ints (l ++ [y]) = ints l ++ ints [y] from by simp [ints]]
    exact h1
def pick (l : List Pt) (q : Pt → Bool) (k : Nat) : List Int := ((l.take k).filter q).map (·.id)
theorem pick_on {l : List Pt} {q : Pt → Bool} {k : Nat} {p : Pt} (h : l[k]? = some p) (hq : q p = true) : pick l q (k + 1) = pick l q k ++ [p.id] := by
  unfold pick
  rw [List.take_add_one, h, List.filter_append, List.map_append]
  simp [hq]
theorem pick_off {l : List Pt} {q : Pt → Bool} {k : Nat} {p : Pt} (h : l[k]? = some p) (hq : q p = false) : pick l q (k + 1) = pick l q k := by
  unfold pick
  rw [List.take_add_one, h, List.filter_append, List.map_append]
  simp [hq]
theorem pick_len (l : List Pt) (q : Pt → Bool) (k : Nat) : (pick l q k).length ≤ l.length := by
  unfold pick
  rw [List.length_map]
  exact Nat.le_trans (List.length_filter_le _ _) (by rw [List.length_take]; exact Nat.min_le_right _ _)
theorem pick_all (x : G) (q : Pt → Bool) : pick x.l q x.l.length = idsOf x q := by
  unfold pick idsOf
  rw [List.take_length]

set_option maxHeartbeats 2000000 in
theorem rall_any (b : Nat) (x : G) (w : World) (h : RG w b x) (hxl : x.l.length ≤ 1000) :
    Calls Try.prog 40 #[.pointer (some ⟨b, 0, none⟩)] w fun e w' => ∃ r, e = .returned r ∧ Built w.heap.size w' r (idsOf x fun _ => true) ∧ Below w.heap.size w w' := by
  have HG := Lib.hid h
  obtain ⟨v, hb, hl⟩ := h
  obtain ⟨A, c, rfl, hc1, hc2⟩ := hl.len
  have HL := Lib.hid hl
  have hbc := hb.cell 1
  simp at hbc
  unfold maxLen at hc2
  have hbl : b < w.heap.size := hb.lt
  clear hb hl
  go_enter Try.func40, Try.ntmps40
  go_wp2_with fail
  go_loopw [3, 4] (fun v i wr => ∃ k : Nat, k ≤ x.l.length ∧ i = .int .i64 k ∧ Built w.heap.size wr v (pick x.l (fun _ => true) k) ∧ Below w.heap.size w wr) (fun _ i _ => x.l.length - (intOf i).toNat)
  case atStart => exact ⟨0, Nat.zero_le _, rfl, World.ownsRow_made w #[] 0 (Nat.le_refl _) (Nat.zero_le _) rfl, (Below.refl _ _).alloc (Nat.le_refl _) _⟩
  case round =>
    obtain ⟨k, hk, rfl, hO, hbel⟩ := hrel
    have HO := Lib.hid hO
    have HB := Lib.hid hbel
    have hsz := hbel.size
    have hbcw : wr.cell? ⟨b, 1, none⟩ = some (.slice A x.l.length c) := (hbel.cell (p := ⟨b, 1, none⟩) hbl).trans hbc
    by_cases hlt : k < x.l.length
    · obtain ⟨p, hp⟩ : ∃ p, x.l[k]? = some p := ⟨_, List.getElem?_eq_getElem hlt⟩
      obtain ⟨g, c', A1, k1, A2, k2, e, hpc, hpv, hgp⟩ := HL.out.at hp
      injection e with e1 e2 e3
      subst e1 e3
      clear e2
      have y0 : wr.cell? ⟨g, k * 9, none⟩ = some (.int .i64 p.id) := (hbel.cell (p := ⟨g, k * 9, none⟩) hgp).trans (hpc 0 _ rfl)
      have hpl := pick_len x.l (fun _ => true) k
      have HPk := Lib.hid (pick_on (q := fun _ => true) hp rfl)
      clear hO hbel hpc hpv hp
      go_wp2_with (at_builtin; refine wpList_append_int rfl (.tmp 15) (.tmp 24) rfl w.heap.size _ _ rfl (World.ownsRow.alloc HO.out _) p.id wr.heap.size 1 rfl ?c1 ?c2 ?c3 ?_)
      case c1 => exact (Blk.new wr 3 #[.int .i64 p.id]).cell 0
      case c2 => omega
      case c3 => simp; omega
      intro v' w5 hown5 hg5 _
      rw [← HPk.out] at hown5
      have HO5 := Lib.hid hown5
      have HB5 := Lib.hid ((HB.out.alloc HB.out.size (.cells #[.int .i64 p.id] 3)).grown hg5 (by have := HB.out.size; simp; omega) (fun j hj => (World.ownsRow.lt HO.out j hj).1))
      clear hown5 hg5
      go_wp2
      go_roundw
      case rel => exact ⟨k + 1, by omega, by go_num, HO5.out, HB5.out⟩
      case measure => simp [intOf]; omega
    · obtain rfl : k = x.l.length := by omega
      rw [pick_all] at HO
      clear hO hbel
      go_wp2
      go_ret
      exact ⟨_, rfl, HO.out, HB.out⟩
-- generated by genrask.py
set_option maxHeartbeats 2000000 in
theorem rwritten_any (b : Nat) (x : G) (w : World) (h : RG w b x) (hxl : x.l.length ≤ 1000) :
    Calls Try.prog 43 #[.pointer (some ⟨b, 0, none⟩)] w fun e w' => ∃ r, e = .returned r ∧ Built w.heap.size w' r (idsOf x fun p => p.written) ∧ Below w.heap.size w w' := by
  have HG := Lib.hid h
  obtain ⟨v, hb, hl⟩ := h
  obtain ⟨A, c, rfl, hc1, hc2⟩ := hl.len
  have HL := Lib.hid hl
  have hbc := hb.cell 1
  simp at hbc
  unfold maxLen at hc2
  have hbl : b < w.heap.size := hb.lt
  clear hb hl
  go_enter Try.func43, Try.ntmps43
  go_wp2_with fail
  go_loopw [3, 4] (fun v i wr => ∃ k : Nat, k ≤ x.l.length ∧ i = .int .i64 k ∧ Built w.heap.size wr v (pick x.l (fun p => p.written) k) ∧ Below w.heap.size w wr) (fun _ i _ => x.l.length - (intOf i).toNat)
  case atStart => exact ⟨0, Nat.zero_le _, rfl, World.ownsRow_made w #[] 0 (Nat.le_refl _) (Nat.zero_le _) rfl, (Below.refl _ _).alloc (Nat.le_refl _) _⟩
  case round =>
    obtain ⟨k, hk, rfl, hO, hbel⟩ := hrel
    have HO := Lib.hid hO
    have HB := Lib.hid hbel
    have hsz := hbel.size
    have hbcw : wr.cell? ⟨b, 1, none⟩ = some (.slice A x.l.length c) := (hbel.cell (p := ⟨b, 1, none⟩) hbl).trans hbc
    by_cases hlt : k < x.l.length
    · obtain ⟨p, hp⟩ : ∃ p, x.l[k]? = some p := ⟨_, List.getElem?_eq_getElem hlt⟩
      obtain ⟨g, c', A1, k1, A2, k2, e, hpc, hpv, hgp⟩ := HL.out.at hp
      injection e with e1 e2 e3
      subst e1 e3
      clear e2
      have y0 : wr.cell? ⟨g, k * 9, none⟩ = some (.int .i64 p.id) := (hbel.cell (p := ⟨g, k * 9, none⟩) hgp).trans (hpc 0 _ rfl)
      have hpl := pick_len x.l (fun p => p.written) k
      have yc : wr.cell? ⟨g, k * 9 + 8, none⟩ = some (.bool p.written) := (hbel.cell (p := ⟨g, k * 9 + 8, none⟩) hgp).trans (hpc 8 _ rfl)
      by_cases hq : p.written = true
      · have HPk := Lib.hid (pick_on (q := fun p => p.written) hp (by simp [hq]))
        rw [hq] at yc
        clear hO hbel hpc hpv hp hq
        go_wp2_with (at_builtin; refine wpList_append_int rfl (.tmp 23) (.tmp 32) rfl w.heap.size _ _ rfl (World.ownsRow.alloc HO.out _) p.id wr.heap.size 1 rfl ?c1 ?c2 ?c3 ?_)
        case c1 => exact (Blk.new wr 3 #[.int .i64 p.id]).cell 0
        case c2 => omega
        case c3 => simp; omega
        intro v' w5 hown5 hg5 _
        rw [← HPk.out] at hown5
        have HO5 := Lib.hid hown5
        have HB5 := Lib.hid ((HB.out.alloc HB.out.size (.cells #[.int .i64 p.id] 3)).grown hg5 (by have := HB.out.size; simp; omega) (fun j hj => (World.ownsRow.lt HO.out j hj).1))
        clear hown5 hg5
        go_wp2
        go_roundw
        case rel => exact ⟨k + 1, by omega, by go_num, HO5.out, HB5.out⟩
        case measure => simp [intOf]; omega
      · have HPk := Lib.hid (pick_off (q := fun p => p.written) hp (by simp [hq]))
        rw [show p.written = false from by simpa using hq] at yc
        rw [← HPk.out] at HO
        clear hO hbel hpc hpv hp hq
        go_wp2
        go_roundw
        case rel => exact ⟨k + 1, by omega, by go_num, HO.out, HB.out⟩
        case measure => simp [intOf]; omega
    · obtain rfl : k = x.l.length := by omega
      rw [pick_all] at HO
      clear hO hbel
      go_wp2
      go_ret
      exact ⟨_, rfl, HO.out, HB.out⟩
set_option maxHeartbeats 2000000 in
theorem rby_any (b : Nat) (x : G) (s : Int) (w : World) (h : RG w b x) (hxl : x.l.length ≤ 1000) :
    Calls Try.prog 68 #[.pointer (some ⟨b, 0, none⟩), .int .i64 s] w fun e w' => ∃ r, e = .returned r ∧ Built w.heap.size w' r (idsOf x fun p => decide (p.owner = s)) ∧ Below w.heap.size w w' := by
  have HG := Lib.hid h
  obtain ⟨v, hb, hl⟩ := h
  obtain ⟨A, c, rfl, hc1, hc2⟩ := hl.len
  have HL := Lib.hid hl
  have hbc := hb.cell 1
  simp at hbc
  unfold maxLen at hc2
  have hbl : b < w.heap.size := hb.lt
  clear hb hl
  go_enter Try.func68, Try.ntmps68
  go_wp2_with fail
  go_loopw [5, 6] (fun v i wr => ∃ k : Nat, k ≤ x.l.length ∧ i = .int .i64 k ∧ Built w.heap.size wr v (pick x.l (fun p => decide (p.owner = s)) k) ∧ Below w.heap.size w wr) (fun _ i _ => x.l.length - (intOf i).toNat)
  case atStart => exact ⟨0, Nat.zero_le _, rfl, World.ownsRow_made w #[] 0 (Nat.le_refl _) (Nat.zero_le _) rfl, (Below.refl _ _).alloc (Nat.le_refl _) _⟩
  case round =>
    obtain ⟨k, hk, rfl, hO, hbel⟩ := hrel
    have HO := Lib.hid hO
    have HB := Lib.hid hbel
    have hsz := hbel.size
    have hbcw : wr.cell? ⟨b, 1, none⟩ = some (.slice A x.l.length c) := (hbel.cell (p := ⟨b, 1, none⟩) hbl).trans hbc
    by_cases hlt : k < x.l.length
    · obtain ⟨p, hp⟩ : ∃ p, x.l[k]? = some p := ⟨_, List.getElem?_eq_getElem hlt⟩
      obtain ⟨g, c', A1, k1, A2, k2, e, hpc, hpv, hgp⟩ := HL.out.at hp
      injection e with e1 e2 e3
      subst e1 e3
      clear e2
      have y0 : wr.cell? ⟨g, k * 9, none⟩ = some (.int .i64 p.id) := (hbel.cell (p := ⟨g, k * 9, none⟩) hgp).trans (hpc 0 _ rfl)
      have hpl := pick_len x.l (fun p => decide (p.owner = s)) k
      have yc : wr.cell? ⟨g, k * 9 + 6, none⟩ = some (.int .i64 p.owner) := (hbel.cell (p := ⟨g, k * 9 + 6, none⟩) hgp).trans (hpc 6 _ rfl)
      by_cases hq : p.owner = s
      · have HPk := Lib.hid (pick_on (q := fun p => decide (p.owner = s)) hp (by simp [hq]))
        have ht : (p.owner == s) = true := by simp [hq]
        clear hO hbel hpc hpv hp hq
        go_wp2_with (at_builtin; refine wpList_append_int rfl (.tmp 27) (.tmp 36) rfl w.heap.size _ _ rfl (World.ownsRow.alloc HO.out _) p.id wr.heap.size 1 rfl ?c1 ?c2 ?c3 ?_)
        case c1 => exact (Blk.new wr 3 #[.int .i64 p.id]).cell 0
        case c2 => omega
        case c3 => simp; omega
        intro v' w5 hown5 hg5 _
        rw [← HPk.out] at hown5
        have HO5 := Lib.hid hown5
        have HB5 := Lib.hid ((HB.out.alloc HB.out.size (.cells #[.int .i64 p.id] 3)).grown hg5 (by have := HB.out.size; simp; omega) (fun j hj => (World.ownsRow.lt HO.out j hj).1))
        clear hown5 hg5
        go_wp2
        go_roundw
        case rel => exact ⟨k + 1, by omega, by go_num, HO5.out, HB5.out⟩
        case measure => simp [intOf]; omega
      · have HPk := Lib.hid (pick_off (q := fun p => decide (p.owner = s)) hp (by simp [hq]))
        have ht : (p.owner == s) = false := by simp [hq]
        rw [← HPk.out] at HO
        clear hO hbel hpc hpv hp hq
        go_wp2
        go_roundw
        case rel => exact ⟨k + 1, by omega, by go_num, HO.out, HB.out⟩
        case measure => simp [intOf]; omega
    · obtain rfl : k = x.l.length := by omega
      rw [pick_all] at HO
      clear hO hbel
      go_wp2
      go_ret
      exact ⟨_, rfl, HO.out, HB.out⟩
set_option maxHeartbeats 2000000 in
theorem rabout_any (b : Nat) (x : G) (s : Int) (w : World) (h : RG w b x) (hxl : x.l.length ≤ 1000) :
    Calls Try.prog 69 #[.pointer (some ⟨b, 0, none⟩), .int .i64 s] w fun e w' => ∃ r, e = .returned r ∧ Built w.heap.size w' r (idsOf x fun p => decide (p.child = s)) ∧ Below w.heap.size w w' := by
  have HG := Lib.hid h
  obtain ⟨v, hb, hl⟩ := h
  obtain ⟨A, c, rfl, hc1, hc2⟩ := hl.len
  have HL := Lib.hid hl
  have hbc := hb.cell 1
  simp at hbc
  unfold maxLen at hc2
  have hbl : b < w.heap.size := hb.lt
  clear hb hl
  go_enter Try.func69, Try.ntmps69
  go_wp2_with fail
  go_loopw [5, 6] (fun v i wr => ∃ k : Nat, k ≤ x.l.length ∧ i = .int .i64 k ∧ Built w.heap.size wr v (pick x.l (fun p => decide (p.child = s)) k) ∧ Below w.heap.size w wr) (fun _ i _ => x.l.length - (intOf i).toNat)
  case atStart => exact ⟨0, Nat.zero_le _, rfl, World.ownsRow_made w #[] 0 (Nat.le_refl _) (Nat.zero_le _) rfl, (Below.refl _ _).alloc (Nat.le_refl _) _⟩
  case round =>
    obtain ⟨k, hk, rfl, hO, hbel⟩ := hrel
    have HO := Lib.hid hO
    have HB := Lib.hid hbel
    have hsz := hbel.size
    have hbcw : wr.cell? ⟨b, 1, none⟩ = some (.slice A x.l.length c) := (hbel.cell (p := ⟨b, 1, none⟩) hbl).trans hbc
    by_cases hlt : k < x.l.length
    · obtain ⟨p, hp⟩ : ∃ p, x.l[k]? = some p := ⟨_, List.getElem?_eq_getElem hlt⟩
      obtain ⟨g, c', A1, k1, A2, k2, e, hpc, hpv, hgp⟩ := HL.out.at hp
      injection e with e1 e2 e3
      subst e1 e3
      clear e2
      have y0 : wr.cell? ⟨g, k * 9, none⟩ = some (.int .i64 p.id) := (hbel.cell (p := ⟨g, k * 9, none⟩) hgp).trans (hpc 0 _ rfl)
      have hpl := pick_len x.l (fun p => decide (p.child = s)) k
      have yc : wr.cell? ⟨g, k * 9 + 7, none⟩ = some (.int .i64 p.child) := (hbel.cell (p := ⟨g, k * 9 + 7, none⟩) hgp).trans (hpc 7 _ rfl)
      by_cases hq : p.child = s
      · have HPk := Lib.hid (pick_on (q := fun p => decide (p.child = s)) hp (by simp [hq]))
        have ht : (p.child == s) = true := by simp [hq]
        clear hO hbel hpc hpv hp hq
        go_wp2_with (at_builtin; refine wpList_append_int rfl (.tmp 27) (.tmp 36) rfl w.heap.size _ _ rfl (World.ownsRow.alloc HO.out _) p.id wr.heap.size 1 rfl ?c1 ?c2 ?c3 ?_)
        case c1 => exact (Blk.new wr 3 #[.int .i64 p.id]).cell 0
        case c2 => omega
        case c3 => simp; omega
        intro v' w5 hown5 hg5 _
        rw [← HPk.out] at hown5
        have HO5 := Lib.hid hown5
        have HB5 := Lib.hid ((HB.out.alloc HB.out.size (.cells #[.int .i64 p.id] 3)).grown hg5 (by have := HB.out.size; simp; omega) (fun j hj => (World.ownsRow.lt HO.out j hj).1))
        clear hown5 hg5
        go_wp2
        go_roundw
        case rel => exact ⟨k + 1, by omega, by go_num, HO5.out, HB5.out⟩
        case measure => simp [intOf]; omega
      · have HPk := Lib.hid (pick_off (q := fun p => decide (p.child = s)) hp (by simp [hq]))
        have ht : (p.child == s) = false := by simp [hq]
        rw [← HPk.out] at HO
        clear hO hbel hpc hpv hp hq
        go_wp2
        go_roundw
        case rel => exact ⟨k + 1, by omega, by go_num, HO.out, HB.out⟩
        case measure => simp [intOf]; omega
    · obtain rfl : k = x.l.length := by omega
      rw [pick_all] at HO
      clear hO hbel
      go_wp2
      go_ret
      exact ⟨_, rfl, HO.out, HB.out⟩
end Go.Proofs.Ytmkfaibjjbgbbaa
namespace Go.Proofs.Ytmkfaibjjbgbbaa
open Go.RowKit
set_option linter.unusedVariables false
attribute [local go_sem ↓] Go.wp_at_zero Go.wp_at_succ

theorem ptCells_app (L : List (Value × Value × Pt)) (e : Value × Value × Pt) : ptCells (L ++ [e]) = ptCells L ++ (e.2.2.cells e.1 e.2.1).toList := by
  unfold ptCells
  rw [List.flatMap_append]
  simp
/-- One patch more at the end of a list of the call's own. -/
theorem wpList_append_pt {w : World} {ops : Array Oper} {rest : List Oper} {o : Oper} {a : Act} {Q : Exit → Act → World → Prop} (hgd : o.guard = none) (s x : Operand)
    (ho : o.op = .call { callee := .builtin .append, args := #[s, x], argTypes := #[50, 50] })
    (B : Nat) (v : Value) (L : List (Value × Value × Pt)) (hs : a.eval s = v) (hown : w.ownsRow B 30 9 v L.length (ptCells L)) (p : Pt) (A1 : Option Addr) (m1 k1 : Nat) (A2 : Option Addr) (m2 k2 : Nat) (g c : Nat) (hx : a.eval x = .slice (some ⟨g, 0, none⟩) 1 c)
    (hc : Blk w g 30 (p.cells (.slice A1 m1 k1) (.slice A2 m2 k2))) (hl : L.length ≤ 100000) (hbase : B ≤ w.heap.size)
    (h : ∀ v' w', w'.ownsRow B 30 9 v' (L ++ [(Value.slice A1 m1 k1, Value.slice A2 m2 k2, p)]).length (ptCells (L ++ [(Value.slice A1 m1 k1, Value.slice A2 m2 k2, p)])) → w.grownBy w' v.ownBlock → wpList Try.prog ops Q rest (a.put o.dst v') w') : wpList Try.prog ops Q (o :: rest) a w := by
  obtain ⟨i0, hi0, hz0, hz1, hz2⟩ := info_parts info30
  refine wpList_append_row hgd s x 50 ho B 30 i0 _ 9 104 Try.underlying50 hi0 hz0 hz1 hz2 rfl (by decide) v L.length (ptCells L) hs hown (some ⟨g, 0, none⟩) 1 c (p.cells (.slice A1 m1 k1) (.slice A2 m2 k2)).toList hx (by simp [Pt.cells]) (fun h => by cases h) (fun ad had j u hu => ?_) ?_ ?_ ?_ hbase (fun v' w' h1 h2 _ => ?_)
  · cases had
    rw [add_at, Nat.zero_add, hc.cell]
    simpa using hu
  · intro u hu
    simp [Pt.cells] at hu
    rcases hu with rfl | rfl | rfl | rfl | rfl | rfl | rfl | rfl | rfl <;> simp [Value.oneCell']
  · simp only [maxLen]; omega
  · omega
  · refine h v' w' ?_ h2
    rw [List.length_append, ptCells_app]
    exact h1

def setQ (s : Int) (p : Pt) : Bool := decide (s < 0) || decide (p.sec = s)
def keepQ (s : Int) (p : Pt) : Bool := !(p.written && setQ s p)
theorem keep_on {l : List Pt} {q : Pt → Bool} {k : Nat} {p : Pt} (h : l[k]? = some p) (hq : q p = true) : (l.take (k + 1)).filter q = (l.take k).filter q ++ [p] := by
  rw [List.take_add_one, h, List.filter_append]
  simp [hq]
theorem keep_off {l : List Pt} {q : Pt → Bool} {k : Nat} {p : Pt} (h : l[k]? = some p) (hq : q p = false) : (l.take (k + 1)).filter q = (l.take k).filter q := by
  rw [List.take_add_one, h, List.filter_append]
  simp [hq]

set_option maxHeartbeats 4000000 in
set_option maxRecDepth 100000 in
theorem rsettle_any (b : Nat) (x : G) (s : Int) (w : World) (h : RG w b x) (hxl : x.l.length ≤ 1000) :
    Calls Try.prog 99 #[.pointer (some ⟨b, 0, none⟩), .int .i64 s] w fun e w' => e = .returned (.int .i64 (x.l.length - (settleG x (setQ s)).l.length : Int)) ∧ RG w' b (settleG x (setQ s)) ∧ Turn (fun j => j = b) w w' := by
  have HG := Lib.hid h
  obtain ⟨v, hb, hl⟩ := h
  obtain ⟨A, c, rfl, hc1, hc2⟩ := hl.len
  have HL := Lib.hid hl
  have HBk := Lib.hid hb
  have hbc := hb.cell 1
  simp at hbc
  unfold maxLen at hc2
  have hbl : b < w.heap.size := hb.lt
  have HS := Lib.hid (show (settleG x (setQ s)).l = x.l.filter (keepQ s) from rfl)
  clear hb hl
  go_enter Try.func99, Try.ntmps99
  go_wp2_with fail
  go_loopw [5, 6] (fun v i wr => ∃ (k : Nat) (L : List (Value × Value × Pt)), k ≤ x.l.length ∧ i = .int .i64 k ∧ Hid (L.map (·.2.2) = (x.l.take k).filter (keepQ s)) ∧ wr.ownsRow w.heap.size 30 9 v L.length (ptCells L) ∧ Hid (∀ e ∈ L, Arr w 5 e.1 (bytes e.2.2.data) ∧ Arr w 3 e.2.1 (ints e.2.2.needs)) ∧ Below w.heap.size w wr) (fun _ i _ => x.l.length - (intOf i).toNat)
  case atStart => exact ⟨0, [], Nat.zero_le _, rfl, by unfold Hid; simp, World.ownsRow_made w #[] 0 (Nat.le_refl _) (Nat.zero_le _) rfl, (fun e h => by cases h), (Below.refl _ _).alloc (Nat.le_refl _) _⟩
  case round =>
    obtain ⟨k, L, hk, rfl, hL, hO, hAr, hbel⟩ := hrel
    have HO := Lib.hid hO
    have HB := Lib.hid hbel
    have hsz := hbel.size
    have hLl : L.length ≤ x.l.length := by
      have h1 := congrArg List.length hL.out
      rw [List.length_map] at h1
      rw [h1]
      exact Nat.le_trans (List.length_filter_le _ _) (by rw [List.length_take]; exact Nat.min_le_right _ _)
    have hbcw : wr.cell? ⟨b, 1, none⟩ = some (.slice A x.l.length c) := (hbel.cell (p := ⟨b, 1, none⟩) hbl).trans hbc
    by_cases hlt : k < x.l.length
    · obtain ⟨p, hp⟩ : ∃ p, x.l[k]? = some p := ⟨_, List.getElem?_eq_getElem hlt⟩
      obtain ⟨g, c', A1, k1, A2, k2, e, hpc, hpv, hgp⟩ := HL.out.at hp
      injection e with e1 e2 e3
      subst e1 e3
      clear e2
      have mv : ∀ (j : Nat) (u : Value), (p.cells (.slice A1 (bytes p.data).length k1) (.slice A2 (ints p.needs).length k2))[j]? = some u → wr.cell? ⟨g, k * 9 + j, none⟩ = some u := fun j u hu => (hbel.cell (p := ⟨g, k * 9 + j, none⟩) hgp).trans (hpc j u hu)
      have y0 : wr.cell? ⟨g, k * 9, none⟩ = some (.int .i64 p.id) := mv 0 _ rfl
      have y1 : wr.cell? ⟨g, k * 9 + 1, none⟩ = some (.int .i64 p.sec) := mv 1 _ rfl
      have y2 : wr.cell? ⟨g, k * 9 + 2, none⟩ = some (.int .i64 p.off) := mv 2 _ rfl
      have y3 : wr.cell? ⟨g, k * 9 + 3, none⟩ = some (.slice A1 (bytes p.data).length k1) := mv 3 _ rfl
      have y4 : wr.cell? ⟨g, k * 9 + 4, none⟩ = some (.int .i64 p.kind) := mv 4 _ rfl
      have y5 : wr.cell? ⟨g, k * 9 + 5, none⟩ = some (.slice A2 (ints p.needs).length k2) := mv 5 _ rfl
      have y6 : wr.cell? ⟨g, k * 9 + 6, none⟩ = some (.int .i64 p.owner) := mv 6 _ rfl
      have y7 : wr.cell? ⟨g, k * 9 + 7, none⟩ = some (.int .i64 p.child) := mv 7 _ rfl
      have y8 : wr.cell? ⟨g, k * 9 + 8, none⟩ = some (.bool p.written) := mv 8 _ rfl
      have HP := Lib.hid hp
      have HPv := Lib.hid hpv.parts'
      have hk0 : (0 : Int) ≤ (k : Int) := by omega
      have hk1 : (k : Int) < (x.l.length : Int) := by omega
      have hcases : (p.written = false ∧ keepQ s p = true) ∨ (p.written = true ∧ ¬ s < 0 ∧ ¬ p.sec = s ∧ keepQ s p = true) ∨ (p.written = true ∧ s < 0 ∧ keepQ s p = false) ∨ (p.written = true ∧ ¬ s < 0 ∧ p.sec = s ∧ keepQ s p = false) := by
        unfold keepQ setQ
        cases hw : p.written with
        | false => left; simp
        | true =>
          right
          by_cases h1 : s < 0
          · right; left; simp [h1]
          · by_cases h2 : p.sec = s
            · right; right; simp [h2, h1]
            · left; simp [h1, h2]
      clear hO hbel mv hpc hpv hp
      rcases hcases with ⟨hw, hq⟩ | ⟨hw, hs, hps, hq⟩ | ⟨hw, hs, hq⟩ | ⟨hw, hs, hps, hq⟩
      · rw [hw] at y8
        have HX := Lib.hid (Blk.new wr 30 (p.cells (.slice A1 (bytes p.data).length k1) (.slice A2 (ints p.needs).length k2)))
        have HLn := Lib.hid (show (L ++ [(Value.slice A1 (bytes p.data).length k1, Value.slice A2 (ints p.needs).length k2, p)]).map (·.2.2) = (x.l.take (k + 1)).filter (keepQ s) from by rw [keep_on HP.out hq, List.map_append, hL.out]; rfl)
        have HPW := Lib.hid (show Value.bool p.written = .bool false from by rw [hw])
        clear hq hw
        unfold Pt.cells at HX
        rw [HPW.out] at HX
        go_wp2_with (at_builtin; refine wpList_append_pt rfl (.tmp 43) (.tmp 51) rfl w.heap.size _ L rfl (World.ownsRow.alloc HO.out _) p A1 (bytes p.data).length k1 A2 (ints p.needs).length k2 wr.heap.size 1 rfl ?c1 ?c2 ?c3 ?_)
        case c1 => unfold Pt.cells; rw [HPW.out]; exact HX.out
        case c2 => omega
        case c3 => simp; omega
        intro v' w5 hown5 hg5
        have HO5 := Lib.hid hown5
        have HB5 := Lib.hid ((HB.out.alloc HB.out.size _).grown hg5 (by have := HB.out.size; simp; omega) (fun j hj => (World.ownsRow.lt HO.out j hj).1))
        have HA5 := Lib.hid (show ∀ e ∈ L ++ [(Value.slice A1 (bytes p.data).length k1, Value.slice A2 (ints p.needs).length k2, p)], Arr w 5 e.1 (bytes e.2.2.data) ∧ Arr w 3 e.2.1 (ints e.2.2.needs) from fun e he => by
          rcases List.mem_append.1 he with h | h
          · exact hAr.out e h
          · rw [List.mem_singleton.1 h]; exact HPv.out)
        clear hown5 hg5
        go_wp2
        go_roundw
        case rel => exact ⟨k + 1, _, by omega, by go_num, HLn, by rw [List.length_append]; exact HO5.out, HA5, HB5.out⟩
        case measure => simp [intOf]; omega
      · rw [hw] at y8
        have HX := Lib.hid (Blk.new wr 30 (p.cells (.slice A1 (bytes p.data).length k1) (.slice A2 (ints p.needs).length k2)))
        have HLn := Lib.hid (show (L ++ [(Value.slice A1 (bytes p.data).length k1, Value.slice A2 (ints p.needs).length k2, p)]).map (·.2.2) = (x.l.take (k + 1)).filter (keepQ s) from by rw [keep_on HP.out hq, List.map_append, hL.out]; rfl)
        have HPW := Lib.hid (show Value.bool p.written = .bool true from by rw [hw])
        have d1 : decide (0 ≤ s) = true := decide_eq_true (by omega)
        have d2 : (p.sec != s) = true := by simp [hps]
        clear hq hw hs hps
        unfold Pt.cells at HX
        rw [HPW.out] at HX
        go_wp2_with (at_builtin; refine wpList_append_pt rfl (.tmp 43) (.tmp 51) rfl w.heap.size _ L rfl (World.ownsRow.alloc HO.out _) p A1 (bytes p.data).length k1 A2 (ints p.needs).length k2 wr.heap.size 1 rfl ?c1 ?c2 ?c3 ?_)
        case c1 => unfold Pt.cells; rw [HPW.out]; exact HX.out
        case c2 => omega
        case c3 => simp; omega
        intro v' w5 hown5 hg5
        have HO5 := Lib.hid hown5
        have HB5 := Lib.hid ((HB.out.alloc HB.out.size _).grown hg5 (by have := HB.out.size; simp; omega) (fun j hj => (World.ownsRow.lt HO.out j hj).1))
        have HA5 := Lib.hid (show ∀ e ∈ L ++ [(Value.slice A1 (bytes p.data).length k1, Value.slice A2 (ints p.needs).length k2, p)], Arr w 5 e.1 (bytes e.2.2.data) ∧ Arr w 3 e.2.1 (ints e.2.2.needs) from fun e he => by
          rcases List.mem_append.1 he with h | h
          · exact hAr.out e h
          · rw [List.mem_singleton.1 h]; exact HPv.out)
        clear hown5 hg5
        go_wp2
        go_roundw
        case rel => exact ⟨k + 1, _, by omega, by go_num, HLn, by rw [List.length_append]; exact HO5.out, HA5, HB5.out⟩
        case measure => simp [intOf]; omega
      · rw [hw] at y8
        have HLn := Lib.hid (show L.map (·.2.2) = (x.l.take (k + 1)).filter (keepQ s) from by rw [keep_off HP.out hq, hL.out])
        have d1 : decide (0 ≤ s) = false := decide_eq_false (by omega)
        clear hq hw hs
        go_wp2
        go_roundw
        case rel => exact ⟨k + 1, L, by omega, by go_num, HLn, HO.out, hAr, HB.out⟩
        case measure => simp [intOf]; omega
      · rw [hw] at y8
        have HLn := Lib.hid (show L.map (·.2.2) = (x.l.take (k + 1)).filter (keepQ s) from by rw [keep_off HP.out hq, hL.out])
        have d1 : decide (0 ≤ s) = true := decide_eq_true (by omega)
        have d2 : (p.sec != s) = false := by simp [hps]
        clear hq hw hs hps
        go_wp2
        go_roundw
        case rel => exact ⟨k + 1, L, by omega, by go_num, HLn, HO.out, hAr, HB.out⟩
        case measure => simp [intOf]; omega
    · obtain rfl : k = x.l.length := by omega
      have hLe : L.map (·.2.2) = (settleG x (setQ s)).l := by rw [hL.out, List.take_length, HS.out]
      have hLn2 : (settleG x (setQ s)).l.length = L.length := by rw [← hLe, List.length_map]
      obtain ⟨A5, m5, c5, rfl⟩ := owns_shape hO
      have hR := RL.of_own (L := L) hO rfl (fun e he => ⟨(hAr.out e he).1.below hbel, (hAr.out e he).2.below hbel⟩)
      rw [hLe] at hR
      have hm5 : m5 = L.length := by
        obtain ⟨A', c', e, _⟩ := hR.len
        injection e with _ e _
        rw [e, hLn2]
      subst hm5
      have HR := Lib.hid hR
      have hX := HBk.out.below hbel hbl
      have HX := Lib.hid hX
      have f1 := hX.frozen 1
      have hblw : b < wr.heap.size := hX.lt
      have HLe := Lib.hid hLn2
      have HTT := Lib.hid ((Turn.of_below (S := fun j => j = b) hbel).setCell (p := ⟨b, 1, none⟩) (fun _ => rfl) (.slice A5 L.length c5))
      have HRR := Lib.hid (hR.move (w' := wr.setCell ⟨b, 1, none⟩ (.slice A5 L.length c5)) (fun g t cs ht kk => kk.far (p := ⟨b, 1, none⟩) (kk.ne_ hX (by rcases ht with rfl | rfl | rfl <;> decide)) _))
      have ew : IntKind.i64.wrap ((x.l.length : Int) - (L.length : Int)) = (x.l.length : Int) - (L.length : Int) := IntWalk.i64_in _ (by omega) |>.trans rfl
      clear hO hbel hLe hLn2 hR hX
      go_wp2
      go_ret
      exact ⟨by rw [HLe.out]; rfl, ⟨_, HX.out.set_ 1 _, HRR.out⟩, HTT.out⟩
end Go.Proofs.Ytmkfaibjjbgbbaa
