/- Add of package scupperref14. -/
import Derived.Test.YtmkfaibjjbgbbaaRown
import Derived.Test.YtmkfaibjjbgbbaaStep
import Derived.Deep.RegionHeld3
import Derived.BigQuiet
namespace Go.Proofs.Ytmkfaibjjbgbbaa
open Go.RowKit
set_option linter.unusedVariables false
attribute [local go_sem ↓] Go.wp_at_zero Go.wp_at_succ

theorem info30 : (Try.prog.info? 30).map (fun i => (i.zero, i.size, i.bytes)) = some (some (.agg #[.int .i64 0, .int .i64 0, .int .i64 0, .slice none 0 0, .int .i64 0, .slice none 0 0, .int .i64 0, .int .i64 0, .bool false]), 9, 104) := by kernel_rfl
/-- What an append of a list of patches wants to know. -/
theorem RL.parts {w : World} {v : Value} {l : List Pt} (h : RL w v l) : ∃ (L : List (Value × Value × Pt)) (A : Option Addr) (c : Nat), l = L.map (·.2.2) ∧ v = .slice A L.length c ∧ (A = none → c = 0 ∧ L.length = 0) ∧ (∀ ad, A = some ad → ∀ j u, (ptCells L)[j]? = some u → ad.block < w.heap.size ∧ w.cell? (ad.add j) = some u) ∧ (∀ u ∈ ptCells L, u.oneCell' = true) ∧
    (∀ e ∈ L, Arr w 5 e.1 (bytes e.2.2.data) ∧ Arr w 3 e.2.1 (ints e.2.2.needs)) := by
  obtain ⟨L, e, h1, h2⟩ := h
  have hone : ∀ u ∈ ptCells L, u.oneCell' = true := ptCells_one L fun e he => by
    obtain ⟨A, c, e1, -, -⟩ := (h1 e he).1.len
    obtain ⟨B, d, e2, -, -⟩ := (h1 e he).2.len
    exact ⟨A, _, c, B, _, d, e1, e2⟩
  rcases h2 with ⟨rfl, rfl⟩ | ⟨g, c, cs, h3, h4, h5, h6, h7⟩
  · exact ⟨[], none, 0, e, rfl, fun _ => ⟨rfl, rfl⟩, (fun ad h => by cases h), hone, h1⟩
  · exact ⟨L, some ⟨g, 0, none⟩, c, e, h3, (fun h => by cases h), fun ad hA j u hu => by
      cases hA
      rw [add_at, Nat.zero_add]
      exact ⟨h6.lt, (h6.cell j).trans (h7 j u hu)⟩, hone, h1⟩
theorem RL.of_own {w : World} {B n : Nat} {v : Value} {L : List (Value × Value × Pt)} (h : w.ownsRow B 30 9 v n (ptCells L)) (hn : n = L.length) (ha : ∀ e ∈ L, Arr w 5 e.1 (bytes e.2.2.data) ∧ Arr w 3 e.2.1 (ints e.2.2.needs)) : RL w v (L.map (·.2.2)) := by
  subst hn
  refine ⟨L, rfl, ha, ?_⟩
  rcases h.2 with ⟨hv, h0⟩ | ⟨g, cap, cur, hv, _, hg, hnc, hcm, hcs, ht⟩
  · exact .inl ⟨hv, List.eq_nil_of_length_eq_zero h0⟩
  · refine .inr ⟨g, cap, cur, hv, hnc, hcm, hg, fun i u hu => ?_⟩
    rw [← ht, List.getElem?_take] at hu
    split at hu
    · simpa using hu
    · cases hu
theorem cells_new (w : World) (t : TypeId) (cs : Array Value) : ∀ (ad : Addr), some (⟨w.heap.size, 0, none⟩ : Addr) = some ad → ∀ (j : Nat) (u : Value), cs.toList[j]? = some u → (w.alloc (.cells cs t)).cell? (ad.add j) = some u := by
  intro ad h j u hu
  cases h
  rw [add_at, Nat.zero_add, (Blk.new w t cs).cell]
  simpa using hu

theorem grown_new {w w' : World} {g0 k : Nat} {xs : List Value} (hg : w.grownBy w' (some g0)) (hk : k < w.heap.size) (hne : k ≠ g0) (h : ∀ (ad : Addr), some (⟨k, 0, none⟩ : Addr) = some ad → ∀ (j : Nat) (u : Value), xs[j]? = some u → w.cell? (ad.add j) = some u) :
    ∀ (ad : Addr), some (⟨k, 0, none⟩ : Addr) = some ad → ∀ (j : Nat) (u : Value), xs[j]? = some u → w'.cell? (ad.add j) = some u := by
  intro ad ha j u hu
  have := h ad ha j u hu
  cases ha
  rw [add_at] at this ⊢
  exact (World.cell?_of_block (a := ⟨k, 0 + j, none⟩) (hg.block k hk (fun e => hne (Option.some.inj e)))).trans this

theorem all_take_on {l : List Int} {q : Int → Bool} {k : Nat} {y : Int} (h : l[k]? = some y) (h0 : (l.take k).all q = true) (hq : q y = true) : (l.take (k + 1)).all q = true := by
  rw [List.take_add_one, h, List.all_append, h0]
  simpa using hq
theorem all_take_off {l : List Int} {q : Int → Bool} {k : Nat} {y : Int} (h : l[k]? = some y) (hq : q y = false) : l.all q = false := by
  rw [List.all_eq_false]
  exact ⟨y, List.mem_of_getElem? h, by simp [hq]⟩

set_option maxHeartbeats 8000000 in
set_option maxRecDepth 100000 in
theorem radd_any (b : Nat) (x : G) (v : Value) (p : Pt) (w : World) (hG : RG w b x) (hv : PtV w v p) (hl : p.data.length ≤ 1000) (hnl : p.needs.length ≤ 1000) (h0 : 0 ≤ x.last) (hlast : x.last < 1000000) (hxl : x.l.length ≤ 1000) :
    Calls Try.prog 62 #[.pointer (some ⟨b, 0, none⟩), v] w fun e w' => e = .returned (.tuple #[.int .i64 (addG x p).1, .int .i64 (addG x p).2.1]) ∧ RG w' b (addG x p).2.2 ∧ Turn (fun j => j = b) w w' := by
  have HG := Lib.hid hG
  have HV := Lib.hid hv
  have hbl := hG.lt
  obtain ⟨vd, vn, rfl, hd, hvn⟩ := hv
  obtain ⟨A, c, rfl, h1, h2⟩ := hd.len
  obtain ⟨B, d, rfl, k1, k2⟩ := hvn.len
  rw [bytes_len] at h1 HV ⊢
  rw [ints_len] at k1 HV ⊢
  have HNA := Lib.hid (show Arr w 3 (.slice B p.needs.length d) (ints p.needs) from by rw [← ints_len p.needs]; exact hvn)
  unfold maxLen at h2 k2
  clear hd hvn hG
  have HR : rightB p x.last = (shapeB p && p.needs.all (needOk x.last)) := rfl
  have HS : shapeB p = (!(decide (p.sec < 0) || decide (2048 ≤ p.sec) || decide (p.kind < 0) || decide (6 < p.kind)) && !(decide ((p.data.length : Int) = 0) || decide (most p < p.data.length) || decide (p.off < 0) || decide (most p - p.data.length < p.off))) := rfl
  have HAd : rightB p x.last = false → addG x p = (0, 2, x) := fun h => by unfold addG; rw [h]; rfl
  have HAt : rightB p x.last = true → addG x p = (x.last + 1, 0, ⟨x.last + 1, x.l ++ [p.as (x.last + 1)]⟩) := fun h => by unfold addG; rw [h]; rfl
  obtain ⟨w1, hw1⟩ : ∃ w1, w1 = w.alloc (.cells #[.int .i64 p.id, .int .i64 p.sec, .int .i64 p.off, .slice A p.data.length c, .int .i64 p.kind, .slice B p.needs.length d, .int .i64 p.owner, .int .i64 p.child, .bool p.written] 30) := ⟨_, rfl⟩
  have HB1 := Lib.hid (show Below w.heap.size w w1 from by rw [hw1]; exact (Below.refl _ _).alloc (Nat.le_refl _) _)
  have hX : Blk w1 w.heap.size 30 #[.int .i64 p.id, .int .i64 p.sec, .int .i64 p.off, .slice A p.data.length c, .int .i64 p.kind, .slice B p.needs.length d, .int .i64 p.owner, .int .i64 p.child, .bool p.written] := by rw [hw1]; exact Blk.new _ _ _
  have HX := Lib.hid hX
  unfold Pt.val
  by_cases hk : p.kind = 0
  · have hm : most p = 64 := by unfold most; rw [if_pos hk]
    have t0 : (p.kind != 0) = false := by simp [hk]
    have a3 : ¬ p.kind < 0 := by omega
    have a4 : ¬ 6 < p.kind := by omega
    have ew : IntKind.i64.wrap (64 - (p.data.length : Int)) = 64 - (p.data.length : Int) := IntWalk.i64_in _ (by omega) |>.trans (by omega)
    by_cases a1 : p.sec < 0
    · have HF := Lib.hid (HAd (by rw [HR, HS]; simp [a1]))
      clear HR HS HAd HAt hX hw1
      go_enter Try.func62, Try.ntmps62
      go_wp2
      go_ret2
      exact ⟨by rw [HF.out]; rfl, by rw [HF.out]; exact HG.out.below ((Below.refl _ _).alloc (Nat.le_refl _) _), (Turn.refl _ _).alloc _⟩
    · by_cases a2 : 2048 ≤ p.sec
      · have b2 : 2047 < p.sec := by omega
        have HF := Lib.hid (HAd (by rw [HR, HS]; simp [a2]))
        clear HR HS HAd HAt hX hw1
        go_enter Try.func62, Try.ntmps62
        go_wp2
        go_ret2
        exact ⟨by rw [HF.out]; rfl, by rw [HF.out]; exact HG.out.below ((Below.refl _ _).alloc (Nat.le_refl _) _), (Turn.refl _ _).alloc _⟩
      · have b2 : ¬ 2047 < p.sec := by omega
        by_cases a5 : (p.data.length : Int) = 0
        · have b5 : ((p.data.length : Int) == 0) = true := beq_iff_eq.2 a5
          have HF := Lib.hid (HAd (by rw [HR, HS]; simp [a5]))
          clear HR HS HAd HAt hX hw1
          go_enter Try.func62, Try.ntmps62
          go_wp2
          go_ret2
          exact ⟨by rw [HF.out]; rfl, by rw [HF.out]; exact HG.out.below ((Below.refl _ _).alloc (Nat.le_refl _) _), (Turn.refl _ _).alloc _⟩
        · have b5 : ((p.data.length : Int) == 0) = false := beq_eq_false_iff_ne.2 a5
          by_cases a6 : (64 : Int) < p.data.length
          · have HF := Lib.hid (HAd (by rw [HR, HS]; simp [a6, hm]))
            clear HR HS HAd HAt hX hw1
            go_enter Try.func62, Try.ntmps62
            go_wp2
            go_ret2
            exact ⟨by rw [HF.out]; rfl, by rw [HF.out]; exact HG.out.below ((Below.refl _ _).alloc (Nat.le_refl _) _), (Turn.refl _ _).alloc _⟩
          · by_cases a7 : p.off < 0
            · have HF := Lib.hid (HAd (by rw [HR, HS]; simp [a7]))
              clear HR HS HAd HAt hX hw1
              go_enter Try.func62, Try.ntmps62
              go_wp2
              go_ret2
              exact ⟨by rw [HF.out]; rfl, by rw [HF.out]; exact HG.out.below ((Below.refl _ _).alloc (Nat.le_refl _) _), (Turn.refl _ _).alloc _⟩
            · by_cases a8 : (64 : Int) - p.data.length < p.off
              · have HF := Lib.hid (HAd (by rw [HR, HS]; simp [a8, hm]))
                clear HR HS HAd HAt hX hw1
                go_enter Try.func62, Try.ntmps62
                go_wp2
                go_ret2
                exact ⟨by rw [HF.out]; rfl, by rw [HF.out]; exact HG.out.below ((Below.refl _ _).alloc (Nat.le_refl _) _), (Turn.refl _ _).alloc _⟩
              · have HSh := Lib.hid (show rightB p x.last = p.needs.all (needOk x.last) by rw [HR, HS, hm, decide_eq_false a1, decide_eq_false a2, decide_eq_false a3, decide_eq_false a4, decide_eq_false a5, decide_eq_false a6, decide_eq_false a7, decide_eq_false a8]; simp)
                have HAA := Lib.hid HAt
                have HAF := Lib.hid HAd
                obtain ⟨lv, hg0, hgl⟩ := HG.out.below HB1.out
                have hc0 := hg0.cell 0
                simp at hc0
                have xx := hX.cell
                have x5 := xx 5
                simp at x5
                have HG0 := Lib.hid hg0
                have HGL := Lib.hid hgl
                have hNat := Lib.hid HNA.out.at
                have hb1l : b < w1.heap.size := hg0.lt
                have hxl1 : w.heap.size < w1.heap.size := hX.lt
                have hne : ¬ w.heap.size = b := by omega
                have f0 := hg0.frozen 0
                clear HR HS HAd HAt hX xx hg0 hgl
                go_enter Try.func62, Try.ntmps62
                go_upto_region 6 with (fail)
                first | rw [hk] at hw1 | skip
                rw [← hw1]
                clear hw1 hk t0 a1 a2 a3 a4 a5 a6 a7 a8 b2 b5 ew
                go_wp2_with fail
                go_loopw [7] (fun i wr => ∃ k : Nat, k ≤ p.needs.length ∧ i = .int .i64 k ∧ (∃ n, wr = w1.drewN n) ∧ Hid ((p.needs.take k).all (needOk x.last) = true)) (fun i _ => p.needs.length - (intOf i).toNat)
                case atStart => exact ⟨0, Nat.zero_le _, rfl, ⟨0, rfl⟩, by unfold Hid; rw [List.take_zero]; rfl⟩
                case round =>
                  obtain ⟨k, hk, rfl, ⟨n, rfl⟩, hT⟩ := hrel
                  by_cases hlt : k < p.needs.length
                  · obtain ⟨y, hy⟩ : ∃ y, p.needs[k]? = some y := ⟨_, List.getElem?_eq_getElem hlt⟩
                    obtain ⟨gb, o, cs, rfl, hbk, hcs⟩ := hNat.out k y hy
                    have hc1 : w1.cell? ⟨gb, o + k, none⟩ = some (.int .i64 y) := ((hbk.below HB1.out hbk.lt).cell (o + k)).trans hcs
                    have HY := Lib.hid hy
                    clear hbk hcs hy
                    by_cases y1 : y < 1
                    · have HF := Lib.hid (HAF.out (by rw [HSh.out, all_take_off HY.out (by unfold needOk; simp [y1])]))
                      have d1 : decide (y < 1) = true := decide_eq_true y1
                      go_wp2
                      go_quiet (fail)
                      go_wp2
                      go_ret2
                      exact ⟨by rw [HF.out]; rfl, by rw [HF.out]; have h := HG.out.below HB1.out; exact h, ((Turn.of_below (S := fun j => j = b) HB1.out).drewN n).drewN _⟩
                    · have d1 : decide (y < 1) = false := decide_eq_false y1
                      by_cases y2 : x.last < y
                      · have HF := Lib.hid (HAF.out (by rw [HSh.out, all_take_off HY.out (by unfold needOk; simp [y2])]))
                        have d2 : decide (x.last < y) = true := decide_eq_true y2
                        go_wp2
                        go_quiet (fail)
                        go_wp2
                        go_ret2
                        exact ⟨by rw [HF.out]; rfl, by rw [HF.out]; have h := HG.out.below HB1.out; exact h, ((Turn.of_below (S := fun j => j = b) HB1.out).drewN n).drewN _⟩
                      · have d2 : decide (x.last < y) = false := decide_eq_false y2
                        have HT2 := Lib.hid (all_take_on HY.out hT.out (show needOk x.last y = true by unfold needOk; simp [y1, y2]))
                        go_wp2
                        go_quiet (fail)
                        go_wp2
                        go_roundw
                        case rel => exact ⟨k + 1, by omega, by go_num, ⟨_, rfl⟩, HT2.out⟩
                        case measure => simp [intOf]; omega
                  · obtain rfl : k = p.needs.length := by omega
                    have HF := Lib.hid (HAA.out (by rw [HSh.out]; have h := hT.out; rwa [List.take_length] at h))
                    obtain ⟨W0, hW0⟩ : ∃ W0, W0 = w1.drewN n := ⟨_, rfl⟩
                    have ew : IntKind.i64.wrap (x.last + 1) = x.last + 1 := IntWalk.i64_in _ (by omega) |>.trans (by omega)
                    have HX0 := Lib.hid (HX.out.drewN n)
                    have xx := HX0.out.cell
                    have x0 := xx 0
                    have x1 := xx 1
                    have x2 := xx 2
                    have x3 := xx 3
                    have x4 := xx 4
                    have x5' := xx 5
                    have x6 := xx 6
                    have x7 := xx 7
                    have x8 := xx 8
                    simp at x0 x1 x2 x3 x4 x5' x6 x7 x8
                    clear xx hlt
                    go_upto_region 12 with (fail)
                    have hgw := (show Blk w1 b 91 _ from HG0.out)
                    have T1 : Turn (fun j => j = b) w1 ((w1.drewN n).setCell ⟨b, 0, none⟩ (.int .i64 (x.last + 1))) := ((Turn.refl (fun j => j = b) w1).drewN n).setCell (p := ⟨b, 0, none⟩) (fun _ => rfl) (.int .i64 (x.last + 1))
                    have hTb : ∀ i t cs, (t = 3 ∨ t = 5 ∨ t = 30) → Blk w1 i t cs → Blk ((w1.drewN n).setCell ⟨b, 0, none⟩ (.int .i64 (x.last + 1))) i t cs := fun i t cs ht kk => kk.turn T1 (fun e => kk.ne_ hgw (by rcases ht with rfl | rfl | rfl <;> decide) e)
                    have HP1 := Lib.hid ((HV.out.below HB1.out).move fun i t cs ht kk => hTb i t cs (by rcases ht with rfl | rfl <;> simp) kk)
                    have HX1 := Lib.hid (hTb _ _ _ (.inr (.inr rfl)) HX.out)
                    have HL1 := Lib.hid (HGL.out.move hTb)
                    have hB0 : Blk (w1.setCell ⟨b, 0, none⟩ (.int .i64 (x.last + 1))) b 91 #[.int .i64 (x.last + 1), lv] := by
                      have := HG0.out.set_ 0 (.int .i64 (x.last + 1))
                      simpa using this
                    have HBk1 := Lib.hid (show Blk ((w1.drewN n).setCell ⟨b, 0, none⟩ (.int .i64 (x.last + 1))) b 91 #[.int .i64 (x.last + 1), lv] from hB0)
                    have HT1 := Lib.hid ((Turn.of_below (S := fun j => j = b) HB1.out).trans T1 (fun i hi e => e))
                    have hsz1 : ((w1.drewN n).setCell ⟨b, 0, none⟩ (.int .i64 (x.last + 1))).heap.size = w1.heap.size := by simp [World.setCell]
                    clear hgw T1 hTb hB0 hW0
                    clear W0
                    generalize (w1.drewN n).setCell ⟨b, 0, none⟩ (.int .i64 (x.last + 1)) = W1 at *
                    have xx := HX1.out.cell
                    have z0 := xx 0
                    have z1 := xx 1
                    have z2 := xx 2
                    have z3 := xx 3
                    have z4 := xx 4
                    have z5 := xx 5
                    have z6 := xx 6
                    have z7 := xx 7
                    have z8 := xx 8
                    simp at z0 z1 z2 z3 z4 z5 z6 z7 z8
                    have lX1 := HX1.out.lt
                    have HOwn := Lib.hid (rown_any _ p W1 HP1.out hl hnl)
                    unfold Pt.val at HOwn
                    clear xx x0 x1 x2 x3 x4 x5' x6 x7 x8 HX HX0 hc0 f0 x5
                    go_wp2_with fail
                    refine HOwn.out.mono ?_
                    rintro e w3 ⟨r, rfl, ⟨vd', vn', rfl, hd', hn'⟩, hb3⟩
                    obtain ⟨A3, c3, rfl, -, -⟩ := hd'.len
                    obtain ⟨A4, c4, rfl, -, -⟩ := hn'.len
                    have hs3 := hb3.size
                    have HBk3 := Lib.hid (HBk1.out.below hb3 HBk1.out.lt)
                    have HL3 := Lib.hid (HL1.out.below hb3)
                    have HT3 := Lib.hid (HT1.out.trans (Turn.of_below (S := fun _ => False) hb3) (fun i hi e => e.elim))
                    have HD3 := Lib.hid hd'
                    have HN3 := Lib.hid hn'
                    have c0 := HBk3.out.cell 0
                    have c1 := HBk3.out.cell 1
                    simp at c0 c1
                    have hb3l : b < w3.heap.size := HBk3.out.lt
                    have hne3 : ¬ w3.heap.size = b := by omega
                    clear hb3 hd' hn' z0 z1 z2 z3 z4 z5 z6 z7 z8 HOwn
                    unfold Pt.val
                    go_upto_region 14 with (fail)
                    obtain ⟨i0, hi0, hz0, hz1, hz2⟩ := info_parts info30
                    obtain ⟨W4, hW4⟩ : ∃ W4, W4 = w3.alloc (.cells #[.int .i64 (x.last + 1), .int .i64 p.sec, .int .i64 p.off, .slice A3 (bytes p.data).length c3, .int .i64 p.kind, .slice A4 (ints p.needs).length c4, .int .i64 p.owner, .int .i64 p.child, .bool false] 30) := ⟨_, rfl⟩
                    rw [← hW4]
                    have HX4 := Lib.hid (show Blk W4 w3.heap.size 30 #[.int .i64 (x.last + 1), .int .i64 p.sec, .int .i64 p.off, .slice A3 (bytes p.data).length c3, .int .i64 p.kind, .slice A4 (ints p.needs).length c4, .int .i64 p.owner, .int .i64 p.child, .bool false] from by rw [hW4]; exact Blk.new _ _ _)
                    have HBk4 := Lib.hid (show Blk W4 b 91 _ from by rw [hW4]; exact HBk3.out.alloc _)
                    have HT4 := Lib.hid (show Turn (fun j => j = b) w W4 from by rw [hW4]; exact HT3.out.alloc _)
                    have HD4 := Lib.hid (show Arr W4 5 _ _ from by rw [hW4]; exact HD3.out.alloc _)
                    have HN4 := Lib.hid (show Arr W4 3 _ _ from by rw [hW4]; exact HN3.out.alloc _)
                    have hL4 : RL W4 lv x.l := by rw [hW4]; exact HL3.out.below ((Below.refl _ _).alloc (Nat.le_refl _) _)
                    obtain ⟨L, AL, cL, hLx, rfl, hLA, hLc, hL1, hLa⟩ := hL4.parts
                    have HLA := Lib.hid hLA
                    have HLc := Lib.hid hLc
                    have HL1 := Lib.hid hL1
                    have HLa := Lib.hid hLa
                    have HLx := Lib.hid hLx
                    have hLl : L.length ≤ 1000 := by have := congrArg List.length hLx; rw [List.length_map] at this; omega
                    have hLl9 := Lib.hid (ptCells_len L)
                    have hs4 : w3.heap.size < W4.heap.size := HX4.out.lt
                    have hb4 : b < W4.heap.size := HBk4.out.lt
                    clear hW4 hL4 hLA hLc hL1 hLa hLx c0 c1 hb3l HBk3 HL3 HD3 HN3
                    obtain ⟨n8, hn8⟩ : ∃ n8, n8 = w3.heap.size := ⟨_, rfl⟩
                    rw [← hn8] at HX4 hs4 hne3 ⊢
                    have Hn8 := Lib.hid hn8
                    clear hn8
                    have HS := Lib.hid fun (W : World) (h : Below W4.heap.size W4 W) => show W.cell? ⟨n8, 0, none⟩ = some (.int .i64 (x.last + 1)) ∧ W.cell? ⟨n8, 1, none⟩ = some (.int .i64 p.sec) ∧ W.cell? ⟨n8, 2, none⟩ = some (.int .i64 p.off) ∧ W.cell? ⟨n8, 3, none⟩ = some (.slice A3 (bytes p.data).length c3) ∧ W.cell? ⟨n8, 4, none⟩ = some (.int .i64 p.kind) ∧ W.cell? ⟨n8, 5, none⟩ = some (.slice A4 (ints p.needs).length c4) ∧ W.cell? ⟨n8, 6, none⟩ = some (.int .i64 p.owner) ∧ W.cell? ⟨n8, 7, none⟩ = some (.int .i64 p.child) ∧ W.cell? ⟨n8, 8, none⟩ = some (.bool false) from by
                      have hx := (HX4.out.below h hs4).cell
                      exact ⟨hx 0, hx 1, hx 2, hx 3, hx 4, hx 5, hx 6, hx 7, hx 8⟩
                    have HSn := Lib.hid fun (W : World) (u : Value) (h : Below W4.heap.size W4 W) => show (W.setCell ⟨b, 1, none⟩ u).cell? ⟨n8, 0, none⟩ = some (.int .i64 (x.last + 1)) ∧ (W.setCell ⟨b, 1, none⟩ u).cell? ⟨n8, 1, none⟩ = some (.int .i64 p.sec) ∧ (W.setCell ⟨b, 1, none⟩ u).cell? ⟨n8, 2, none⟩ = some (.int .i64 p.off) ∧ (W.setCell ⟨b, 1, none⟩ u).cell? ⟨n8, 3, none⟩ = some (.slice A3 (bytes p.data).length c3) ∧ (W.setCell ⟨b, 1, none⟩ u).cell? ⟨n8, 4, none⟩ = some (.int .i64 p.kind) ∧ (W.setCell ⟨b, 1, none⟩ u).cell? ⟨n8, 5, none⟩ = some (.slice A4 (ints p.needs).length c4) ∧ (W.setCell ⟨b, 1, none⟩ u).cell? ⟨n8, 6, none⟩ = some (.int .i64 p.owner) ∧ (W.setCell ⟨b, 1, none⟩ u).cell? ⟨n8, 7, none⟩ = some (.int .i64 p.child) ∧ (W.setCell ⟨b, 1, none⟩ u).cell? ⟨n8, 8, none⟩ = some (.bool false) from by
                      have hx := ((HX4.out.below h hs4).far (p := ⟨b, 1, none⟩) hne3 u).cell
                      exact ⟨hx 0, hx 1, hx 2, hx 3, hx 4, hx 5, hx 6, hx 7, hx 8⟩
                    have hd0 : Below W4.heap.size W4 W4.drew := (Below.refl _ _).drew
                    have hn8 := (HS.out _ (Below.refl _ _))
                    obtain ⟨y0, y1, y2, y3, y4, y5, y6, y7, y8⟩ := hn8
                    have hbc : W4.cell? ⟨b, 1, none⟩ = some (.slice AL L.length cL) := HBk4.out.cell 1
                    have HRC := Lib.hid (show (((W4.alloc (.cells #[.int .i64 (x.last + 1), .int .i64 p.sec, .int .i64 p.off, .slice A3 (bytes p.data).length c3, .int .i64 p.kind, .slice A4 (ints p.needs).length c4, .int .i64 p.owner, .int .i64 p.child, .bool false] 30)).alloc (.cells #[] 30)).drew).ownsRow W4.heap.size 30 9 (.slice (some ⟨W4.heap.size + 1, 0, none⟩) 0 0) 0 [] from by
                      have h := World.ownsRow_made (base := W4.heap.size) (e := 30) (size := 9) (W4.alloc (.cells #[.int .i64 (x.last + 1), .int .i64 p.sec, .int .i64 p.off, .slice A3 (bytes p.data).length c3, .int .i64 p.kind, .slice A4 (ints p.needs).length c4, .int .i64 p.owner, .int .i64 p.child, .bool false] 30)) #[] 0 (by simp) (Nat.zero_le _) rfl
                      have e : (W4.alloc (.cells #[.int .i64 (x.last + 1), .int .i64 p.sec, .int .i64 p.off, .slice A3 (bytes p.data).length c3, .int .i64 p.kind, .slice A4 (ints p.needs).length c4, .int .i64 p.owner, .int .i64 p.child, .bool false] 30)).heap.size = W4.heap.size + 1 := by simp
                      rw [e] at h
                      exact h)
                    go_region_law (first
                        | (refine step_append_some rfl (.tmp 99) (.tmp 103) 50 rfl W4.heap.size 30 i0 _ 9 104 Try.underlying50 hi0 hz0 hz1 hz2 (by rfl) (by decide) _ 0 0 [] (by rfl) (by first | exact World.ownsRow_made W4.drew #[] 0 (Nat.le_refl _) (Nat.zero_le _) rfl | exact World.ownsRow.alloc (World.ownsRow_made W4.drew #[] 0 (Nat.le_refl _) (Nat.zero_le _) rfl) _ | exact HRC.out) AL L.length cL (ptCells L) (by rfl) hLl9.out HLA.out (fun ad hA j u hu => ((show Below W4.heap.size W4 _ from by first | exact hd0.alloc hd0.size _ | exact (hd0.alloc hd0.size _).alloc (by simp) _).cell (p := ad.add j) (by rw [add_block]; exact (HLc.out ad hA j u hu).1)).trans (HLc.out ad hA j u hu).2) HL1.out L.length (by omega) (by simp only [maxLen]; omega) (by omega) (by simp; try omega) ?_
                           intro g1 cap1 wa hown1 hgrow1 hat1 hlt1
                           rw [List.nil_append] at hown1
                           have hbe1 : Below W4.heap.size W4 wa := by first | exact (hd0.alloc hd0.size _).grown hgrow1 (by simp) (fun j hj => by have e := Option.some.inj hj; (try simp at e); omega) | exact ((hd0.alloc hd0.size _).alloc (by simp) _).grown hgrow1 (by simp; omega) (fun j hj => by have e := Option.some.inj hj; (try simp at e); omega)
                           first
                             | have hC1 := grown_new (k := W4.heap.size + 1) hgrow1 (by simp <;> omega) (by simp <;> omega) (fun ad h j u hu => cells_new (W4.drew.alloc (.cells #[] 30)) 30 #[.int .i64 (x.last + 1), .int .i64 p.sec, .int .i64 p.off, .slice A3 (bytes p.data).length c3, .int .i64 p.kind, .slice A4 (ints p.needs).length c4, .int .i64 p.owner, .int .i64 p.child, .bool false] ad (by simpa using h) j u hu)
                             | have hC1 := grown_new (k := W4.heap.size) hgrow1 (by simp <;> omega) (by simp <;> omega) (fun ad h j u hu => (((Below.refl _ _).alloc (Nat.le_refl _) (.cells #[] 30)).cell (p := ad.add j) (by cases h; rw [add_block]; simp)).trans (cells_new W4.drew 30 #[.int .i64 (x.last + 1), .int .i64 p.sec, .int .i64 p.off, .slice A3 (bytes p.data).length c3, .int .i64 p.kind, .slice A4 (ints p.needs).length c4, .int .i64 p.owner, .int .i64 p.child, .bool false] ad h j u hu))
                             | skip
                           obtain ⟨y0a, y1a, y2a, y3a, y4a, y5a, y6a, y7a, y8a⟩ := HS.out _ hbe1)
                        | (refine step_append_some rfl (.tmp 104) (.tmp 106) 50 rfl W4.heap.size 30 i0 _ 9 104 Try.underlying50 hi0 hz0 hz1 hz2 (by rfl) (by decide) g1 cap1 L.length (ptCells L) (by rfl) (by first | exact hown1 | exact World.ownsRow.alloc hown1 _) (some ⟨_, 0, none⟩) 1 1 (#[.int .i64 (x.last + 1), .int .i64 p.sec, .int .i64 p.off, .slice A3 (bytes p.data).length c3, .int .i64 p.kind, .slice A4 (ints p.needs).length c4, .int .i64 p.owner, .int .i64 p.child, .bool false]).toList (by rfl) (by rfl) (fun h => by cases h) (by first | exact hC1 | exact cells_new wa 30 _) (by simp [Value.oneCell']) (L.length + 1) rfl (by simp only [maxLen]; omega) (by omega) (by have := hbe1.size; first | omega | (simp; omega)) ?_
                           intro g2 cap2 wb hown2 hgrow2 hat2 hlt2
                           have hg1b : W4.heap.size ≤ g1 := (World.ownsRow.lt hown1 g1 rfl).1
                           have hbe2 : Below W4.heap.size W4 wb := by first | exact hbe1.grown hgrow2 hbe1.size (fun j hj => by have e := Option.some.inj hj; omega) | exact (hbe1.alloc hbe1.size _).grown hgrow2 (by have := hbe1.size; simp; omega) (fun j hj => by have e := Option.some.inj hj; omega)
                           have hbc2 : wb.cell? ⟨b, 1, none⟩ = some (.slice AL L.length cL) := (HBk4.out.below hbe2 hb4).cell 1
                           have hbf2 := (HBk4.out.below hbe2 hb4).frozen 1))
                    all_goals
                      have hgb := HBk4.out.below hbe2 hb4
                      have hTX : Turn (fun j => j = b) wb (wb.setCell ⟨b, 1, none⟩ (.slice (some ⟨g2, 0, none⟩) (L.length + 1) cap2)) := (Turn.refl (fun j => j = b) wb).setCell (p := ⟨b, 1, none⟩) (fun _ => rfl) _
                      have HTX := Lib.hid ((HT4.out.trans (Turn.of_below (S := fun _ => False) hbe2) (fun i hi e => e.elim)).trans hTX (fun i hi e => e))
                      have HRG := Lib.hid (show RG (wb.setCell ⟨b, 1, none⟩ (.slice (some ⟨g2, 0, none⟩) (L.length + 1) cap2)) b ⟨x.last + 1, x.l ++ [p.as (x.last + 1)]⟩ from ⟨.slice (some ⟨g2, 0, none⟩) (L.length + 1) cap2, by
                        have h := hgb.set_ 1 (.slice (some ⟨g2, 0, none⟩) (L.length + 1) cap2)
                        simpa using h, by
                        have hr : RL wb (.slice (some ⟨g2, 0, none⟩) (L.length + 1) cap2) ((L ++ [(Value.slice A3 (bytes p.data).length c3, Value.slice A4 (ints p.needs).length c4, p.as (x.last + 1))]).map (fun e : Value × Value × Pt => e.2.2)) := by
                          refine RL.of_own (B := W4.heap.size) (n := L.length + 1) ?_ (by simp) ?_
                          · have e : ptCells (L ++ [(Value.slice A3 (bytes p.data).length c3, Value.slice A4 (ints p.needs).length c4, p.as (x.last + 1))]) = ptCells L ++ (#[.int .i64 (x.last + 1), .int .i64 p.sec, .int .i64 p.off, .slice A3 (bytes p.data).length c3, .int .i64 p.kind, .slice A4 (ints p.needs).length c4, .int .i64 p.owner, .int .i64 p.child, .bool false]).toList := by
                              unfold ptCells
                              rw [List.flatMap_append]
                              rfl
                            rw [e]
                            exact hown2
                          · intro e he
                            rcases List.mem_append.1 he with he | he
                            · exact ⟨(HLa.out e he).1.below hbe2, (HLa.out e he).2.below hbe2⟩
                            · rw [List.mem_singleton.1 he]
                              exact ⟨HD4.out.below hbe2, HN4.out.below hbe2⟩
                        rw [List.map_append, ← HLx.out] at hr
                        exact hr.move fun i t cs ht kk => kk.turn hTX (fun e => kk.ne_ hgb (by rcases ht with rfl | rfl | rfl <;> decide) e)⟩)
                      obtain ⟨v0, v1, v2, v3, v4, v5, v6, v7, v8⟩ := HSn.out wb (.slice (some ⟨g2, 0, none⟩) (L.length + 1) cap2) hbe2
                      clear hown1 hgrow1 hat1 hown2 hgrow2 hat2 hgb hTX hbe1 hbe2
                      generalize wb.setCell ⟨b, 1, none⟩ (.slice (some ⟨g2, 0, none⟩) (L.length + 1) cap2) = X at *
                      go_wp2
                      go_ret2
                      exact ⟨by rw [HF.out]; rfl, by rw [HF.out]; exact HRG.out, HTX.out⟩
  · have hm : most p = 54 := by unfold most; rw [if_neg hk]
    have t0 : (p.kind != 0) = true := bne_iff_ne.2 hk
    have ew : IntKind.i64.wrap (54 - (p.data.length : Int)) = 54 - (p.data.length : Int) := IntWalk.i64_in _ (by omega) |>.trans (by omega)
    by_cases a1 : p.sec < 0
    · have HF := Lib.hid (HAd (by rw [HR, HS]; simp [a1]))
      clear HR HS HAd HAt hX hw1
      go_enter Try.func62, Try.ntmps62
      go_wp2
      go_ret2
      exact ⟨by rw [HF.out]; rfl, by rw [HF.out]; exact HG.out.below ((Below.refl _ _).alloc (Nat.le_refl _) _), (Turn.refl _ _).alloc _⟩
    · by_cases a2 : 2048 ≤ p.sec
      · have b2 : 2047 < p.sec := by omega
        have HF := Lib.hid (HAd (by rw [HR, HS]; simp [a2]))
        clear HR HS HAd HAt hX hw1
        go_enter Try.func62, Try.ntmps62
        go_wp2
        go_ret2
        exact ⟨by rw [HF.out]; rfl, by rw [HF.out]; exact HG.out.below ((Below.refl _ _).alloc (Nat.le_refl _) _), (Turn.refl _ _).alloc _⟩
      · have b2 : ¬ 2047 < p.sec := by omega
        by_cases a3 : p.kind < 0
        · have HF := Lib.hid (HAd (by rw [HR, HS]; simp [a3]))
          clear HR HS HAd HAt hX hw1
          go_enter Try.func62, Try.ntmps62
          go_wp2
          go_ret2
          exact ⟨by rw [HF.out]; rfl, by rw [HF.out]; exact HG.out.below ((Below.refl _ _).alloc (Nat.le_refl _) _), (Turn.refl _ _).alloc _⟩
        · by_cases a4 : 6 < p.kind
          · have HF := Lib.hid (HAd (by rw [HR, HS]; simp [a4]))
            clear HR HS HAd HAt hX hw1
            go_enter Try.func62, Try.ntmps62
            go_wp2
            go_ret2
            exact ⟨by rw [HF.out]; rfl, by rw [HF.out]; exact HG.out.below ((Below.refl _ _).alloc (Nat.le_refl _) _), (Turn.refl _ _).alloc _⟩
          · by_cases a5 : (p.data.length : Int) = 0
            · have b5 : ((p.data.length : Int) == 0) = true := beq_iff_eq.2 a5
              have HF := Lib.hid (HAd (by rw [HR, HS]; simp [a5]))
              clear HR HS HAd HAt hX hw1
              go_enter Try.func62, Try.ntmps62
              go_wp2
              go_ret2
              exact ⟨by rw [HF.out]; rfl, by rw [HF.out]; exact HG.out.below ((Below.refl _ _).alloc (Nat.le_refl _) _), (Turn.refl _ _).alloc _⟩
            · have b5 : ((p.data.length : Int) == 0) = false := beq_eq_false_iff_ne.2 a5
              by_cases a6 : (54 : Int) < p.data.length
              · have HF := Lib.hid (HAd (by rw [HR, HS]; simp [a6, hm]))
                clear HR HS HAd HAt hX hw1
                go_enter Try.func62, Try.ntmps62
                go_wp2
                go_ret2
                exact ⟨by rw [HF.out]; rfl, by rw [HF.out]; exact HG.out.below ((Below.refl _ _).alloc (Nat.le_refl _) _), (Turn.refl _ _).alloc _⟩
              · by_cases a7 : p.off < 0
                · have HF := Lib.hid (HAd (by rw [HR, HS]; simp [a7]))
                  clear HR HS HAd HAt hX hw1
                  go_enter Try.func62, Try.ntmps62
                  go_wp2
                  go_ret2
                  exact ⟨by rw [HF.out]; rfl, by rw [HF.out]; exact HG.out.below ((Below.refl _ _).alloc (Nat.le_refl _) _), (Turn.refl _ _).alloc _⟩
                · by_cases a8 : (54 : Int) - p.data.length < p.off
                  · have HF := Lib.hid (HAd (by rw [HR, HS]; simp [a8, hm]))
                    clear HR HS HAd HAt hX hw1
                    go_enter Try.func62, Try.ntmps62
                    go_wp2
                    go_ret2
                    exact ⟨by rw [HF.out]; rfl, by rw [HF.out]; exact HG.out.below ((Below.refl _ _).alloc (Nat.le_refl _) _), (Turn.refl _ _).alloc _⟩
                  · have HSh := Lib.hid (show rightB p x.last = p.needs.all (needOk x.last) by rw [HR, HS, hm, decide_eq_false a1, decide_eq_false a2, decide_eq_false a3, decide_eq_false a4, decide_eq_false a5, decide_eq_false a6, decide_eq_false a7, decide_eq_false a8]; simp)
                    have HAA := Lib.hid HAt
                    have HAF := Lib.hid HAd
                    obtain ⟨lv, hg0, hgl⟩ := HG.out.below HB1.out
                    have hc0 := hg0.cell 0
                    simp at hc0
                    have xx := hX.cell
                    have x5 := xx 5
                    simp at x5
                    have HG0 := Lib.hid hg0
                    have HGL := Lib.hid hgl
                    have hNat := Lib.hid HNA.out.at
                    have hb1l : b < w1.heap.size := hg0.lt
                    have hxl1 : w.heap.size < w1.heap.size := hX.lt
                    have hne : ¬ w.heap.size = b := by omega
                    have f0 := hg0.frozen 0
                    clear HR HS HAd HAt hX xx hg0 hgl
                    go_enter Try.func62, Try.ntmps62
                    go_upto_region 6 with (fail)
                    first | rw [hk] at hw1 | skip
                    rw [← hw1]
                    clear hw1 hk t0 a1 a2 a3 a4 a5 a6 a7 a8 b2 b5 ew
                    go_wp2_with fail
                    go_loopw [7] (fun i wr => ∃ k : Nat, k ≤ p.needs.length ∧ i = .int .i64 k ∧ (∃ n, wr = w1.drewN n) ∧ Hid ((p.needs.take k).all (needOk x.last) = true)) (fun i _ => p.needs.length - (intOf i).toNat)
                    case atStart => exact ⟨0, Nat.zero_le _, rfl, ⟨0, rfl⟩, by unfold Hid; rw [List.take_zero]; rfl⟩
                    case round =>
                      obtain ⟨k, hk, rfl, ⟨n, rfl⟩, hT⟩ := hrel
                      by_cases hlt : k < p.needs.length
                      · obtain ⟨y, hy⟩ : ∃ y, p.needs[k]? = some y := ⟨_, List.getElem?_eq_getElem hlt⟩
                        obtain ⟨gb, o, cs, rfl, hbk, hcs⟩ := hNat.out k y hy
                        have hc1 : w1.cell? ⟨gb, o + k, none⟩ = some (.int .i64 y) := ((hbk.below HB1.out hbk.lt).cell (o + k)).trans hcs
                        have HY := Lib.hid hy
                        clear hbk hcs hy
                        by_cases y1 : y < 1
                        · have HF := Lib.hid (HAF.out (by rw [HSh.out, all_take_off HY.out (by unfold needOk; simp [y1])]))
                          have d1 : decide (y < 1) = true := decide_eq_true y1
                          go_wp2
                          go_quiet (fail)
                          go_wp2
                          go_ret2
                          exact ⟨by rw [HF.out]; rfl, by rw [HF.out]; have h := HG.out.below HB1.out; exact h, ((Turn.of_below (S := fun j => j = b) HB1.out).drewN n).drewN _⟩
                        · have d1 : decide (y < 1) = false := decide_eq_false y1
                          by_cases y2 : x.last < y
                          · have HF := Lib.hid (HAF.out (by rw [HSh.out, all_take_off HY.out (by unfold needOk; simp [y2])]))
                            have d2 : decide (x.last < y) = true := decide_eq_true y2
                            go_wp2
                            go_quiet (fail)
                            go_wp2
                            go_ret2
                            exact ⟨by rw [HF.out]; rfl, by rw [HF.out]; have h := HG.out.below HB1.out; exact h, ((Turn.of_below (S := fun j => j = b) HB1.out).drewN n).drewN _⟩
                          · have d2 : decide (x.last < y) = false := decide_eq_false y2
                            have HT2 := Lib.hid (all_take_on HY.out hT.out (show needOk x.last y = true by unfold needOk; simp [y1, y2]))
                            go_wp2
                            go_quiet (fail)
                            go_wp2
                            go_roundw
                            case rel => exact ⟨k + 1, by omega, by go_num, ⟨_, rfl⟩, HT2.out⟩
                            case measure => simp [intOf]; omega
                      · obtain rfl : k = p.needs.length := by omega
                        have HF := Lib.hid (HAA.out (by rw [HSh.out]; have h := hT.out; rwa [List.take_length] at h))
                        obtain ⟨W0, hW0⟩ : ∃ W0, W0 = w1.drewN n := ⟨_, rfl⟩
                        have ew : IntKind.i64.wrap (x.last + 1) = x.last + 1 := IntWalk.i64_in _ (by omega) |>.trans (by omega)
                        have HX0 := Lib.hid (HX.out.drewN n)
                        have xx := HX0.out.cell
                        have x0 := xx 0
                        have x1 := xx 1
                        have x2 := xx 2
                        have x3 := xx 3
                        have x4 := xx 4
                        have x5' := xx 5
                        have x6 := xx 6
                        have x7 := xx 7
                        have x8 := xx 8
                        simp at x0 x1 x2 x3 x4 x5' x6 x7 x8
                        clear xx hlt
                        go_upto_region 12 with (fail)
                        have hgw := (show Blk w1 b 91 _ from HG0.out)
                        have T1 : Turn (fun j => j = b) w1 ((w1.drewN n).setCell ⟨b, 0, none⟩ (.int .i64 (x.last + 1))) := ((Turn.refl (fun j => j = b) w1).drewN n).setCell (p := ⟨b, 0, none⟩) (fun _ => rfl) (.int .i64 (x.last + 1))
                        have hTb : ∀ i t cs, (t = 3 ∨ t = 5 ∨ t = 30) → Blk w1 i t cs → Blk ((w1.drewN n).setCell ⟨b, 0, none⟩ (.int .i64 (x.last + 1))) i t cs := fun i t cs ht kk => kk.turn T1 (fun e => kk.ne_ hgw (by rcases ht with rfl | rfl | rfl <;> decide) e)
                        have HP1 := Lib.hid ((HV.out.below HB1.out).move fun i t cs ht kk => hTb i t cs (by rcases ht with rfl | rfl <;> simp) kk)
                        have HX1 := Lib.hid (hTb _ _ _ (.inr (.inr rfl)) HX.out)
                        have HL1 := Lib.hid (HGL.out.move hTb)
                        have hB0 : Blk (w1.setCell ⟨b, 0, none⟩ (.int .i64 (x.last + 1))) b 91 #[.int .i64 (x.last + 1), lv] := by
                          have := HG0.out.set_ 0 (.int .i64 (x.last + 1))
                          simpa using this
                        have HBk1 := Lib.hid (show Blk ((w1.drewN n).setCell ⟨b, 0, none⟩ (.int .i64 (x.last + 1))) b 91 #[.int .i64 (x.last + 1), lv] from hB0)
                        have HT1 := Lib.hid ((Turn.of_below (S := fun j => j = b) HB1.out).trans T1 (fun i hi e => e))
                        have hsz1 : ((w1.drewN n).setCell ⟨b, 0, none⟩ (.int .i64 (x.last + 1))).heap.size = w1.heap.size := by simp [World.setCell]
                        clear hgw T1 hTb hB0 hW0
                        clear W0
                        generalize (w1.drewN n).setCell ⟨b, 0, none⟩ (.int .i64 (x.last + 1)) = W1 at *
                        have xx := HX1.out.cell
                        have z0 := xx 0
                        have z1 := xx 1
                        have z2 := xx 2
                        have z3 := xx 3
                        have z4 := xx 4
                        have z5 := xx 5
                        have z6 := xx 6
                        have z7 := xx 7
                        have z8 := xx 8
                        simp at z0 z1 z2 z3 z4 z5 z6 z7 z8
                        have lX1 := HX1.out.lt
                        have HOwn := Lib.hid (rown_any _ p W1 HP1.out hl hnl)
                        unfold Pt.val at HOwn
                        clear xx x0 x1 x2 x3 x4 x5' x6 x7 x8 HX HX0 hc0 f0 x5
                        go_wp2_with fail
                        refine HOwn.out.mono ?_
                        rintro e w3 ⟨r, rfl, ⟨vd', vn', rfl, hd', hn'⟩, hb3⟩
                        obtain ⟨A3, c3, rfl, -, -⟩ := hd'.len
                        obtain ⟨A4, c4, rfl, -, -⟩ := hn'.len
                        have hs3 := hb3.size
                        have HBk3 := Lib.hid (HBk1.out.below hb3 HBk1.out.lt)
                        have HL3 := Lib.hid (HL1.out.below hb3)
                        have HT3 := Lib.hid (HT1.out.trans (Turn.of_below (S := fun _ => False) hb3) (fun i hi e => e.elim))
                        have HD3 := Lib.hid hd'
                        have HN3 := Lib.hid hn'
                        have c0 := HBk3.out.cell 0
                        have c1 := HBk3.out.cell 1
                        simp at c0 c1
                        have hb3l : b < w3.heap.size := HBk3.out.lt
                        have hne3 : ¬ w3.heap.size = b := by omega
                        clear hb3 hd' hn' z0 z1 z2 z3 z4 z5 z6 z7 z8 HOwn
                        unfold Pt.val
                        go_upto_region 14 with (fail)
                        obtain ⟨i0, hi0, hz0, hz1, hz2⟩ := info_parts info30
                        obtain ⟨W4, hW4⟩ : ∃ W4, W4 = w3.alloc (.cells #[.int .i64 (x.last + 1), .int .i64 p.sec, .int .i64 p.off, .slice A3 (bytes p.data).length c3, .int .i64 p.kind, .slice A4 (ints p.needs).length c4, .int .i64 p.owner, .int .i64 p.child, .bool false] 30) := ⟨_, rfl⟩
                        rw [← hW4]
                        have HX4 := Lib.hid (show Blk W4 w3.heap.size 30 #[.int .i64 (x.last + 1), .int .i64 p.sec, .int .i64 p.off, .slice A3 (bytes p.data).length c3, .int .i64 p.kind, .slice A4 (ints p.needs).length c4, .int .i64 p.owner, .int .i64 p.child, .bool false] from by rw [hW4]; exact Blk.new _ _ _)
                        have HBk4 := Lib.hid (show Blk W4 b 91 _ from by rw [hW4]; exact HBk3.out.alloc _)
                        have HT4 := Lib.hid (show Turn (fun j => j = b) w W4 from by rw [hW4]; exact HT3.out.alloc _)
                        have HD4 := Lib.hid (show Arr W4 5 _ _ from by rw [hW4]; exact HD3.out.alloc _)
                        have HN4 := Lib.hid (show Arr W4 3 _ _ from by rw [hW4]; exact HN3.out.alloc _)
                        have hL4 : RL W4 lv x.l := by rw [hW4]; exact HL3.out.below ((Below.refl _ _).alloc (Nat.le_refl _) _)
                        obtain ⟨L, AL, cL, hLx, rfl, hLA, hLc, hL1, hLa⟩ := hL4.parts
                        have HLA := Lib.hid hLA
                        have HLc := Lib.hid hLc
                        have HL1 := Lib.hid hL1
                        have HLa := Lib.hid hLa
                        have HLx := Lib.hid hLx
                        have hLl : L.length ≤ 1000 := by have := congrArg List.length hLx; rw [List.length_map] at this; omega
                        have hLl9 := Lib.hid (ptCells_len L)
                        have hs4 : w3.heap.size < W4.heap.size := HX4.out.lt
                        have hb4 : b < W4.heap.size := HBk4.out.lt
                        clear hW4 hL4 hLA hLc hL1 hLa hLx c0 c1 hb3l HBk3 HL3 HD3 HN3
                        obtain ⟨n8, hn8⟩ : ∃ n8, n8 = w3.heap.size := ⟨_, rfl⟩
                        rw [← hn8] at HX4 hs4 hne3 ⊢
                        have Hn8 := Lib.hid hn8
                        clear hn8
                        have HS := Lib.hid fun (W : World) (h : Below W4.heap.size W4 W) => show W.cell? ⟨n8, 0, none⟩ = some (.int .i64 (x.last + 1)) ∧ W.cell? ⟨n8, 1, none⟩ = some (.int .i64 p.sec) ∧ W.cell? ⟨n8, 2, none⟩ = some (.int .i64 p.off) ∧ W.cell? ⟨n8, 3, none⟩ = some (.slice A3 (bytes p.data).length c3) ∧ W.cell? ⟨n8, 4, none⟩ = some (.int .i64 p.kind) ∧ W.cell? ⟨n8, 5, none⟩ = some (.slice A4 (ints p.needs).length c4) ∧ W.cell? ⟨n8, 6, none⟩ = some (.int .i64 p.owner) ∧ W.cell? ⟨n8, 7, none⟩ = some (.int .i64 p.child) ∧ W.cell? ⟨n8, 8, none⟩ = some (.bool false) from by
                          have hx := (HX4.out.below h hs4).cell
                          exact ⟨hx 0, hx 1, hx 2, hx 3, hx 4, hx 5, hx 6, hx 7, hx 8⟩
                        have HSn := Lib.hid fun (W : World) (u : Value) (h : Below W4.heap.size W4 W) => show (W.setCell ⟨b, 1, none⟩ u).cell? ⟨n8, 0, none⟩ = some (.int .i64 (x.last + 1)) ∧ (W.setCell ⟨b, 1, none⟩ u).cell? ⟨n8, 1, none⟩ = some (.int .i64 p.sec) ∧ (W.setCell ⟨b, 1, none⟩ u).cell? ⟨n8, 2, none⟩ = some (.int .i64 p.off) ∧ (W.setCell ⟨b, 1, none⟩ u).cell? ⟨n8, 3, none⟩ = some (.slice A3 (bytes p.data).length c3) ∧ (W.setCell ⟨b, 1, none⟩ u).cell? ⟨n8, 4, none⟩ = some (.int .i64 p.kind) ∧ (W.setCell ⟨b, 1, none⟩ u).cell? ⟨n8, 5, none⟩ = some (.slice A4 (ints p.needs).length c4) ∧ (W.setCell ⟨b, 1, none⟩ u).cell? ⟨n8, 6, none⟩ = some (.int .i64 p.owner) ∧ (W.setCell ⟨b, 1, none⟩ u).cell? ⟨n8, 7, none⟩ = some (.int .i64 p.child) ∧ (W.setCell ⟨b, 1, none⟩ u).cell? ⟨n8, 8, none⟩ = some (.bool false) from by
                          have hx := ((HX4.out.below h hs4).far (p := ⟨b, 1, none⟩) hne3 u).cell
                          exact ⟨hx 0, hx 1, hx 2, hx 3, hx 4, hx 5, hx 6, hx 7, hx 8⟩
                        have hd0 : Below W4.heap.size W4 W4.drew := (Below.refl _ _).drew
                        have hn8 := (HS.out _ (Below.refl _ _))
                        obtain ⟨y0, y1, y2, y3, y4, y5, y6, y7, y8⟩ := hn8
                        have hbc : W4.cell? ⟨b, 1, none⟩ = some (.slice AL L.length cL) := HBk4.out.cell 1
                        have HRC := Lib.hid (show (((W4.alloc (.cells #[.int .i64 (x.last + 1), .int .i64 p.sec, .int .i64 p.off, .slice A3 (bytes p.data).length c3, .int .i64 p.kind, .slice A4 (ints p.needs).length c4, .int .i64 p.owner, .int .i64 p.child, .bool false] 30)).alloc (.cells #[] 30)).drew).ownsRow W4.heap.size 30 9 (.slice (some ⟨W4.heap.size + 1, 0, none⟩) 0 0) 0 [] from by
                          have h := World.ownsRow_made (base := W4.heap.size) (e := 30) (size := 9) (W4.alloc (.cells #[.int .i64 (x.last + 1), .int .i64 p.sec, .int .i64 p.off, .slice A3 (bytes p.data).length c3, .int .i64 p.kind, .slice A4 (ints p.needs).length c4, .int .i64 p.owner, .int .i64 p.child, .bool false] 30)) #[] 0 (by simp) (Nat.zero_le _) rfl
                          have e : (W4.alloc (.cells #[.int .i64 (x.last + 1), .int .i64 p.sec, .int .i64 p.off, .slice A3 (bytes p.data).length c3, .int .i64 p.kind, .slice A4 (ints p.needs).length c4, .int .i64 p.owner, .int .i64 p.child, .bool false] 30)).heap.size = W4.heap.size + 1 := by simp
                          rw [e] at h
                          exact h)
                        go_region_law (first
                            | (refine step_append_some rfl (.tmp 99) (.tmp 103) 50 rfl W4.heap.size 30 i0 _ 9 104 Try.underlying50 hi0 hz0 hz1 hz2 (by rfl) (by decide) _ 0 0 [] (by rfl) (by first | exact World.ownsRow_made W4.drew #[] 0 (Nat.le_refl _) (Nat.zero_le _) rfl | exact World.ownsRow.alloc (World.ownsRow_made W4.drew #[] 0 (Nat.le_refl _) (Nat.zero_le _) rfl) _ | exact HRC.out) AL L.length cL (ptCells L) (by rfl) hLl9.out HLA.out (fun ad hA j u hu => ((show Below W4.heap.size W4 _ from by first | exact hd0.alloc hd0.size _ | exact (hd0.alloc hd0.size _).alloc (by simp) _).cell (p := ad.add j) (by rw [add_block]; exact (HLc.out ad hA j u hu).1)).trans (HLc.out ad hA j u hu).2) HL1.out L.length (by omega) (by simp only [maxLen]; omega) (by omega) (by simp; try omega) ?_
                               intro g1 cap1 wa hown1 hgrow1 hat1 hlt1
                               rw [List.nil_append] at hown1
                               have hbe1 : Below W4.heap.size W4 wa := by first | exact (hd0.alloc hd0.size _).grown hgrow1 (by simp) (fun j hj => by have e := Option.some.inj hj; (try simp at e); omega) | exact ((hd0.alloc hd0.size _).alloc (by simp) _).grown hgrow1 (by simp; omega) (fun j hj => by have e := Option.some.inj hj; (try simp at e); omega)
                               first
                                 | have hC1 := grown_new (k := W4.heap.size + 1) hgrow1 (by simp <;> omega) (by simp <;> omega) (fun ad h j u hu => cells_new (W4.drew.alloc (.cells #[] 30)) 30 #[.int .i64 (x.last + 1), .int .i64 p.sec, .int .i64 p.off, .slice A3 (bytes p.data).length c3, .int .i64 p.kind, .slice A4 (ints p.needs).length c4, .int .i64 p.owner, .int .i64 p.child, .bool false] ad (by simpa using h) j u hu)
                                 | have hC1 := grown_new (k := W4.heap.size) hgrow1 (by simp <;> omega) (by simp <;> omega) (fun ad h j u hu => (((Below.refl _ _).alloc (Nat.le_refl _) (.cells #[] 30)).cell (p := ad.add j) (by cases h; rw [add_block]; simp)).trans (cells_new W4.drew 30 #[.int .i64 (x.last + 1), .int .i64 p.sec, .int .i64 p.off, .slice A3 (bytes p.data).length c3, .int .i64 p.kind, .slice A4 (ints p.needs).length c4, .int .i64 p.owner, .int .i64 p.child, .bool false] ad h j u hu))
                                 | skip
                               obtain ⟨y0a, y1a, y2a, y3a, y4a, y5a, y6a, y7a, y8a⟩ := HS.out _ hbe1)
                            | (refine step_append_some rfl (.tmp 104) (.tmp 106) 50 rfl W4.heap.size 30 i0 _ 9 104 Try.underlying50 hi0 hz0 hz1 hz2 (by rfl) (by decide) g1 cap1 L.length (ptCells L) (by rfl) (by first | exact hown1 | exact World.ownsRow.alloc hown1 _) (some ⟨_, 0, none⟩) 1 1 (#[.int .i64 (x.last + 1), .int .i64 p.sec, .int .i64 p.off, .slice A3 (bytes p.data).length c3, .int .i64 p.kind, .slice A4 (ints p.needs).length c4, .int .i64 p.owner, .int .i64 p.child, .bool false]).toList (by rfl) (by rfl) (fun h => by cases h) (by first | exact hC1 | exact cells_new wa 30 _) (by simp [Value.oneCell']) (L.length + 1) rfl (by simp only [maxLen]; omega) (by omega) (by have := hbe1.size; first | omega | (simp; omega)) ?_
                               intro g2 cap2 wb hown2 hgrow2 hat2 hlt2
                               have hg1b : W4.heap.size ≤ g1 := (World.ownsRow.lt hown1 g1 rfl).1
                               have hbe2 : Below W4.heap.size W4 wb := by first | exact hbe1.grown hgrow2 hbe1.size (fun j hj => by have e := Option.some.inj hj; omega) | exact (hbe1.alloc hbe1.size _).grown hgrow2 (by have := hbe1.size; simp; omega) (fun j hj => by have e := Option.some.inj hj; omega)
                               have hbc2 : wb.cell? ⟨b, 1, none⟩ = some (.slice AL L.length cL) := (HBk4.out.below hbe2 hb4).cell 1
                               have hbf2 := (HBk4.out.below hbe2 hb4).frozen 1))
                        all_goals
                          have hgb := HBk4.out.below hbe2 hb4
                          have hTX : Turn (fun j => j = b) wb (wb.setCell ⟨b, 1, none⟩ (.slice (some ⟨g2, 0, none⟩) (L.length + 1) cap2)) := (Turn.refl (fun j => j = b) wb).setCell (p := ⟨b, 1, none⟩) (fun _ => rfl) _
                          have HTX := Lib.hid ((HT4.out.trans (Turn.of_below (S := fun _ => False) hbe2) (fun i hi e => e.elim)).trans hTX (fun i hi e => e))
                          have HRG := Lib.hid (show RG (wb.setCell ⟨b, 1, none⟩ (.slice (some ⟨g2, 0, none⟩) (L.length + 1) cap2)) b ⟨x.last + 1, x.l ++ [p.as (x.last + 1)]⟩ from ⟨.slice (some ⟨g2, 0, none⟩) (L.length + 1) cap2, by
                            have h := hgb.set_ 1 (.slice (some ⟨g2, 0, none⟩) (L.length + 1) cap2)
                            simpa using h, by
                            have hr : RL wb (.slice (some ⟨g2, 0, none⟩) (L.length + 1) cap2) ((L ++ [(Value.slice A3 (bytes p.data).length c3, Value.slice A4 (ints p.needs).length c4, p.as (x.last + 1))]).map (fun e : Value × Value × Pt => e.2.2)) := by
                              refine RL.of_own (B := W4.heap.size) (n := L.length + 1) ?_ (by simp) ?_
                              · have e : ptCells (L ++ [(Value.slice A3 (bytes p.data).length c3, Value.slice A4 (ints p.needs).length c4, p.as (x.last + 1))]) = ptCells L ++ (#[.int .i64 (x.last + 1), .int .i64 p.sec, .int .i64 p.off, .slice A3 (bytes p.data).length c3, .int .i64 p.kind, .slice A4 (ints p.needs).length c4, .int .i64 p.owner, .int .i64 p.child, .bool false]).toList := by
                                  unfold ptCells
                                  rw [List.flatMap_append]
                                  rfl
                                rw [e]
                                exact hown2
                              · intro e he
                                rcases List.mem_append.1 he with he | he
                                · exact ⟨(HLa.out e he).1.below hbe2, (HLa.out e he).2.below hbe2⟩
                                · rw [List.mem_singleton.1 he]
                                  exact ⟨HD4.out.below hbe2, HN4.out.below hbe2⟩
                            rw [List.map_append, ← HLx.out] at hr
                            exact hr.move fun i t cs ht kk => kk.turn hTX (fun e => kk.ne_ hgb (by rcases ht with rfl | rfl | rfl <;> decide) e)⟩)
                          obtain ⟨v0, v1, v2, v3, v4, v5, v6, v7, v8⟩ := HSn.out wb (.slice (some ⟨g2, 0, none⟩) (L.length + 1) cap2) hbe2
                          clear hown1 hgrow1 hat1 hown2 hgrow2 hat2 hgb hTX hbe1 hbe2
                          generalize wb.setCell ⟨b, 1, none⟩ (.slice (some ⟨g2, 0, none⟩) (L.length + 1) cap2) = X at *
                          go_wp2
                          go_ret2
                          exact ⟨by rw [HF.out]; rfl, by rw [HF.out]; exact HRG.out, HTX.out⟩
end Go.Proofs.Ytmkfaibjjbgbbaa
