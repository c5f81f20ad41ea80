/- GraphPlays, the walk. GraphPlays answers true for every input, and its arguments read behind the call as they read before. No condition. -/
import Derived.Test.YtmkfaibjjbgbbaaJp3
namespace Go.Proofs.Ytmkfaibjjbgbbaa
open Go.ChangeShapes Go.WideShapes Go.ChangeAt Go.RowKit Go.Deep
set_option linter.unusedVariables false


attribute [local go_sem ↓] Go.wp_at_zero Go.wp_at_succ
section
variable {H : Type} {enc : TypeId × Value → H} {W : World} {base : Nat} {spare : Nat → Bool} {held : Bool}
set_option maxRecDepth 100000 in
theorem acts_open2 {b0 : Nat} {v : Value} {d : DataW H} {p : List MemPlace} (hv : Value.okWide Try.prog W .any b0 22 v) (h : DataW.Trod enc Try.prog W base spare held 22 v d p) :
    ∃ A n c l, v = .slice A n c ∧ (ActsR W A n l ∧ ∀ a ∈ l, (key a.nn).wf = true) ∧ n ≤ c ∧ c ≤ 9223372036854775807 := by
  obtain ⟨A, n, c, rfl⟩ := okWide_slice Try.underlying22 hv
  obtain ⟨fuel, hf⟩ := h
  rcases open_slice Try.underlying22 hf with ⟨hcs, _⟩ | ⟨a, len, cap, m, k, D, Pl, hcs, _, hl, hm, hmm, _, hi⟩
  · simp [Value.cells] at hcs
    obtain ⟨rfl, rfl, rfl⟩ := hcs
    exact ⟨_, _, _, [], rfl, ⟨⟨rfl, fun i x hx => by simp at hx⟩, fun a h => by cases h⟩, Nat.le_refl _, by omega⟩
  · simp [Value.cells] at hcs
    obtain ⟨rfl, rfl, rfl⟩ := hcs
    have hnm : n ≤ m := by rw [hmm]; split <;> omega
    have hel0 : ∀ i, i < n → ∃ x : ActD, (∀ (j : Nat) (u : Value), x.cells[j]? = some u → W.cell? (a.add (i * 12 + j)) = some u) ∧ (Row W x.vd (bytes x.p.data) ∧ Row W x.vn (ints x.p.needs)) ∧ (key x.nn).wf = true := by
      intro i hin
      obtain ⟨cs', hc, ht⟩ := hi i (by omega)
      rw [cells32] at hc
      obtain ⟨_, hcl, hat⟩ := World.cells?_some hc
      obtain ⟨y0, y1, y2, y3, k', _, _, h0, h1, h2, h3⟩ := Go.Joins.trod_struct4 Try.underlying32 ht
      simp only [cells3, cells4, cells30] at h0 h1 h2 h3
      match cs', hcl with
      | [u0, u1, u2, u3, u4, u5, u6, u7, u8, u9, u10, u11], _ =>
        obtain ⟨q0, e0, _, _⟩ := DataW.trod_int Try.underlying3 h0
        obtain ⟨q1, e1, _, ew1⟩ := DataW.trod_int Try.underlying3 h1
        obtain ⟨q3, e3, _⟩ := DataW.trod_bool Try.underlying4 h3
        obtain ⟨b, ⟨f0, f1, f2, f3, f4, f5, f6, f7, f8⟩, hd, hn⟩ := patch_open (u0 := u2) (u1 := u3) (u2 := u4) (u3 := u5) (u4 := u6) (u5 := u7) (u6 := u8) (u7 := u9) (u8 := u10) (by simpa using h2)
        simp at e0 e1 e3
        subst e0 e1 e3 f0 f1 f2 f3 f4 f5 f6 f7 f8
        refine ⟨⟨q0, q1, b.p, b.vd, b.vn, q3⟩, fun j u hu => ?_, ⟨hd, hn⟩, ew1⟩
        have hj : j < 12 := by
          rcases Nat.lt_or_ge j 12 with h | h
          · exact h
          · rw [Array.getElem?_eq_none (by unfold ActD.cells; simpa using h)] at hu; cases hu
        have := hat j hj
        rw [Go.Deep.add_add] at this
        rw [this]
        unfold ActD.cells at hu
        rw [← hu]
        simp
    obtain ⟨f, hf⟩ := choose_lt hel0
    refine ⟨some a, n, c, (List.range n).map f, rfl, ⟨⟨by simp, fun i x hx => ?_⟩, fun x hx => ?_⟩, hl, by unfold maxLen at hm; omega⟩
    case refine_2 =>
      obtain ⟨i, hi', rfl⟩ := List.mem_map.1 hx
      exact (hf i (by simpa using hi')).2.2
    have hin : i < n := by
      rcases Nat.lt_or_ge i n with h | h
      · exact h
      · rw [List.getElem?_eq_none (by simpa using h)] at hx; cases hx
    rw [List.getElem?_map, List.getElem?_range hin] at hx
    simp at hx
    subst hx
    have h00 := (hf 0 (by omega)).1 0 _ rfl
    have hs : a.spot = none := by simpa [Addr.add] using World.cell?_spot h00
    have hb : a.block < W.heap.size := by simpa [Addr.add] using World.block_lt_of_cell? W _ h00
    obtain ⟨b, o, sp⟩ := a
    simp only at hs hb
    subst hs
    have hadd : ∀ j, (⟨b, o, none⟩ : Addr).add j = ⟨b, o + j, none⟩ := by intro j; unfold Addr.add; split <;> simp_all
    obtain ⟨c0, ⟨c1, c2⟩, -⟩ := hf i hin
    exact ⟨⟨b, o, rfl, hb, fun j u hu => by have := c0 j u hu; rw [hadd, ← Nat.add_assoc] at this; exact this⟩, c1, c2⟩
end
theorem Gr.turnO {w w' : World} {g mb n g' mb' n' : Nat} {x y : G} {S : Nat → Prop} (h : Gr w g' mb' n' x) (hO : Gr w g mb n y) (hT : Turn S w w') (hS : ∀ j, S j → j = g ∨ j = mb) (h1 : g' ≠ g ∧ g' ≠ mb ∧ mb' ≠ g ∧ mb' ≠ mb) : Gr w' g' mb' n' x := by
  obtain ⟨hg, f, hm, hh⟩ := h
  refine ⟨hg.turn hT (fun e => by rcases hS _ e with e | e; exact h1.1 e; exact h1.2.1 e), f, hm.turn hT (fun e => by rcases hS _ e with e | e; exact h1.2.2.1 e; exact h1.2.2.2 e), hh.move fun k t cs ht kk => kk.turn hT fun e => ?_⟩
  obtain ⟨-, a, b, -⟩ := hO.none_of k t cs (hS _ e) kk
  rcases ht with rfl | rfl
  · exact a rfl
  · exact b rfl
def p9 : Pt := ⟨0, 1, 0, [9], 0, [], 0, 0, false⟩
theorem p9_val (w : World) : PtV (w.alloc (.cells #[.int .u8 9] 5)) (.agg #[.int .i64 0, .int .i64 1, .int .i64 0, .slice (some ⟨w.heap.size, 0, none⟩) 1 1, .int .i64 0, .slice none 0 0, .int .i64 0, .int .i64 0, .bool false]) p9 :=
  ⟨_, _, rfl, Arr.one w 5 (.int .u8 9), Arr.nil _ _⟩

set_option maxHeartbeats 8000000 in
set_option maxRecDepth 100000 in
theorem plays_any (A : Option Addr) (n c : Nat) (l : List ActD) (s : Int) (w : World) (hA : ActsR w A n l) (hwf : ∀ a ∈ l, (key a.nn).wf = true) (hn : n ≤ c) (hc : c ≤ 9223372036854775807) (hs : (key s).wf = true) :
    Calls Try.prog 4 #[.slice A n c, .int .i64 s] w fun e w' => e = .returned (.bool true) ∧ Below w.heap.size w w' := by
  have HA := Lib.hid hA
  have HW := Lib.hid hwf
  have HS := Lib.hid hs
  clear hA hwf hs
  go_enter Try.func4, Try.ntmps4
  go_wp2_with fail
  refine (new_any w).mono ?_
  rintro e w1 ⟨g, mb, rfl, hG1, hb1, hgn, hmn⟩
  have HB1 := Lib.hid hb1
  have HG1 := Lib.hid hG1
  have hs1 := hb1.size
  clear hG1 hb1
  go_wp2_with fail
  refine (rnew_any w1).mono ?_
  rintro e w2 ⟨b, rfl, hR2, hb2, hbn⟩
  have HB2 := Lib.hid (HB1.out.trans (hb2.mono hs1))
  have HG2 := Lib.hid (HG1.out.below hb2)
  have HR2 := Lib.hid hR2
  have hbw : w.heap.size ≤ b := by omega
  clear hR2 hb2 HB1 HG1
  go_wp2_with fail
  go_loopw [5, 7] (fun v i wr => ∃ k : Nat, k ≤ n ∧ k ≤ 50 ∧ i = .int .i64 k ∧ ∃ (g mb nb : Nat) (x : G), v = .pointer (some ⟨g, 0, none⟩) ∧ Hid (Live x k) ∧ nb ≤ 2000 * k ∧ Gr wr g mb nb x ∧ RG wr b x ∧ Below w.heap.size w wr ∧ w.heap.size ≤ g ∧ w.heap.size ≤ mb) (fun _ i _ => n - (intOf i).toNat)
  case atStart => exact ⟨0, Nat.zero_le _, by omega, rfl, g, mb, 0, G.none, rfl, Live.none, by omega, HG2.out, HR2.out, HB2.out, hgn, hmn⟩
  case round =>
    clear HB2 HG2 HR2 hgn hmn hs1 hbn
    rename World => wo
    obtain ⟨k, hk, hk50, rfl, g, mb, nb, x, rfl, hL, hnb, hG, hR, hbel, hgn, hmn⟩ := hrel
    have HG := Lib.hid hG
    have HR := Lib.hid hR
    have HB := Lib.hid hbel
    have hsz := hbel.size
    by_cases hlt : k < n ∧ k < 50
    · obtain ⟨hlt, hlt50⟩ := hlt
      obtain ⟨a, ha⟩ : ∃ a, l[k]? = some a := ⟨_, List.getElem?_eq_getElem (by rw [HA.out.1]; exact hlt)⟩
      obtain ⟨⟨gb, o, eA, hgb, hcs⟩, hrd, hrn⟩ := HA.out.2 k a ha
      subst eA
      have hkw := HW.out a (List.mem_of_getElem? ha)
      have HC := Lib.hid fun (j : Nat) (u : Value) (h : a.cells[j]? = some u) => (hbel.cell (p := ⟨gb, o + k * 12 + j, none⟩) hgb).trans (hcs j u h)
      obtain ⟨dn, nn, p, vd, vn, near⟩ := a
      have c0 : wo.cell? ⟨gb, o + k * 12, none⟩ = some (.int .i64 dn) := HC.out 0 _ rfl
      have c1 : wo.cell? ⟨gb, o + k * 12 + 1, none⟩ = some (.int .i64 nn) := HC.out 1 _ rfl
      have c2 : wo.cell? ⟨gb, o + k * 12 + 2, none⟩ = some (.int .i64 p.id) := HC.out 2 _ rfl
      have c3 : wo.cell? ⟨gb, o + k * 12 + 3, none⟩ = some (.int .i64 p.sec) := HC.out 3 _ rfl
      have c4 : wo.cell? ⟨gb, o + k * 12 + 4, none⟩ = some (.int .i64 p.off) := HC.out 4 _ rfl
      have c5 : wo.cell? ⟨gb, o + k * 12 + 5, none⟩ = some (vd) := HC.out 5 _ rfl
      have c6 : wo.cell? ⟨gb, o + k * 12 + 6, none⟩ = some (.int .i64 p.kind) := HC.out 6 _ rfl
      have c7 : wo.cell? ⟨gb, o + k * 12 + 7, none⟩ = some (vn) := HC.out 7 _ rfl
      have c8 : wo.cell? ⟨gb, o + k * 12 + 8, none⟩ = some (.int .i64 p.owner) := HC.out 8 _ rfl
      have c9 : wo.cell? ⟨gb, o + k * 12 + 9, none⟩ = some (.int .i64 p.child) := HC.out 9 _ rfl
      have c10 : wo.cell? ⟨gb, o + k * 12 + 10, none⟩ = some (.bool p.written) := HC.out 10 _ rfl
      have c11 : wo.cell? ⟨gb, o + k * 12 + 11, none⟩ = some (.bool near) := HC.out 11 _ rfl
      have i1 : (0 : Int) ≤ (k : Int) := by omega
      have i2 : (k : Int) < (n : Int) := by omega
      have HRd := Lib.hid hrd
      have HRn := Lib.hid hrn
      have HKw := Lib.hid hkw
      clear hG hR hbel ha hgb hcs hrd hrn HC hkw
      obtain ⟨VA, VC, eVd, -, -, -, -⟩ := HRd.out
      obtain ⟨NA, NC, eVn, -, -, -, -⟩ := HRn.out
      simp only at eVd eVn
      subst eVd eVn
      generalize (bytes p.data).length = VM at *
      generalize (ints p.needs).length = NM at *
      by_cases hN : 1152921504606846976 < nn
      · have HKm := Lib.hid (show (key 1152921504606846976).wf = true from by decide)
        go_wp2_with fail
        obtain ⟨w5, hw5⟩ : ∃ w5, w5 = wo.alloc (.cells #[.int .i64 dn, .int .i64 1152921504606846976, .int .i64 p.id, .int .i64 p.sec, .int .i64 p.off, .slice VA VM VC, .int .i64 p.kind, .slice NA NM NC, .int .i64 p.owner, .int .i64 p.child, .bool p.written, .bool near] 32) := ⟨_, rfl⟩
        obtain ⟨m, hm⟩ : ∃ m : Int, m = 1152921504606846976 := ⟨_, rfl⟩
        have hX : Blk w5 wo.heap.size 32 #[.int .i64 dn, .int .i64 m, .int .i64 p.id, .int .i64 p.sec, .int .i64 p.off, .slice VA VM VC, .int .i64 p.kind, .slice NA NM NC, .int .i64 p.owner, .int .i64 p.child, .bool p.written, .bool near] := by
          rw [hw5, hm]
          exact Blk.new _ _ _
        have hb5 : Below wo.heap.size wo w5 := by rw [hw5]; exact (Below.refl _ _).alloc (Nat.le_refl _) _
        have hm1 : m ≤ 1152921504606846976 := by omega
        rw [← hw5]
        rw [← hm] at HKm
        obtain ⟨b8, hb8⟩ : ∃ b8, b8 = wo.heap.size := ⟨_, rfl⟩
        rw [← hb8] at hX ⊢
        have HX5 := Lib.hid hX
        have HG5 := Lib.hid (HG.out.below hb5)
        have HR5 := Lib.hid (HR.out.below hb5)
        have HB5 := Lib.hid (HB.out.trans (hb5.mono hsz))
        have hs5 : b8 < w5.heap.size := hX.lt
        have hgl := HG.out.lt
        have hml := HG.out.ltm
        have hrl := HR.out.lt
        have hap : b8 ≠ g ∧ b8 ≠ mb ∧ b8 ≠ b := ⟨by omega, by omega, by omega⟩
        obtain ⟨ap1, ap2, ap3⟩ := hap
        have hb8w : w.heap.size ≤ b8 := by omega
        have HAm := Lib.hid fun (W : World) => among_any dn 14 W (by omega) (by omega)
        have hc := HX5.out.cell
        have x0 := hc 0
        have x1 := hc 1
        have x2 := hc 2
        have x3 := hc 3
        have x4 := hc 4
        have x5 := hc 5
        have x6 := hc 6
        have x7 := hc 7
        have x8 := hc 8
        have x9 := hc 9
        have x10 := hc 10
        have x11 := hc 11
        simp at x0 x1 x2 x3 x4 x5 x6 x7 x8 x9 x10 x11
        clear hX hb5 hm hw5 hb8 hN hc c0 c1 c2 c3 c4 c5 c6 c7 c8 c9 c10 c11 HG HR HB hsz
        refine (HAm.out _).mono ?_
        rintro e wz ⟨rfl, hwz⟩
        rw [hwz]
        clear hwz wz
        have hFn := hL.out.fine (by omega)
        have HFn := Lib.hid hFn
        have hxl := hL.out.len
        generalize amongF dn 14 = K at *
        by_cases hK : K = 13
        · have ht : (K == 13) = true := by simp [hK]
          clear hK hFn
          go_wp2_with fail
          refine (copy_any g mb nb x _ HG5.out HFn.out.rise (by omega)).mono ?_
          rintro e w6 ⟨g2, mb2, rfl, hG6, hb6, hg2, hmb2⟩
          have hs6 := hb6.size
          have HO6 := Lib.hid (HG5.out.below hb6)
          have HG6 := Lib.hid hG6
          have HR6 := Lib.hid (HR5.out.below hb6)
          have HX6 := Lib.hid (HX5.out.below hb6 hs5)
          have HB6 := Lib.hid (HB5.out.trans (hb6.mono HB5.out.size))
          have hg5l := HG5.out.lt
          have hm5l := HG5.out.ltm
          have hnes : g2 ≠ g ∧ g2 ≠ mb ∧ mb2 ≠ g ∧ mb2 ≠ mb := ⟨by omega, by omega, by omega, by omega⟩
          have HNes := Lib.hid hnes
          clear hG6 hb6 hnes HG5 HR5 HX5 HB5 x0 x1 x2 x3 x4 x5 x6 x7 x8 x9 x10 x11
          go_wp2_with fail
          refine (settleAll_any g mb nb x _ HO6.out HFn.out.rise (by omega) (fun p hp => (HFn.out.all p hp).1.2.1)).mono ?_
          rintro e w7 ⟨rfl, hO7, ht7⟩
          have HO7 := Lib.hid hO7
          have HG7 := Lib.hid (HG6.out.turnO HO6.out ht7 (fun j e => .inr e) HNes.out)
          have HR7 := Lib.hid (HR6.out.turnG HO6.out ht7 (fun j e => .inr e))
          have HX7 := Lib.hid (HX6.out.turn ht7 ap2)
          have HB7 := Lib.hid (below_turn HB6.out ht7 (fun i hi e => by omega))
          have HLs := Lib.hid (hL.out.settle fun _ => true)
          clear hO7 ht7 HO6 HG6 HR6 HX6 HB6
          generalize settleG x (fun _ => true) = y at *
          generalize (idsOf x fun p => p.written).length = cnt at *
          have HAd := Lib.hid (add_any g mb nb y _ p9 (w7.alloc (.cells #[.int .u8 9] 5)) (HO7.out.alloc _) (p9_val w7) (by decide) (by decide) HLs.out.last.1 (by have := HLs.out.last.2; omega) (by omega) (fun q hq => (HLs.out.all q hq).2.2))
          go_wp2_with fail
          refine HAd.out.mono ?_
          rintro e w8 ⟨rfl, hO8, ht8⟩
          have HG8 := Lib.hid ((HG7.out.alloc (.cells #[.int .u8 9] 5)).turnO (HO7.out.alloc _) ht8 (fun j e => e) HNes.out)
          have HR8 := Lib.hid ((HR7.out.alloc (.cells #[.int .u8 9] 5)).turnG (HO7.out.alloc _) ht8 (fun j e => e))
          have HX8 := Lib.hid ((HX7.out.alloc (.cells #[.int .u8 9] 5)).turn ht8 (fun e => by omega))
          have HB8 := Lib.hid (below_turn (HB7.out.alloc HB7.out.size (.cells #[.int .u8 9] 5)) ht8 (fun i hi e => by omega))
          clear hO8 ht8 HO7 HG7 HR7 HX7 HB7 HAd HLs
          have HLv := Lib.hid (hL.out.mono (show k ≤ k + 1 by omega))
          have hgn2 : w.heap.size ≤ g2 := by omega
          have hmn2 : w.heap.size ≤ mb2 := by omega
          have hnb2 : x.l.length ≤ 2000 * (k + 1) := by omega
          generalize x.l.length = nb2 at *
          clear hL hgn hmn hnb hgl hml ap1 ap2 hg2 hmb2 HNes HFn
          have HF8 := Lib.hid (HLv.out.fine (by omega))
          have HKl := Lib.hid (show (key x.last).wf = true from key_wf (by have := HLv.out.last.1; omega) (by have := HLv.out.last.2; omega))
          have z1 := HX8.out.cell 1
          simp at z1
          have hs8 := HB8.out.size
          go_wp2_with fail
          refine (alike_any g2 mb2 nb2 b x m _ HG8.out HR8.out HF8.out HKm.out HKl.out).mono ?_
          rintro e w9 ⟨rfl, hb9⟩
          have HG9 := Lib.hid (HG8.out.below hb9)
          have HR9 := Lib.hid (HR8.out.below hb9)
          have HB9 := Lib.hid (HB8.out.trans (hb9.mono hs8))
          clear hb9 HG8 HR8 HX8 HB8 z1
          go_wp2_with fail
          refine (alike_any g2 mb2 nb2 b x s _ HG9.out HR9.out HF8.out HS.out HKl.out).mono ?_
          rintro e w10 ⟨rfl, hb10⟩
          have HG10 := Lib.hid (HG9.out.below hb10)
          have HR10 := Lib.hid (HR9.out.below hb10)
          have HB10 := Lib.hid (HB9.out.trans (hb10.mono HB9.out.size))
          clear hb10 HG9 HR9 HB9 hs8
          go_wp2
          go_roundw
          case rel => exact ⟨k + 1, by omega, by omega, by go_num, g2, mb2, nb2, x, rfl, HLv, hnb2, HG10.out, HR10.out, HB10.out, hgn2, hmn2⟩
          case measure => simp [intOf]; omega
        · have ht : (K == 13) = false := by simp [hK]
          have HDo := Lib.hid (do_any g mb nb b k x dn m p (.slice VA VM VC) (.slice NA NM NC) near w5 HG5.out HR5.out hL.out (by omega) (by omega) w HRd.out HRn.out HB5.out ⟨hgn, hmn, hbw⟩ HKm.out hm1)
          unfold actV at HDo
          clear hK hFn
          go_wp2_with fail
          refine HDo.out.mono ?_
          rintro e w8 ⟨rfl, x', nb', hL8, hnb8, hG8, hR8, ht8⟩
          have HLv := Lib.hid hL8
          have HG8 := Lib.hid hG8
          have HR8 := Lib.hid hR8
          have HX8 := Lib.hid (HX5.out.turn ht8 (fun e => by omega))
          have HB8 := Lib.hid (below_turn HB5.out ht8 (fun i hi e => by omega))
          have hnb2 : nb' ≤ 2000 * (k + 1) := by omega
          clear hL8 hnb8 hG8 hR8 ht8 HDo HG5 HR5 HX5 HB5 hL hnb hgl hml ap1 ap2 HFn x0 x1 x2 x3 x4 x5 x6 x7 x8 x9 x10 x11
          have hgn2 := hgn
          have hmn2 := hmn
          have HF8 := Lib.hid (HLv.out.fine (by omega))
          have HKl := Lib.hid (show (key x'.last).wf = true from key_wf (by have := HLv.out.last.1; omega) (by have := HLv.out.last.2; omega))
          have z1 := HX8.out.cell 1
          simp at z1
          have hs8 := HB8.out.size
          go_wp2_with fail
          refine (alike_any g mb nb' b x' m _ HG8.out HR8.out HF8.out HKm.out HKl.out).mono ?_
          rintro e w9 ⟨rfl, hb9⟩
          have HG9 := Lib.hid (HG8.out.below hb9)
          have HR9 := Lib.hid (HR8.out.below hb9)
          have HB9 := Lib.hid (HB8.out.trans (hb9.mono hs8))
          clear hb9 HG8 HR8 HX8 HB8 z1
          go_wp2_with fail
          refine (alike_any g mb nb' b x' s _ HG9.out HR9.out HF8.out HS.out HKl.out).mono ?_
          rintro e w10 ⟨rfl, hb10⟩
          have HG10 := Lib.hid (HG9.out.below hb10)
          have HR10 := Lib.hid (HR9.out.below hb10)
          have HB10 := Lib.hid (HB9.out.trans (hb10.mono HB9.out.size))
          clear hb10 HG9 HR9 HB9 hs8
          go_wp2
          go_roundw
          case rel => exact ⟨k + 1, by omega, by omega, by go_num, g, mb, nb', x', rfl, HLv, hnb2, HG10.out, HR10.out, HB10.out, hgn2, hmn2⟩
          case measure => simp [intOf]; omega
      · have HKm := Lib.hid HKw.out
        go_wp2_with fail
        obtain ⟨w5, hw5⟩ : ∃ w5, w5 = wo.alloc (.cells #[.int .i64 dn, .int .i64 nn, .int .i64 p.id, .int .i64 p.sec, .int .i64 p.off, .slice VA VM VC, .int .i64 p.kind, .slice NA NM NC, .int .i64 p.owner, .int .i64 p.child, .bool p.written, .bool near] 32) := ⟨_, rfl⟩
        obtain ⟨m, hm⟩ : ∃ m : Int, m = nn := ⟨_, rfl⟩
        have hX : Blk w5 wo.heap.size 32 #[.int .i64 dn, .int .i64 m, .int .i64 p.id, .int .i64 p.sec, .int .i64 p.off, .slice VA VM VC, .int .i64 p.kind, .slice NA NM NC, .int .i64 p.owner, .int .i64 p.child, .bool p.written, .bool near] := by
          rw [hw5, hm]
          exact Blk.new _ _ _
        have hb5 : Below wo.heap.size wo w5 := by rw [hw5]; exact (Below.refl _ _).alloc (Nat.le_refl _) _
        have hm1 : m ≤ 1152921504606846976 := by omega
        rw [← hw5]
        (try simp only at HKm)
        rw [← hm] at HKm
        obtain ⟨b8, hb8⟩ : ∃ b8, b8 = wo.heap.size := ⟨_, rfl⟩
        rw [← hb8] at hX ⊢
        have HX5 := Lib.hid hX
        have HG5 := Lib.hid (HG.out.below hb5)
        have HR5 := Lib.hid (HR.out.below hb5)
        have HB5 := Lib.hid (HB.out.trans (hb5.mono hsz))
        have hs5 : b8 < w5.heap.size := hX.lt
        have hgl := HG.out.lt
        have hml := HG.out.ltm
        have hrl := HR.out.lt
        have hap : b8 ≠ g ∧ b8 ≠ mb ∧ b8 ≠ b := ⟨by omega, by omega, by omega⟩
        obtain ⟨ap1, ap2, ap3⟩ := hap
        have hb8w : w.heap.size ≤ b8 := by omega
        have HAm := Lib.hid fun (W : World) => among_any dn 14 W (by omega) (by omega)
        have hc := HX5.out.cell
        have x0 := hc 0
        have x1 := hc 1
        have x2 := hc 2
        have x3 := hc 3
        have x4 := hc 4
        have x5 := hc 5
        have x6 := hc 6
        have x7 := hc 7
        have x8 := hc 8
        have x9 := hc 9
        have x10 := hc 10
        have x11 := hc 11
        simp at x0 x1 x2 x3 x4 x5 x6 x7 x8 x9 x10 x11
        clear hX hb5 hm hw5 hb8 hN hc c0 c1 c2 c3 c4 c5 c6 c7 c8 c9 c10 c11 HG HR HB hsz
        refine (HAm.out _).mono ?_
        rintro e wz ⟨rfl, hwz⟩
        rw [hwz]
        clear hwz wz
        have hFn := hL.out.fine (by omega)
        have HFn := Lib.hid hFn
        have hxl := hL.out.len
        generalize amongF dn 14 = K at *
        by_cases hK : K = 13
        · have ht : (K == 13) = true := by simp [hK]
          clear hK hFn
          go_wp2_with fail
          refine (copy_any g mb nb x _ HG5.out HFn.out.rise (by omega)).mono ?_
          rintro e w6 ⟨g2, mb2, rfl, hG6, hb6, hg2, hmb2⟩
          have hs6 := hb6.size
          have HO6 := Lib.hid (HG5.out.below hb6)
          have HG6 := Lib.hid hG6
          have HR6 := Lib.hid (HR5.out.below hb6)
          have HX6 := Lib.hid (HX5.out.below hb6 hs5)
          have HB6 := Lib.hid (HB5.out.trans (hb6.mono HB5.out.size))
          have hg5l := HG5.out.lt
          have hm5l := HG5.out.ltm
          have hnes : g2 ≠ g ∧ g2 ≠ mb ∧ mb2 ≠ g ∧ mb2 ≠ mb := ⟨by omega, by omega, by omega, by omega⟩
          have HNes := Lib.hid hnes
          clear hG6 hb6 hnes HG5 HR5 HX5 HB5 x0 x1 x2 x3 x4 x5 x6 x7 x8 x9 x10 x11
          go_wp2_with fail
          refine (settleAll_any g mb nb x _ HO6.out HFn.out.rise (by omega) (fun p hp => (HFn.out.all p hp).1.2.1)).mono ?_
          rintro e w7 ⟨rfl, hO7, ht7⟩
          have HO7 := Lib.hid hO7
          have HG7 := Lib.hid (HG6.out.turnO HO6.out ht7 (fun j e => .inr e) HNes.out)
          have HR7 := Lib.hid (HR6.out.turnG HO6.out ht7 (fun j e => .inr e))
          have HX7 := Lib.hid (HX6.out.turn ht7 ap2)
          have HB7 := Lib.hid (below_turn HB6.out ht7 (fun i hi e => by omega))
          have HLs := Lib.hid (hL.out.settle fun _ => true)
          clear hO7 ht7 HO6 HG6 HR6 HX6 HB6
          generalize settleG x (fun _ => true) = y at *
          generalize (idsOf x fun p => p.written).length = cnt at *
          have HAd := Lib.hid (add_any g mb nb y _ p9 (w7.alloc (.cells #[.int .u8 9] 5)) (HO7.out.alloc _) (p9_val w7) (by decide) (by decide) HLs.out.last.1 (by have := HLs.out.last.2; omega) (by omega) (fun q hq => (HLs.out.all q hq).2.2))
          go_wp2_with fail
          refine HAd.out.mono ?_
          rintro e w8 ⟨rfl, hO8, ht8⟩
          have HG8 := Lib.hid ((HG7.out.alloc (.cells #[.int .u8 9] 5)).turnO (HO7.out.alloc _) ht8 (fun j e => e) HNes.out)
          have HR8 := Lib.hid ((HR7.out.alloc (.cells #[.int .u8 9] 5)).turnG (HO7.out.alloc _) ht8 (fun j e => e))
          have HX8 := Lib.hid ((HX7.out.alloc (.cells #[.int .u8 9] 5)).turn ht8 (fun e => by omega))
          have HB8 := Lib.hid (below_turn (HB7.out.alloc HB7.out.size (.cells #[.int .u8 9] 5)) ht8 (fun i hi e => by omega))
          clear hO8 ht8 HO7 HG7 HR7 HX7 HB7 HAd HLs
          have HLv := Lib.hid (hL.out.mono (show k ≤ k + 1 by omega))
          have hgn2 : w.heap.size ≤ g2 := by omega
          have hmn2 : w.heap.size ≤ mb2 := by omega
          have hnb2 : x.l.length ≤ 2000 * (k + 1) := by omega
          generalize x.l.length = nb2 at *
          clear hL hgn hmn hnb hgl hml ap1 ap2 hg2 hmb2 HNes HFn
          have HF8 := Lib.hid (HLv.out.fine (by omega))
          have HKl := Lib.hid (show (key x.last).wf = true from key_wf (by have := HLv.out.last.1; omega) (by have := HLv.out.last.2; omega))
          have z1 := HX8.out.cell 1
          simp at z1
          have hs8 := HB8.out.size
          go_wp2_with fail
          refine (alike_any g2 mb2 nb2 b x m _ HG8.out HR8.out HF8.out HKm.out HKl.out).mono ?_
          rintro e w9 ⟨rfl, hb9⟩
          have HG9 := Lib.hid (HG8.out.below hb9)
          have HR9 := Lib.hid (HR8.out.below hb9)
          have HB9 := Lib.hid (HB8.out.trans (hb9.mono hs8))
          clear hb9 HG8 HR8 HX8 HB8 z1
          go_wp2_with fail
          refine (alike_any g2 mb2 nb2 b x s _ HG9.out HR9.out HF8.out HS.out HKl.out).mono ?_
          rintro e w10 ⟨rfl, hb10⟩
          have HG10 := Lib.hid (HG9.out.below hb10)
          have HR10 := Lib.hid (HR9.out.below hb10)
          have HB10 := Lib.hid (HB9.out.trans (hb10.mono HB9.out.size))
          clear hb10 HG9 HR9 HB9 hs8
          go_wp2
          go_roundw
          case rel => exact ⟨k + 1, by omega, by omega, by go_num, g2, mb2, nb2, x, rfl, HLv, hnb2, HG10.out, HR10.out, HB10.out, hgn2, hmn2⟩
          case measure => simp [intOf]; omega
        · have ht : (K == 13) = false := by simp [hK]
          have HDo := Lib.hid (do_any g mb nb b k x dn m p (.slice VA VM VC) (.slice NA NM NC) near w5 HG5.out HR5.out hL.out (by omega) (by omega) w HRd.out HRn.out HB5.out ⟨hgn, hmn, hbw⟩ HKm.out hm1)
          unfold actV at HDo
          clear hK hFn
          go_wp2_with fail
          refine HDo.out.mono ?_
          rintro e w8 ⟨rfl, x', nb', hL8, hnb8, hG8, hR8, ht8⟩
          have HLv := Lib.hid hL8
          have HG8 := Lib.hid hG8
          have HR8 := Lib.hid hR8
          have HX8 := Lib.hid (HX5.out.turn ht8 (fun e => by omega))
          have HB8 := Lib.hid (below_turn HB5.out ht8 (fun i hi e => by omega))
          have hnb2 : nb' ≤ 2000 * (k + 1) := by omega
          clear hL8 hnb8 hG8 hR8 ht8 HDo HG5 HR5 HX5 HB5 hL hnb hgl hml ap1 ap2 HFn x0 x1 x2 x3 x4 x5 x6 x7 x8 x9 x10 x11
          have hgn2 := hgn
          have hmn2 := hmn
          have HF8 := Lib.hid (HLv.out.fine (by omega))
          have HKl := Lib.hid (show (key x'.last).wf = true from key_wf (by have := HLv.out.last.1; omega) (by have := HLv.out.last.2; omega))
          have z1 := HX8.out.cell 1
          simp at z1
          have hs8 := HB8.out.size
          go_wp2_with fail
          refine (alike_any g mb nb' b x' m _ HG8.out HR8.out HF8.out HKm.out HKl.out).mono ?_
          rintro e w9 ⟨rfl, hb9⟩
          have HG9 := Lib.hid (HG8.out.below hb9)
          have HR9 := Lib.hid (HR8.out.below hb9)
          have HB9 := Lib.hid (HB8.out.trans (hb9.mono hs8))
          clear hb9 HG8 HR8 HX8 HB8 z1
          go_wp2_with fail
          refine (alike_any g mb nb' b x' s _ HG9.out HR9.out HF8.out HS.out HKl.out).mono ?_
          rintro e w10 ⟨rfl, hb10⟩
          have HG10 := Lib.hid (HG9.out.below hb10)
          have HR10 := Lib.hid (HR9.out.below hb10)
          have HB10 := Lib.hid (HB9.out.trans (hb10.mono HB9.out.size))
          clear hb10 HG9 HR9 HB9 hs8
          go_wp2
          go_roundw
          case rel => exact ⟨k + 1, by omega, by omega, by go_num, g, mb, nb', x', rfl, HLv, hnb2, HG10.out, HR10.out, HB10.out, hgn2, hmn2⟩
          case measure => simp [intOf]; omega
    · have hcases : (¬ k < n) ∨ (k < n ∧ ¬ k < 50) := by
        by_cases h : k < n
        · exact .inr ⟨h, fun h2 => hlt ⟨h, h2⟩⟩
        · exact .inl h
      clear hlt hG hR hbel
      rcases hcases with hge | ⟨hlt, hge⟩
      all_goals
        go_wp2_with fail
        refine (works_any _).mono ?_
        rintro e w3 ⟨rfl, hb3⟩
        have HB3 := Lib.hid (HB.out.trans (hb3.mono hsz))
        clear hb3
        go_wp2
        go_ret
        exact ⟨rfl, HB3.out⟩
end Go.Proofs.Ytmkfaibjjbgbbaa
namespace Go.Proofs.Ytmkfaibjjbgbbaa.graphPlays
open Go.ChangeShapes Go.WideShapes Go.ChangeAt Go.RowKit
set_option linter.unusedVariables false

set_option maxRecDepth 100000 in
theorem lifted (os : Os) (started : os.Started) (H : Type) (enc : TypeId × Value → H) :
    ReturnsInHanded {} Try.checked os 4 .any (Rows.graphPlaysSpec.pre6 enc Try.prog Try.f4 Rows.graphPlaysRow.domain false) (Rows.graphPlaysSpec.post enc Try.prog Try.f4 false true false false) := by
  refine returnsInHanded_of_change (C := Try.checked) (by kernel_rfl) started (by kernel_rfl) Try.func4
    (ChangeSpec.witness6 (enc := enc) (C := Try.checked) false ⟨#[], #[.slice none 0 0, .int .i64 0], []⟩ 8 (by kernel_rfl) (by kernel_rfl) (by kernel_rfl) (by kernel_rfl)) ?_
  intro W base args ds gs before hval0 hW hcnd _
  have hval : ∀ (j : Nat) t v, Try.f4.params[j]? = some t → args[j]? = some v → Value.okWide Try.prog W .any base t v := hval0
  have hW' := hW
  obtain ⟨p, q, hA0, hV, rfl, hfz, hnd⟩ := hW
  have hA : DataW.TrodAll enc Try.prog W 0 (fun _ => true) true Try.f4.params.toList args.toList ds p := hA0
  rw [Try.params4] at hA hval
  obtain ⟨v0, vs0, d0, ds0, p0, q0, hargs, rfl, rfl, h0, r0⟩ := trodAll_cons hA
  obtain ⟨v1, vs1, d1, ds1, p1, q1, rfl, rfl, rfl, h1, r1⟩ := trodAll_cons r0
  obtain ⟨rfl, rfl, rfl⟩ := trodAll_nil r1
  obtain rfl : args = #[v0, v1] := by cases args; simp_all
  obtain ⟨rfl, rfl⟩ := trodVars_none hV
  have k0 := h0
  have lt0 : ∀ x ∈ p0, x.block < W.heap.size := by obtain ⟨m, hm⟩ := k0; exact DataW.trod_lt m _ _ _ hm
  obtain ⟨A, n, c, l, rfl, ⟨ha, hw⟩, hn, hc⟩ := acts_open2 (hval 0 22 v0 rfl rfl) h0
  obtain ⟨a1, rfl, rfl, rfl, w1⟩ := open_int Try.underlying3 (hval 1 3 v1 rfl rfl) h1
  clear hA0 hval0
  refine (plays_any A n c l a1 W ha hw hn hc w1).mono fun e W' ⟨he, bel⟩ => ?_
  subst he
  exact ⟨_, rfl, _, _, _, [], _, [], hW', trodAll_mk1 (shut_bool Try.underlying4 _), (trodAll_cons_mk (Below.trod laidOut (by kernel_rfl) (of_decide_eq_true (by kernel_rfl)) k0 bel lt0) (trodAll_cons_mk (shut_int Try.underlying3 w1) trodAll_mk0)), rfl, bel.frame _, fun h => by cases h⟩

theorem GraphPlays_holds : Rows.GraphPlaysSaid :=
  OpenClaim.holds_of_wide 4 Try.f4 rfl rfl rfl rfl rfl rfl rfl ⟨rfl, rfl, rfl, rfl, rfl⟩ rfl rfl rfl rfl rfl (by kernel_rfl) Try.func4 (by kernel_rfl)
    (of_decide_eq_true (by kernel_rfl)) (by unfold Func.isWrapper; first | (rw [if_pos (by decide +kernel)]; kernel_rfl) | (rw [if_neg (by decide +kernel)]; exact ⟨rfl, rfl⟩))
    (fun os started H enc _ => lifted os started H enc)
#print axioms GraphPlays_holds
end Go.Proofs.Ytmkfaibjjbgbbaa.graphPlays
