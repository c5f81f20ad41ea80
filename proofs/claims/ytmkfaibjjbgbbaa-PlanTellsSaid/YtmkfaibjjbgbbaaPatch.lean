/- patch of package scupperlaw14. -/
import Derived.Test.YtmkfaibjjbgbbaaFew
import Derived.Deep.AppendLies
import Derived.Laws.OwnMore
namespace Go.Proofs.Ytmkfaibjjbgbbaa
open Go.RowKit
set_option linter.unusedVariables false
attribute [local go_sem ↓] Go.wp_at_zero Go.wp_at_succ

def nearF (last k : Int) : Int := last - amongF k last
def Pt.near (p : Pt) (near : Bool) (last : Int) : Pt := if near = true ∧ 0 < last then { p.few with needs := p.few.needs.map (nearF last) } else p.few
def actV (d n : Int) (p : Pt) (vd vn : Value) (near : Bool) : Value :=
  .agg #[.int .i64 d, .int .i64 n, .int .i64 p.id, .int .i64 p.sec, .int .i64 p.off, vd, .int .i64 p.kind, vn, .int .i64 p.owner, .int .i64 p.child, .bool p.written, .bool near]

def mixF (f : Int → Int) (k : Nat) (l : List Int) : List Int := (l.take k).map f ++ l.drop k
theorem mix_zero (f : Int → Int) (l : List Int) : mixF f 0 l = l := by simp [mixF]
theorem mix_all (f : Int → Int) (l : List Int) : mixF f l.length l = l.map f := by simp [mixF]
theorem mix_len (f : Int → Int) (k : Nat) (l : List Int) : (mixF f k l).length = l.length := by simp [mixF]; omega
theorem mix_at (f : Int → Int) {k : Nat} {l : List Int} {x : Int} (h : l[k]? = some x) : (mixF f k l)[k]? = some x := by
  have hk : k < l.length := by
    rcases Nat.lt_or_ge k l.length with h1 | h1
    · exact h1
    · rw [List.getElem?_eq_none h1] at h; cases h
  unfold mixF
  rw [List.getElem?_append_right (by simp; omega)]
  simp
  rw [show min k l.length = k by omega]
  simpa using h
theorem mix_on (f : Int → Int) {k : Nat} {l : List Int} {x : Int} (h : l[k]? = some x) : (mixF f k l).set k (f x) = mixF f (k + 1) l := by
  have hk : k < l.length := by
    rcases Nat.lt_or_ge k l.length with h1 | h1
    · exact h1
    · rw [List.getElem?_eq_none h1] at h; cases h
  have hx : l[k] = x := by rw [List.getElem?_eq_getElem hk] at h; exact Option.some.inj h
  have e : k - ((l.take k).map f).length = 0 := by simp; omega
  have e2 : l.drop k = x :: l.drop (k + 1) := by rw [List.drop_eq_getElem_cons hk, hx]
  unfold mixF
  rw [List.set_append, if_neg (by simp; omega), e, e2, List.set_cons_zero, List.take_add_one, h, List.map_append, List.append_assoc]
  rfl

set_option maxHeartbeats 2000000 in
theorem patch_any (d n : Int) (near : Bool) (vd vn : Value) (p : Pt) (last : Int) (w : World) (hd : Row w vd (bytes p.data)) (hn : Row w vn (ints p.needs)) (hl : 0 ≤ last ∧ last ≤ 1000) :
    Calls Try.prog 14 #[actV d n p vd vn near, .int .i64 last] w fun e w' => ∃ ud un, e = .returned ((p.near near last).val ud un) ∧ w'.ownsRow w.heap.size 5 1 ud (p.near near last).data.length (bytes (p.near near last).data) ∧ Built w.heap.size w' un (p.near near last).needs ∧ Apart ud un ∧ Below w.heap.size w w' := by
  have HF := Lib.hid fun (W : World) (h : Below w.heap.size w W) => few_any vd vn p W (hd.below h) (hn.below h)
  have HAm := Lib.hid fun (k : Int) (W : World) (h : 0 < last) => among_any k last W (by omega) (by omega)
  clear hd hn
  have hq6 : p.few.needs.length ≤ 6 := by unfold Pt.few; simp; omega
  obtain ⟨pn, hpn⟩ : ∃ pn, pn = p.near near last := ⟨_, rfl⟩
  obtain ⟨q, hq⟩ : ∃ q, q = p.few := ⟨_, rfl⟩
  rw [← hpn]
  rw [← hq] at HF hq6
  have HN := Lib.hid (show pn = if near = true ∧ 0 < last then { q with needs := q.needs.map (nearF last) } else q from by rw [hpn, hq]; rfl)
  clear hpn hq
  obtain ⟨hl0, hl1⟩ := hl
  unfold actV Pt.val at *
  go_enter Try.func14, Try.ntmps14
  go_wp2_with fail
  refine (HF.out _ (((Below.refl _ _).alloc (Nat.le_refl _) _).alloc (by simp) _)).mono ?_
  rintro e w1 ⟨ud, un, rfl, hu, hun, hapr, hb⟩
  obtain ⟨A, m1, c1, rfl⟩ := owns_shape hu
  obtain ⟨B, m2, c2, rfl⟩ := owns_shape hun
  obtain rfl : m2 = q.needs.length := by
    obtain ⟨A', c', e, _⟩ := hun.arr.len
    injection e with _ e _
    rw [ints_len] at e
    exact e
  have hs1 := hb.size
  simp at hs1
  have HU := Lib.hid hu
  have HUN := Lib.hid hun
  have H4 := Lib.hid ((show Blk ((w.alloc (.cells #[.int .i64 d, .int .i64 n, .int .i64 p.id, .int .i64 p.sec, .int .i64 p.off, vd, .int .i64 p.kind, vn, .int .i64 p.owner, .int .i64 p.child, .bool p.written, .bool near] 32)).alloc (.cells #[.int .i64 0, .int .i64 0, .int .i64 0, .slice none 0 0, .int .i64 0, .slice none 0 0, .int .i64 0, .int .i64 0, .bool false] 30)) (w.heap.size + 1) 30 #[.int .i64 0, .int .i64 0, .int .i64 0, .slice none 0 0, .int .i64 0, .slice none 0 0, .int .i64 0, .int .i64 0, .bool false] from by
    have := Blk.new (w.alloc (.cells #[.int .i64 d, .int .i64 n, .int .i64 p.id, .int .i64 p.sec, .int .i64 p.off, vd, .int .i64 p.kind, vn, .int .i64 p.owner, .int .i64 p.child, .bool p.written, .bool near] 32)) 30 #[.int .i64 0, .int .i64 0, .int .i64 0, .slice none 0 0, .int .i64 0, .slice none 0 0, .int .i64 0, .int .i64 0, .bool false]
    simpa using this).below hb (by simp))
  have H2 := Lib.hid (((Blk.new w 32 #[.int .i64 d, .int .i64 n, .int .i64 p.id, .int .i64 p.sec, .int .i64 p.off, vd, .int .i64 p.kind, vn, .int .i64 p.owner, .int .i64 p.child, .bool p.written, .bool near]).alloc (.cells #[.int .i64 0, .int .i64 0, .int .i64 0, .slice none 0 0, .int .i64 0, .slice none 0 0, .int .i64 0, .int .i64 0, .bool false] 30)).below hb (by simp; omega))
  have HB1 := Lib.hid ((((Below.refl w.heap.size w).alloc (Nat.le_refl _) (.cells #[.int .i64 d, .int .i64 n, .int .i64 p.id, .int .i64 p.sec, .int .i64 p.off, vd, .int .i64 p.kind, vn, .int .i64 p.owner, .int .i64 p.child, .bool p.written, .bool near] 32)).alloc (by simp) (.cells #[.int .i64 0, .int .i64 0, .int .i64 0, .slice none 0 0, .int .i64 0, .slice none 0 0, .int .i64 0, .int .i64 0, .bool false] 30)).trans (hb.mono (by simp; omega)))
  clear hb hu hun
  go_wp2_with fail
  obtain ⟨w2, hw2⟩ : ∃ w2, w2 = w1.alloc (.cells #[.int .i64 q.id, .int .i64 q.sec, .int .i64 q.off, .slice A m1 c1, .int .i64 q.kind, .slice B q.needs.length c2, .int .i64 q.owner, .int .i64 q.child, .bool q.written] 30) := ⟨_, rfl⟩
  rw [← hw2]
  have H5 := Lib.hid (show Blk w2 w1.heap.size 30 #[.int .i64 q.id, .int .i64 q.sec, .int .i64 q.off, .slice A m1 c1, .int .i64 q.kind, .slice B q.needs.length c2, .int .i64 q.owner, .int .i64 q.child, .bool q.written] from by rw [hw2]; exact Blk.new _ _ _)
  have HB2 := Lib.hid (show Below w.heap.size w w2 from by rw [hw2]; exact HB1.out.alloc HB1.out.size _)
  have HU2 := Lib.hid (show w2.ownsRow (w.heap.size + 2) 5 1 (.slice A m1 c1) q.data.length (bytes q.data) from by rw [hw2]; exact World.ownsRow.alloc (owns_mono HU.out (by simp)) _)
  have hun2 : Built (w.heap.size + 2) w2 (.slice B q.needs.length c2) q.needs := by rw [hw2]; exact World.ownsRow.alloc (owns_mono HUN.out (by simp)) _
  have H4' := Lib.hid (show Blk w2 (w.heap.size + 1) 30 #[.int .i64 0, .int .i64 0, .int .i64 0, .slice none 0 0, .int .i64 0, .slice none 0 0, .int .i64 0, .int .i64 0, .bool false] from by rw [hw2]; exact H4.out.alloc _)
  have H2' := Lib.hid (show Blk w2 w.heap.size 32 #[.int .i64 d, .int .i64 n, .int .i64 p.id, .int .i64 p.sec, .int .i64 p.off, vd, .int .i64 p.kind, vn, .int .i64 p.owner, .int .i64 p.child, .bool p.written, .bool near] from by rw [hw2]; exact H2.out.alloc _)
  have hs2 : w2.heap.size = w1.heap.size + 1 := by rw [hw2]; simp
  have hap : ∀ j, (Value.slice B q.needs.length c2).ownBlock = some j → w.heap.size + 2 ≤ j ∧ j < w1.heap.size := fun j hj => by
    have h1 := hun2.own j hj
    have h2 := HUN.out.own j hj
    exact ⟨h1.1, h2.2⟩
  have HAp := Lib.hid hap
  have HAb := Lib.hid (show ∀ j, (Value.slice A m1 c1).ownBlock = some j → (Value.slice B q.needs.length c2).ownBlock = some j → False from hapr)
  clear hapr
  have HUN2 := Lib.hid hun2
  clear H4 H2 HU HUN HB1 hw2 hap hun2
  go_loopw [6] (fun i wr => ∃ k : Nat, k ≤ q.needs.length ∧ i = .int .i64 k ∧ Turn (fun j => (Value.slice B q.needs.length c2).ownBlock = some j) w2 wr ∧ Built (w.heap.size + 2) wr (.slice B q.needs.length c2) (mixF (nearF last) k q.needs) ∧ Hid (k = 0 ∨ (near = true ∧ 0 < last))) (fun i _ => q.needs.length - (intOf i).toNat)
  case atStart => exact ⟨0, Nat.zero_le _, rfl, Turn.refl _ _, by rw [mix_zero]; exact HUN2.out, .inl rfl⟩
  case round =>
    obtain ⟨k, hk, rfl, hT, hO, hC⟩ := hrel
    have HT := Lib.hid hT
    have HO := Lib.hid hO
    have n5 : ¬ (Value.slice B q.needs.length c2).ownBlock = some w1.heap.size := fun e => by have := (HAp.out _ e).2; omega
    have n4 : ¬ (Value.slice B q.needs.length c2).ownBlock = some (w.heap.size + 1) := fun e => by have := (HAp.out _ e).1; omega
    have n2 : ¬ (Value.slice B q.needs.length c2).ownBlock = some w.heap.size := fun e => by have := (HAp.out _ e).1; omega
    have hk5 := H5.out.turn hT n5
    have hk4 := H4'.out.turn hT n4
    have hk2 := H2'.out.turn hT n2
    have g11 := hk2.cell 11
    have g5 := hk5.cell 5
    simp at g5 g11
    have hsz := hT.size
    have l5 : w1.heap.size < wr.heap.size := by omega
    have l4 : w.heap.size + 1 < wr.heap.size := by omega
    have l2 : w.heap.size < wr.heap.size := by omega
    by_cases hc : k < q.needs.length ∧ near = true ∧ 0 < last
    · obtain ⟨hlt, rfl, hlast⟩ := hc
      obtain ⟨y, hy⟩ : ∃ y, q.needs[k]? = some y := ⟨_, List.getElem?_eq_getElem hlt⟩
      obtain ⟨g, c3, e, hgl, hgw⟩ := World.ownsRow.form hO (by rw [mix_len]; omega)
      injection e with eB e1 e2
      subst eB e2
      clear e1
      have hO' : wr.ownsRow (w.heap.size + 2) 3 1 (.slice (some ⟨g, 0, none⟩) q.needs.length c2) q.needs.length (ints (mixF (nearF last) k q.needs)) := by
        have h := hO
        unfold Built at h
        rw [mix_len] at h
        exact h
      have hcg : wr.cell? ⟨g, k, none⟩ = some (.int .i64 y) := (World.ownsRow.cellAt hO' k (by omega)).trans (ints_at (mix_at _ hy))
      have hfg := World.ownsRow.frozenAt hO' k
      obtain ⟨hst, hgr⟩ := World.ownsRow.stored hO' k (.int .i64 (nearF last y))
      have hbd := among_bd y last (by omega)
      have HBn := Lib.hid (show IntKind.i64.wrap (last - amongF y last) = nearF last y from IntWalk.i64_in _ (by omega) |>.trans rfl)
      have HST := Lib.hid (show Built (w.heap.size + 2) (wr.setCell ⟨g, k, none⟩ (.int .i64 (nearF last y))) (.slice (some ⟨g, 0, none⟩) q.needs.length c2) (mixF (nearF last) (k + 1) q.needs) from by
        unfold Built
        rw [mix_len, ← mix_on _ hy]
        have := hst
        unfold ints at this ⊢
        rwa [← List.map_set] at this)
      have HTT := Lib.hid ((HT.out.setCell (p := ⟨g, k, none⟩) (fun _ => rfl) (.int .i64 (nearF last y))))
      clear hk5 hk4 hk2 hT hO hO' hst hgr n5 n4 n2 hy
      have HMl := Lib.hid fun (W : World) => HAm.out y W hlast
      go_wp2_with fail
      go_region_with (go_at_call 12; refine (HMl.out _).mono ?_; rintro e wx ⟨rfl, rfl⟩)
      all_goals
        rw [HBn.out]
        go_wp2
        go_roundw
        case rel => exact ⟨k + 1, by omega, by go_num, HTT.out.drew, HST.out, by unfold Hid; exact .inr (by simpa using hlast)⟩
        case measure => simp [intOf]; omega
    · have HUk := Lib.hid (owns_keep HU2.out (fun j hj => HT.out.block j (World.ownsRow.lt HU2.out j hj).2 (fun e => HAb.out j hj e)))
      have HW2 := Lib.hid (HB2.out.trans (hT.below (B := w.heap.size) (by omega) (fun i hi e => by have := (HAp.out _ e).1; omega)))
      have HEnd := Lib.hid (show mixF (nearF last) k q.needs = pn.needs ∧ pn.id = q.id ∧ pn.sec = q.sec ∧ pn.off = q.off ∧ pn.data = q.data ∧ pn.kind = q.kind ∧ pn.owner = q.owner ∧ pn.child = q.child ∧ pn.written = q.written ∧ True from by
        rw [HN.out]
        by_cases hcc : near = true ∧ 0 < last
        · rw [if_pos hcc]
          have : k = q.needs.length := by
            rcases Nat.lt_or_ge k q.needs.length with h | h
            · exact absurd ⟨h, hcc⟩ hc
            · omega
          subst this
          exact ⟨mix_all _ _, rfl, rfl, rfl, rfl, rfl, rfl, rfl, rfl, trivial⟩
        · rw [if_neg hcc]
          obtain rfl : k = 0 := (hC.out).resolve_right hcc
          exact ⟨mix_zero _ _, rfl, rfl, rfl, rfl, rfl, rfl, rfl, rfl, trivial⟩)
      have e := hk4.frozen
      have e0 := e 0
      have e1 := e 1
      have e2 := e 2
      have e3 := e 3
      have e4 := e 4
      have e5 := e 5
      have e6 := e 6
      have e7 := e 7
      have e8 := e 8
      have h5c := hk5.cell
      have y0 := h5c 0
      have y1 := h5c 1
      have y2 := h5c 2
      have y3 := h5c 3
      have y4 := h5c 4
      have y6 := h5c 6
      have y7 := h5c 7
      have y8 := h5c 8
      simp at y0 y1 y2 y3 y4 y6 y7 y8
      have x := hk4.cell
      have x0 := x 0
      have x1 := x 1
      have x2 := x 2
      have x3 := x 3
      have x4 := x 4
      have x5 := x 5
      have x6 := x 6
      have x7 := x 7
      have x8 := x 8
      simp at x0 x1 x2 x3 x4 x5 x6 x7 x8
      clear e h5c x hk5 hk2 hT hO n5 n4 n2
      have hcases : (¬ k < q.needs.length) ∨ (k < q.needs.length ∧ near = false) ∨ (k < q.needs.length ∧ near = true ∧ ¬ 0 < last) := by
        by_cases h1 : k < q.needs.length
        · cases near with
          | false => exact .inr (.inl ⟨h1, rfl⟩)
          | true => exact .inr (.inr ⟨h1, rfl, fun h => hc ⟨h1, rfl, h⟩⟩)
        · exact .inl h1
      clear hc
      have HK4 := Lib.hid hk4
      clear hk4
      rcases hcases with hlt | ⟨hlt, rfl⟩ | ⟨hlt, rfl, hlast⟩
      · go_wp2
        have F := (((((((((HK4.out.set_ 0 (.int .i64 q.id)).set_ 1 (.int .i64 q.sec)).set_ 2 (.int .i64 q.off)).set_ 3 (.slice A m1 c1)).set_ 4 (.int .i64 q.kind)).set_ 5 (.slice B q.needs.length c2)).set_ 6 (.int .i64 q.owner)).set_ 7 (.int .i64 q.child)).set_ 8 (.bool q.written))
        have T := (((((((((Turn.refl (fun j => j = w.heap.size + 1) wr).setCell (p := ⟨w.heap.size + 1, 0, none⟩) (fun _ => rfl) (.int .i64 q.id)).setCell (p := ⟨w.heap.size + 1, 1, none⟩) (fun _ => rfl) (.int .i64 q.sec)).setCell (p := ⟨w.heap.size + 1, 2, none⟩) (fun _ => rfl) (.int .i64 q.off)).setCell (p := ⟨w.heap.size + 1, 3, none⟩) (fun _ => rfl) (.slice A m1 c1)).setCell (p := ⟨w.heap.size + 1, 4, none⟩) (fun _ => rfl) (.int .i64 q.kind)).setCell (p := ⟨w.heap.size + 1, 5, none⟩) (fun _ => rfl) (.slice B q.needs.length c2)).setCell (p := ⟨w.heap.size + 1, 6, none⟩) (fun _ => rfl) (.int .i64 q.owner)).setCell (p := ⟨w.heap.size + 1, 7, none⟩) (fun _ => rfl) (.int .i64 q.child)).setCell (p := ⟨w.heap.size + 1, 8, none⟩) (fun _ => rfl) (.bool q.written)
        have z0 := F.cell 0
        have z1 := F.cell 1
        have z2 := F.cell 2
        have z3 := F.cell 3
        have z4 := F.cell 4
        have z5 := F.cell 5
        have z6 := F.cell 6
        have z7 := F.cell 7
        have z8 := F.cell 8
        generalize ((((((((wr.setCell ⟨w.heap.size + 1, 0, none⟩ (.int .i64 q.id)).setCell ⟨w.heap.size + 1, 1, none⟩ (.int .i64 q.sec)).setCell ⟨w.heap.size + 1, 2, none⟩ (.int .i64 q.off)).setCell ⟨w.heap.size + 1, 3, none⟩ (.slice A m1 c1)).setCell ⟨w.heap.size + 1, 4, none⟩ (.int .i64 q.kind)).setCell ⟨w.heap.size + 1, 5, none⟩ (.slice B q.needs.length c2)).setCell ⟨w.heap.size + 1, 6, none⟩ (.int .i64 q.owner)).setCell ⟨w.heap.size + 1, 7, none⟩ (.int .i64 q.child)).setCell ⟨w.heap.size + 1, 8, none⟩ (.bool q.written) = X at *
        simp at z0 z1 z2 z3 z4 z5 z6 z7 z8
        have hbl := HW2.out.trans (T.below (B := w.heap.size) (by omega) (fun i hi e => by omega))
        have hA2 := owns_mono (owns_keep HUk.out (fun g hg => by
          have := World.ownsRow.lt HUk.out g hg
          exact T.block g this.2 (by omega))) (show w.heap.size ≤ w.heap.size + 2 by omega)
        have hB2 := Built.mono (owns_keep HO.out (fun g hg => by
          have := World.ownsRow.lt HO.out g hg
          exact T.block g this.2 (by omega))) (show w.heap.size ≤ w.heap.size + 2 by omega)
        obtain ⟨en, v0, v1, v2, v3, v4, v6, v7, v8, -⟩ := HEnd.out
        rw [en] at hB2
        rw [← v3] at hA2
        exact bodyPost_ret (v := pn.val (.slice A m1 c1) (.slice B q.needs.length c2)) (by simp [results, Try.results14, go_sem, Pt.val, v0, v1, v2, v4, v6, v7, v8, z0, z1, z2, z3, z4, z5, z6, z7, z8]) rfl ⟨_, _, rfl, hA2, hB2, HAb.out, hbl⟩
      · go_wp2
        have F := (((((((((HK4.out.set_ 0 (.int .i64 q.id)).set_ 1 (.int .i64 q.sec)).set_ 2 (.int .i64 q.off)).set_ 3 (.slice A m1 c1)).set_ 4 (.int .i64 q.kind)).set_ 5 (.slice B q.needs.length c2)).set_ 6 (.int .i64 q.owner)).set_ 7 (.int .i64 q.child)).set_ 8 (.bool q.written))
        have T := (((((((((Turn.refl (fun j => j = w.heap.size + 1) wr).setCell (p := ⟨w.heap.size + 1, 0, none⟩) (fun _ => rfl) (.int .i64 q.id)).setCell (p := ⟨w.heap.size + 1, 1, none⟩) (fun _ => rfl) (.int .i64 q.sec)).setCell (p := ⟨w.heap.size + 1, 2, none⟩) (fun _ => rfl) (.int .i64 q.off)).setCell (p := ⟨w.heap.size + 1, 3, none⟩) (fun _ => rfl) (.slice A m1 c1)).setCell (p := ⟨w.heap.size + 1, 4, none⟩) (fun _ => rfl) (.int .i64 q.kind)).setCell (p := ⟨w.heap.size + 1, 5, none⟩) (fun _ => rfl) (.slice B q.needs.length c2)).setCell (p := ⟨w.heap.size + 1, 6, none⟩) (fun _ => rfl) (.int .i64 q.owner)).setCell (p := ⟨w.heap.size + 1, 7, none⟩) (fun _ => rfl) (.int .i64 q.child)).setCell (p := ⟨w.heap.size + 1, 8, none⟩) (fun _ => rfl) (.bool q.written)
        have z0 := F.cell 0
        have z1 := F.cell 1
        have z2 := F.cell 2
        have z3 := F.cell 3
        have z4 := F.cell 4
        have z5 := F.cell 5
        have z6 := F.cell 6
        have z7 := F.cell 7
        have z8 := F.cell 8
        generalize ((((((((wr.setCell ⟨w.heap.size + 1, 0, none⟩ (.int .i64 q.id)).setCell ⟨w.heap.size + 1, 1, none⟩ (.int .i64 q.sec)).setCell ⟨w.heap.size + 1, 2, none⟩ (.int .i64 q.off)).setCell ⟨w.heap.size + 1, 3, none⟩ (.slice A m1 c1)).setCell ⟨w.heap.size + 1, 4, none⟩ (.int .i64 q.kind)).setCell ⟨w.heap.size + 1, 5, none⟩ (.slice B q.needs.length c2)).setCell ⟨w.heap.size + 1, 6, none⟩ (.int .i64 q.owner)).setCell ⟨w.heap.size + 1, 7, none⟩ (.int .i64 q.child)).setCell ⟨w.heap.size + 1, 8, none⟩ (.bool q.written) = X at *
        simp at z0 z1 z2 z3 z4 z5 z6 z7 z8
        have hbl := HW2.out.trans (T.below (B := w.heap.size) (by omega) (fun i hi e => by omega))
        have hA2 := owns_mono (owns_keep HUk.out (fun g hg => by
          have := World.ownsRow.lt HUk.out g hg
          exact T.block g this.2 (by omega))) (show w.heap.size ≤ w.heap.size + 2 by omega)
        have hB2 := Built.mono (owns_keep HO.out (fun g hg => by
          have := World.ownsRow.lt HO.out g hg
          exact T.block g this.2 (by omega))) (show w.heap.size ≤ w.heap.size + 2 by omega)
        obtain ⟨en, v0, v1, v2, v3, v4, v6, v7, v8, -⟩ := HEnd.out
        rw [en] at hB2
        rw [← v3] at hA2
        exact bodyPost_ret (v := pn.val (.slice A m1 c1) (.slice B q.needs.length c2)) (by simp [results, Try.results14, go_sem, Pt.val, v0, v1, v2, v4, v6, v7, v8, z0, z1, z2, z3, z4, z5, z6, z7, z8]) rfl ⟨_, _, rfl, hA2, hB2, HAb.out, hbl⟩
      · go_wp2
        have F := (((((((((HK4.out.set_ 0 (.int .i64 q.id)).set_ 1 (.int .i64 q.sec)).set_ 2 (.int .i64 q.off)).set_ 3 (.slice A m1 c1)).set_ 4 (.int .i64 q.kind)).set_ 5 (.slice B q.needs.length c2)).set_ 6 (.int .i64 q.owner)).set_ 7 (.int .i64 q.child)).set_ 8 (.bool q.written))
        have T := (((((((((Turn.refl (fun j => j = w.heap.size + 1) wr).setCell (p := ⟨w.heap.size + 1, 0, none⟩) (fun _ => rfl) (.int .i64 q.id)).setCell (p := ⟨w.heap.size + 1, 1, none⟩) (fun _ => rfl) (.int .i64 q.sec)).setCell (p := ⟨w.heap.size + 1, 2, none⟩) (fun _ => rfl) (.int .i64 q.off)).setCell (p := ⟨w.heap.size + 1, 3, none⟩) (fun _ => rfl) (.slice A m1 c1)).setCell (p := ⟨w.heap.size + 1, 4, none⟩) (fun _ => rfl) (.int .i64 q.kind)).setCell (p := ⟨w.heap.size + 1, 5, none⟩) (fun _ => rfl) (.slice B q.needs.length c2)).setCell (p := ⟨w.heap.size + 1, 6, none⟩) (fun _ => rfl) (.int .i64 q.owner)).setCell (p := ⟨w.heap.size + 1, 7, none⟩) (fun _ => rfl) (.int .i64 q.child)).setCell (p := ⟨w.heap.size + 1, 8, none⟩) (fun _ => rfl) (.bool q.written)
        have z0 := F.cell 0
        have z1 := F.cell 1
        have z2 := F.cell 2
        have z3 := F.cell 3
        have z4 := F.cell 4
        have z5 := F.cell 5
        have z6 := F.cell 6
        have z7 := F.cell 7
        have z8 := F.cell 8
        generalize ((((((((wr.setCell ⟨w.heap.size + 1, 0, none⟩ (.int .i64 q.id)).setCell ⟨w.heap.size + 1, 1, none⟩ (.int .i64 q.sec)).setCell ⟨w.heap.size + 1, 2, none⟩ (.int .i64 q.off)).setCell ⟨w.heap.size + 1, 3, none⟩ (.slice A m1 c1)).setCell ⟨w.heap.size + 1, 4, none⟩ (.int .i64 q.kind)).setCell ⟨w.heap.size + 1, 5, none⟩ (.slice B q.needs.length c2)).setCell ⟨w.heap.size + 1, 6, none⟩ (.int .i64 q.owner)).setCell ⟨w.heap.size + 1, 7, none⟩ (.int .i64 q.child)).setCell ⟨w.heap.size + 1, 8, none⟩ (.bool q.written) = X at *
        simp at z0 z1 z2 z3 z4 z5 z6 z7 z8
        have hbl := HW2.out.trans (T.below (B := w.heap.size) (by omega) (fun i hi e => by omega))
        have hA2 := owns_mono (owns_keep HUk.out (fun g hg => by
          have := World.ownsRow.lt HUk.out g hg
          exact T.block g this.2 (by omega))) (show w.heap.size ≤ w.heap.size + 2 by omega)
        have hB2 := Built.mono (owns_keep HO.out (fun g hg => by
          have := World.ownsRow.lt HO.out g hg
          exact T.block g this.2 (by omega))) (show w.heap.size ≤ w.heap.size + 2 by omega)
        obtain ⟨en, v0, v1, v2, v3, v4, v6, v7, v8, -⟩ := HEnd.out
        rw [en] at hB2
        rw [← v3] at hA2
        exact bodyPost_ret (v := pn.val (.slice A m1 c1) (.slice B q.needs.length c2)) (by simp [results, Try.results14, go_sem, Pt.val, v0, v1, v2, v4, v6, v7, v8, z0, z1, z2, z3, z4, z5, z6, z7, z8]) rfl ⟨_, _, rfl, hA2, hB2, HAb.out, hbl⟩
end Go.Proofs.Ytmkfaibjjbgbbaa
