/- package scupperref04: Force. -/
import Derived.Test.YtnbppfhnagacfaaRdk
import Derived.Deep.RegionHeld3
namespace Go.Proofs.Ytnbppfhnagacfaa
open Go.RowKit
set_option linter.unusedVariables false
attribute [local go_sem ↓] Go.wp_at_zero Go.wp_at_succ

theorem RDk.force_step {F : Nat → Prop} {w2 : World} {d g gs cs gw cw : Nat} {x : Dk} {vs : List Value} {i : Int} {b : List Int} (h : RDk F w2 d g x (.slice (some ⟨gs, 0, none⟩) x.stable.length cs) (.slice (some ⟨gw, 0, none⟩) x.stable.length cw) vs) (hi : x.is i) (hb : b.length = 64) :
    let w3 := w2.drew.setCells gs (i.toNat * 64) (bytes b)
    let w4 := w3.setCell ⟨gw, i.toNat, none⟩ (.slice none 0 0)
    let w5 := w4.setCell ⟨d, 3, none⟩ (.int .i64 (x.writes + 1))
    w3.cell? ⟨d, 1, none⟩ = some (.slice (some ⟨gs, 0, none⟩) x.stable.length cs) ∧ w3.cell? ⟨d, 2, none⟩ = some (.slice (some ⟨gw, 0, none⟩) x.stable.length cw) ∧ w3.there gs (i.toNat * 64) 64 ∧
    (∃ v, w3.cell? ⟨gw, i.toNat, none⟩ = some v) ∧ w3.frozen? ⟨gw, i.toNat, none⟩ = false ∧
    w4.cell? ⟨d, 1, none⟩ = some (.slice (some ⟨gs, 0, none⟩) x.stable.length cs) ∧ w4.cell? ⟨d, 2, none⟩ = some (.slice (some ⟨gw, 0, none⟩) x.stable.length cw) ∧ w4.there gs (i.toNat * 64) 64 ∧
    w4.cell? ⟨d, 3, none⟩ = some (.int .i64 x.writes) ∧ w4.frozen? ⟨d, 3, none⟩ = false ∧
    RDk F w5 d g (x.force i b) (.slice (some ⟨gs, 0, none⟩) x.stable.length cs) (.slice (some ⟨gw, 0, none⟩) x.stable.length cw) (vs.set i.toNat (.slice none 0 0)) ∧ Turn F w2 w5 := by
  intro w3 w4 w5
  have hk' : i.toNat < x.stable.length := by have := hi.1; have := hi.2; omega
  obtain ⟨cs1, hgs⟩ := rows_type h.st gs rfl
  obtain ⟨cs2, hgw⟩ := owns_type h.wr gw rfl
  have hsw : ¬ gw = gs := fun e => Blk.ne_ hgw hgs (by decide) e
  have hds : ¬ d = gs := fun e => Blk.ne_ h.blk hgs (by decide) e
  have hdw : ¬ d = gw := fun e => Blk.ne_ h.blk hgw (by decide) e
  have hT3 : Turn (fun j => j = gs) w2 w3 := Turn.setCells (S := fun j => j = gs) (bytes b) (i.toNat * 64) (Turn.refl _ w2).drew fun _ => rfl
  have hD3 : Blk w3 d 89 _ := h.blk.turn hT3 hds
  have hR3 : Rows w3 (.slice (some ⟨gs, 0, none⟩) x.stable.length cs) (x.stable.set i.toNat b) := Rows.set (w := w2.drew) h.st hk' hb
  have hR3' : Rows w3 (.slice (some ⟨gs, 0, none⟩) (x.stable.set i.toNat b).length cs) (x.stable.set i.toNat b) := by rw [List.length_set]; exact hR3
  have hW3 := owns_turn h.wr hT3 fun j hj e => hsw ((Option.some.inj hj).trans e)
  have hT4 : Turn (fun j => j = gw) w3 w4 := (Turn.refl (fun j => j = gw) w3).setCell (p := ⟨gw, i.toNat, none⟩) (fun _ => rfl) _
  have hD4 : Blk w4 d 89 _ := hD3.turn hT4 hdw
  have hR4 := hR3.turn hT4 fun j hj e => hsw ((Option.some.inj hj).trans e).symm
  have hR4' := hR3'.turn hT4 fun j hj e => hsw ((Option.some.inj hj).trans e).symm
  have hW4 := World.ownsRow.stored hW3 i.toNat (.slice none 0 0)
  have hT5 : Turn (fun j => j = d) w4 w5 := (Turn.refl (fun j => j = d) w4).setCell (p := ⟨d, 3, none⟩) (fun _ => rfl) _
  have hTT : Turn (fun j => j = gs ∨ j = gw ∨ j = d) w2 w5 :=
    ((hT3.mono (S' := fun j => j = gs ∨ j = gw ∨ j = d) fun j _ e => .inl e).trans hT4 fun j _ e => .inr (.inl e)).trans hT5 fun j _ e => .inr (.inr e)
  have hl := h.len
  refine ⟨hD3.cell 1, hD3.cell 2, hR3'.there (by rw [List.length_set]; exact hk'), ⟨_, (World.ownsRow.cellAt hW3 i.toNat (by omega)).trans (List.getElem?_eq_getElem (by omega))⟩, World.ownsRow.frozenAt hW3 i.toNat,
    hD4.cell 1, hD4.cell 2, hR4'.there (by rw [List.length_set]; exact hk'), hD4.cell 3, hD4.frozen 3, ?_, hTT.mono fun j _ e => by
      rcases e with rfl | rfl | rfl
      · exact h.fs _ rfl
      · exact h.fv _ rfl
      · exact h.fd⟩
  have hvs : ∀ (k : Nat) v, (vs.set i.toNat (.slice none 0 0))[k]? = some v → (k = i.toNat ∧ v = .slice none 0 0) ∨ (k ≠ i.toNat ∧ vs[k]? = some v) := fun k v hv => by
    by_cases e : k = i.toNat
    · subst e
      rw [List.getElem?_set_self (by omega)] at hv
      exact .inl ⟨rfl, (Option.some.inj hv).symm⟩
    · rw [List.getElem?_set_ne (fun h => e h.symm)] at hv
      exact .inr ⟨e, hv⟩
  exact
    { blk := hD4.set_ 3 _
      st := hR4.turn hT5 fun j hj e => hds (e.symm.trans (Option.some.inj hj).symm)
      n1 := by show 1 ≤ (x.stable.set i.toNat b).length; rw [List.length_set]; exact h.n1
      n2 := by show (x.stable.set i.toNat b).length ≤ 2048; rw [List.length_set]; exact h.n2
      wr := by
        show w5.ownsRow 0 67 1 _ (x.stable.set i.toNat b).length _
        rw [List.length_set]
        exact owns_turn hW4.1 hT5 fun j hj e => hdw (e.symm.trans (Option.some.inj hj).symm)
      wt := fun k v hv => by
        show Rows w5 v (if (k : Int) = i then [] else x.waits k)
        rcases hvs k v hv with ⟨rfl, rfl⟩ | ⟨e, hv⟩
        · rw [if_pos (Int.toNat_of_nonneg hi.1)]; exact Rows.nil _
        · rw [if_neg (by have := hi.1; omega)]
          refine (h.wt k v hv).turn hTT fun j hj e => ?_
          obtain ⟨cs', hc⟩ := rows_type (h.wt k v hv) j hj
          rcases e with rfl | rfl | rfl
          · exact h.as_ k v hv _ hj rfl
          · exact Blk.ne_ hc hgw (by decide) rfl
          · exact Blk.ne_ hc h.blk (by decide) rfl
      cnt := ⟨show 0 ≤ x.writes + 1 from by have := h.cnt.1; omega, fun k => by
        show ((if k = i then [] else x.waits k).length : Int) ≤ x.writes + 1
        have h1 := h.cnt.2 k
        have h2 := h.cnt.1
        by_cases e : k = i
        · rw [if_pos e]; simp; omega
        · rw [if_neg e]; omega⟩
      fd := h.fd
      fs := h.fs
      fv := h.fv
      fw := fun k v hv j hj => by
        rcases hvs k v hv with ⟨rfl, rfl⟩ | ⟨e, hv⟩
        · cases hj
        · exact h.fw k v hv j hj
      as_ := fun k v hv j hj => by
        rcases hvs k v hv with ⟨rfl, rfl⟩ | ⟨e, hv⟩
        · cases hj
        · exact h.as_ k v hv j hj
      lt := fun j hj => Nat.lt_of_lt_of_le (h.lt j hj) hTT.size }
def sS (x : Dk) (s : Sup) (i : Int) : Sup := if x.is i then s.use.2 else s
theorem sS_supO (x : Dk) (s : Sup) (i : Int) : supO x (some s) i = some (sS x s i) := by
  unfold supO sS
  split
  · rfl
  · rfl
theorem cS_is {x : Dk} {s : Sup} {i : Int} (hi : x.is i) : codeO x (some s) i = s.use.1 ∧ sS x s i = s.use.2 := by
  unfold codeO sS
  rw [if_pos hi, if_pos hi]
  exact ⟨rfl, rfl⟩
theorem cS_not {x : Dk} {s : Sup} {i : Int} (hi : ¬ x.is i) : codeO x (some s) i = 2 ∧ sS x s i = s := by
  unfold codeO sS
  rw [if_neg hi, if_neg hi]
  exact ⟨rfl, rfl⟩
theorem RDk.cell0 {F : Nat → Prop} {w : World} {d g : Nat} {x : Dk} {sv wv : Value} {vs : List Value} (h : RDk F w d g x sv wv vs) : w.cell? ⟨d, 0, none⟩ = some (.pointer (some ⟨g, 0, none⟩)) := by
  have := h.blk.cell 0
  simpa using this
set_option maxRecDepth 100000 in
set_option maxHeartbeats 4000000 in
theorem rforce_any {F : Nat → Prop} {d g : Nat} {x : Dk} {sv wv : Value} {vs : List Value} {s : Sup} (i : Int) (b : List Int) (w : World) (h : RDk F w d g x sv wv vs) (hg : Blk w g 65 s.cells) (hgF : ¬ F g) (hok : s.ok) (hb : b.length = 64) (hw : x.writes ≤ 1000000) :
    Calls Try.prog 61 #[.pointer (some ⟨d, 0, none⟩), .int .i64 i, blkV b] w fun e w' => e = .returned (.int .i64 (codeO x (some s) i)) ∧ Blk w' g 65 (sS x s i).cells ∧
      (∃ vs', RDk (grow F w w') w' d g (if codeO x (some s) i = 0 then x.force i b else x) sv wv vs') ∧ Turn (fun j => F j ∨ j = g) w w' := by
  have hlF := h.lt
  obtain ⟨cr, hcr⟩ : ∃ c, codeO x (some s) i = c := ⟨_, rfl⟩
  obtain ⟨xr, hxr⟩ : ∃ y, (if cr = 0 then x.force i b else x) = y := ⟨_, rfl⟩
  rw [hcr, hxr]
  have HCr := Lib.hid hcr
  have HXr := Lib.hid hxr
  clear hcr hxr
  obtain ⟨w1, hw1⟩ : ∃ w1, w1 = w.alloc (.cells (bytes b).toArray 32) := ⟨_, rfl⟩
  have hb1 : Below w.heap.size w w1 := by rw [hw1]; exact (Below.refl _ _).alloc (Nat.le_refl _) _
  have hT1 := Turn.of_below (S := fun _ => False) hb1
  have hD1 := h.turn hT1 fun _ _ => id
  have hG1 := hg.turn hT1 id
  have HB1 := Lib.hid hb1
  have hV1 : Var w1 w.heap.size b := by rw [hw1]; exact Var.new _ hb
  have HIs := Lib.hid (ris_any i w1 hD1)
  have hgl := hg.lt
  have hs1 := hb1.size
  clear h hg hT1
  go_enter Try.func61, Try.ntmps61
  go_upto_region 1 with (fail)
  change Code.wp _ _ _ _ (World.alloc w (.cells (bytes b).toArray 32))
  rw [← hw1]
  obtain ⟨b1, hb1e⟩ : ∃ b1, b1 = w.heap.size := ⟨_, rfl⟩
  rw [← hb1e] at hV1 ⊢
  have HV1 := Lib.hid hV1
  have HD1 := Lib.hid hD1
  have HG1 := Lib.hid hG1
  have HlF := Lib.hid hlF
  have hbl : w.heap.size ≤ b1 := Nat.le_of_eq hb1e.symm
  have hbF : ¬ F b1 := fun e => by have := hlF b1 e; omega
  have hbg : ¬ b1 = g := by omega
  clear hw1 hb1 hV1 hb1e hD1 hG1 hlF
  by_cases hi : x.is i
  · rw [decide_eq_true hi] at HIs
    obtain ⟨hc1, hc2⟩ := cS_is (s := s) hi
    have HC := Lib.hid hc1
    have HC2 := Lib.hid hc2
    have hc0 := HD1.out.cell0
    have HU := Lib.hid (ruse_any g s w1 HG1.out hok.1 hok.2)
    obtain ⟨hi0, hi1⟩ := hi
    have hi : x.is i := ⟨hi0, hi1⟩
    clear hc1 hc2
    generalize s.use.1 = code at *
    generalize s.use.2 = s' at *
    go_wp2_with fail
    refine HIs.out.mono ?_
    rintro e w2 ⟨rfl, rfl⟩
    go_wp2_with fail
    refine HU.out.mono ?_
    rintro e w3 ⟨rfl, hG3, hT3⟩
    have HG3 := Lib.hid hG3
    have hD3 := HD1.out.turn hT3 fun j hj e => hgF (e ▸ hj)
    have hV3 := HV1.out.turn hT3 hbg
    have HD3 := Lib.hid hD3
    have HV3 := Lib.hid hV3
    have HT3 := Lib.hid (show Turn (fun j => F j ∨ j = g) w w3 from (Turn.of_below HB1.out).trans hT3 fun j _ e => .inr e)
    have hs3 := hT3.size
    clear hG3 hT3 HU HIs hc0 HG1
    by_cases hc : code = 0
    · subst hc
      obtain ⟨gs, cs, rfl⟩ := hD3.sv
      obtain ⟨gw, cw, v, rfl, -, hcv, -, -, -⟩ := hD3.at_ hi
      have c1 := hD3.blk.cell 1
      have c2 := hD3.blk.cell 2
      have hdl := hD3.blk.lt
      simp at c1 c2
      have hnw0 := hD3.cnt.1
      have hR0 : w3.drew.rangeAt b1 0 (bytes b) := hV3.range
      have hth : w3.drew.there gs (i.toNat * 64) 64 := hD3.st.there (by omega)
      obtain ⟨x1, x2, x3, ⟨v3, x4⟩, x5, y1, y2, y3, y4, y5, hD5, hT5⟩ := hD3.force_step hi hb
      have hb1s : ¬ b1 = gs := fun e => hbF (by rw [e]; exact hD3.fs _ rfl)
      have hb1w : ¬ b1 = gw := fun e => hbF (by rw [e]; exact hD3.fv _ rfl)
      have x6 : (w3.drew.setCells gs (i.toNat * 64) (bytes b)).rangeAt b1 0 (bytes b) := World.rangeAt_setCells_apart hR0 _ _ _ (.inl hb1s)
      have y6 : ((w3.drew.setCells gs (i.toNat * 64) (bytes b)).setCell ⟨gw, i.toNat, none⟩ (.slice none 0 0)).rangeAt b1 0 (bytes b) := fun j u hu => by
        have hne : (⟨b1, 0 + j, none⟩ : Addr).block ≠ (⟨gw, i.toNat, none⟩ : Addr).block := hb1w
        rw [World.cell?_of_block (Below.heap_setCell _ _ _ _ hne)]
        exact x6 j u hu
      have HD5 := Lib.hid hD5
      have HT5 := Lib.hid hT5
      have hu32 := Try.underlying32
      have hi32 : (Try.prog.info? 32).map (fun i => i.size) = some (bytes b).length := by rw [bytes_len, hb]; kernel_rfl
      have hsz64 : (bytes b).length = 64 := by rw [bytes_len]; exact hb
      have h1c : ∀ v ∈ bytes b, v.oneCell' = true := bytes_one b
      have ew : IntKind.i64.wrap (x.writes + 1) = x.writes + 1 := IntWalk.i64_in _ (by omega) |>.trans rfl
      clear hD3 hV3 hD5 hT5 hcv
      go_upto_region 6 with (fail)
      go_region_held3 (fun W => W.cell? ⟨d, 1, none⟩ = some (.slice (some ⟨gs, 0, none⟩) x.stable.length cs) ∧ W.cell? ⟨d, 2, none⟩ = some (.slice (some ⟨gw, 0, none⟩) x.stable.length cw) ∧ W.rangeAt b1 0 (bytes b) ∧ W.there gs (i.toNat * 64) 64)
        (first | exact ⟨c1, c2, hR0, hth⟩ | exact ⟨x1, x2, x6, x3⟩ | exact ⟨y1, y2, y6, y3⟩)
        (fail)
      have HF := Lib.hid (show Blk (((w3.drew.setCells gs (i.toNat * 64) (bytes b)).setCell ⟨gw, i.toNat, none⟩ (.slice none 0 0)).setCell ⟨d, 3, none⟩ (.int .i64 (x.writes + 1))) g 65 (sS x s i).cells ∧ (∃ vs', RDk (grow F w (((w3.drew.setCells gs (i.toNat * 64) (bytes b)).setCell ⟨gw, i.toNat, none⟩ (.slice none 0 0)).setCell ⟨d, 3, none⟩ (.int .i64 (x.writes + 1)))) (((w3.drew.setCells gs (i.toNat * 64) (bytes b)).setCell ⟨gw, i.toNat, none⟩ (.slice none 0 0)).setCell ⟨d, 3, none⟩ (.int .i64 (x.writes + 1))) d g xr _ _ vs') ∧ Turn (fun j => F j ∨ j = g) w (((w3.drew.setCells gs (i.toNat * 64) (bytes b)).setCell ⟨gw, i.toNat, none⟩ (.slice none 0 0)).setCell ⟨d, 3, none⟩ (.int .i64 (x.writes + 1))) from by
        rw [← HXr.out, ← HCr.out, HC2.out, if_pos HC.out]
        have hs5 := HT5.out.size
        exact ⟨HG3.out.turn HT5.out hgF, ⟨_, HD5.out.mono (fun j hj => .inl hj) fun j hj => by
          rcases hj with hj | hj
          · have := HlF.out j hj; omega
          · exact hj.2⟩, HT3.out.trans HT5.out fun j _ e => .inl e⟩)
      clear HD5 HT5 x1 x2 x3 x4 x5 x6 y1 y2 y3 y6 c1 c2 hR0 hth
      go_wp2_with fail
      go_ret
      exact ⟨by rw [← HCr.out, HC.out]; first | rfl | simp, HF.out⟩
    · have HF := Lib.hid (show Blk w3 g 65 (sS x s i).cells ∧ (∃ vs', RDk (grow F w w3) w3 d g xr sv wv vs') ∧ Turn (fun j => F j ∨ j = g) w w3 from by
        rw [← HXr.out, ← HCr.out, HC2.out, HC.out, if_neg hc]
        exact ⟨HG3.out, ⟨_, HD3.out.mono (fun j hj => .inl hj) fun j hj => by
          rcases hj with hj | hj
          · have := HlF.out j hj; omega
          · exact hj.2⟩, HT3.out⟩)
      have hcn : (code == 0) = false := by simpa using hc
      clear hD3 hV3
      go_wp2
      go_ret
      exact ⟨by rw [← HCr.out, HC.out]; first | rfl | simp, HF.out⟩
  · rw [decide_eq_false hi] at HIs
    obtain ⟨hc1, hc2⟩ := cS_not (s := s) hi
    have HF := Lib.hid (show Blk w1 g 65 (sS x s i).cells ∧ (∃ vs', RDk (grow F w w1) w1 d g xr sv wv vs') ∧ Turn (fun j => F j ∨ j = g) w w1 from by
        rw [← HXr.out, ← HCr.out, hc2, hc1, if_neg (by decide)]
        exact ⟨HG1.out, ⟨_, HD1.out.mono (fun j hj => .inl hj) fun j hj => by
          rcases hj with hj | hj
          · have := HlF.out j hj; omega
          · exact hj.2⟩, Turn.of_below HB1.out⟩)
    have HC := Lib.hid hc1
    clear hc1 hc2
    go_wp2_with fail
    refine HIs.out.mono ?_
    rintro e w2 ⟨rfl, rfl⟩
    go_wp2
    go_ret
    exact ⟨by rw [← HCr.out, HC.out]; first | rfl | simp, HF.out⟩
end Go.Proofs.Ytnbppfhnagacfaa
