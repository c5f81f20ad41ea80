/- package scupperref04: Write. packages scupperref04, scupperref13: New. package scupperref13: the reference's cache, as it lies. -/
import Derived.Test.YtnbppfhnagacfaaRst
import Derived.Test.YtnbppfhnagacfaaWLast
namespace Go.Proofs.Ytnbppfhnagacfaa
open Go.RowKit Go.Proofs.YtnbppfhnagacfaaW.PrintLast
set_option linter.unusedVariables false
set_option linter.unusedSimpArgs false
attribute [local go_sem ↓] Go.wp_at_zero Go.wp_at_succ

theorem RDk.write_step {F : Nat → Prop} {w3 W : World} {d g gw cw g16 cap : Nat} {x : Dk} {sv : Value} {vs : List Value} {i : Int} {b : List Int} (h : RDk F w3 d g x sv (.slice (some ⟨gw, 0, none⟩) x.stable.length cw) vs) (hi : x.is i) (hb : b.length = 64) (hB : Below w3.heap.size w3 W)
    (hO : W.ownsRow w3.heap.size 32 64 (.slice (some ⟨g16, 0, none⟩) ((x.waits i).length + 1) cap) ((x.waits i).length + 1) (flat (x.waits i) ++ bytes b)) :
    (W.setCell ⟨gw, i.toNat, none⟩ (.slice (some ⟨g16, 0, none⟩) ((x.waits i).length + 1) cap)).cell? ⟨d, 3, none⟩ = some (.int .i64 x.writes) ∧ (W.setCell ⟨gw, i.toNat, none⟩ (.slice (some ⟨g16, 0, none⟩) ((x.waits i).length + 1) cap)).frozen? ⟨d, 3, none⟩ = false ∧
    RDk (grow F w3 ((W.setCell ⟨gw, i.toNat, none⟩ (.slice (some ⟨g16, 0, none⟩) ((x.waits i).length + 1) cap)).setCell ⟨d, 3, none⟩ (.int .i64 (x.writes + 1)))) ((W.setCell ⟨gw, i.toNat, none⟩ (.slice (some ⟨g16, 0, none⟩) ((x.waits i).length + 1) cap)).setCell ⟨d, 3, none⟩ (.int .i64 (x.writes + 1))) d g (x.write i b) sv (.slice (some ⟨gw, 0, none⟩) x.stable.length cw) (vs.set i.toNat (.slice (some ⟨g16, 0, none⟩) ((x.waits i).length + 1) cap)) ∧
    Turn F w3 ((W.setCell ⟨gw, i.toNat, none⟩ (.slice (some ⟨g16, 0, none⟩) ((x.waits i).length + 1) cap)).setCell ⟨d, 3, none⟩ (.int .i64 (x.writes + 1))) := by
  generalize hv16 : Value.slice (some ⟨g16, 0, none⟩) ((x.waits i).length + 1) cap = v16 at *
  have hk' : i.toNat < x.stable.length := by have := hi.1; have := hi.2; omega
  obtain ⟨cs2, hgw⟩ := owns_type h.wr gw rfl
  have hdw : ¬ d = gw := fun e => Blk.ne_ h.blk hgw (by decide) e
  have hTB : Turn (fun _ => False) w3 W := Turn.of_below hB
  have hgwl := (World.ownsRow.lt h.wr gw rfl).2
  obtain ⟨w4, hw4⟩ : ∃ w4, w4 = W.setCell ⟨gw, i.toNat, none⟩ v16 := ⟨_, rfl⟩
  rw [← hw4]
  obtain ⟨w5, hw5⟩ : ∃ w5, w5 = w4.setCell ⟨d, 3, none⟩ (.int .i64 (x.writes + 1)) := ⟨_, rfl⟩
  rw [← hw5]
  have hT4 : Turn (fun j => j = gw) W w4 := by rw [hw4]; exact (Turn.refl (fun j => j = gw) W).setCell (p := ⟨gw, i.toNat, none⟩) (fun _ => rfl) _
  have hT5 : Turn (fun j => j = d) w4 w5 := by rw [hw5]; exact (Turn.refl (fun j => j = d) w4).setCell (p := ⟨d, 3, none⟩) (fun _ => rfl) _
  have hD4 : Blk w4 d 89 _ := (h.blk.turn hTB id).turn hT4 hdw
  have hW4 : w4.ownsRow 0 67 1 (.slice (some ⟨gw, 0, none⟩) x.stable.length cw) x.stable.length (vs.set i.toNat v16) := by rw [hw4]; exact (World.ownsRow.stored (owns_turn h.wr hTB fun _ _ => id) i.toNat v16).1
  have hTT : Turn (fun j => j = gw ∨ j = d) w3 w5 := ((hTB.mono (S' := fun j => j = gw ∨ j = d) fun j _ e => e.elim).trans hT4 fun j _ e => .inl e).trans hT5 fun j _ e => .inr e
  have hTW : Turn (fun j => j = gw ∨ j = d) W w5 := (hT4.mono (S' := fun j => j = gw ∨ j = d) fun j _ e => .inl e).trans hT5 fun j _ e => .inr e
  have hl := h.len
  have hg16 : g16 < W.heap.size ∧ w3.heap.size ≤ g16 := by
    have := World.ownsRow.lt hO g16 (by rw [← hv16]; rfl)
    exact ⟨this.2, this.1⟩
  have hs5 := hTW.size
  have hO16 : v16.ownBlock = some g16 := by rw [← hv16]; rfl
  refine ⟨hD4.cell 3, hD4.frozen 3, ?_, hTT.mono fun j _ e => by
      rcases e with rfl | rfl
      · exact h.fv _ rfl
      · exact h.fd⟩
  have hvs : ∀ (k : Nat) v, (vs.set i.toNat v16)[k]? = some v → (k = i.toNat ∧ v = v16) ∨ (k ≠ i.toNat ∧ vs[k]? = some v) := fun k v hv => by
    by_cases e : k = i.toNat
    · subst e
      rw [List.getElem?_set_self (by omega)] at hv
      exact .inl ⟨rfl, (Option.some.inj hv).symm⟩
    · rw [List.getElem?_set_ne (fun h => e h.symm)] at hv
      exact .inr ⟨e, hv⟩
  have hwl : ∀ q ∈ x.waits i, q.length = 64 := by
    obtain ⟨_, _, v, _, _, _, hR, _⟩ := h.at_ hi
    exact hR.2
  have hR5 : Rows w5 v16 (x.waits i ++ [b]) := by
    refine ⟨?_, fun q hq => ?_⟩
    · rw [flat_append, List.length_append]
      have h1 := owns_turn hO hTW fun j hj e => by
        rw [hO16] at hj
        obtain rfl := Option.some.inj hj
        have := h.blk.lt
        omega
      refine ⟨h1.1, ?_⟩
      rcases h1.2 with h2 | ⟨g, cp, cur, e1, e2, e3⟩
      · exact .inl h2
      · exact .inr ⟨g, cp, cur, e1, Nat.zero_le _, e3⟩
    · rcases List.mem_append.1 hq with hq | hq
      · exact hwl q hq
      · rw [List.mem_singleton.1 hq]; exact hb
  exact
    { blk := by rw [hw5]; exact hD4.set_ 3 _
      st := h.st.turn hTT fun j hj e => by
        obtain ⟨cs1, hgs⟩ := rows_type h.st j hj
        rcases e with rfl | rfl
        · exact Blk.ne_ hgs hgw (by decide) rfl
        · exact Blk.ne_ hgs h.blk (by decide) rfl
      n1 := h.n1
      n2 := h.n2
      wr := owns_turn hW4 hT5 fun j hj e => hdw (e.symm.trans (Option.some.inj hj).symm)
      wt := fun k v hv => by
        show Rows w5 v (if (k : Int) = i then x.waits i ++ [b] else x.waits k)
        rcases hvs k v hv with ⟨rfl, rfl⟩ | ⟨e, hv⟩
        · rw [if_pos (Int.toNat_of_nonneg hi.1)]; exact hR5
        · rw [if_neg (by have := hi.1; omega)]
          refine (h.wt k v hv).turn hTT fun j hj e => ?_
          obtain ⟨cs', hc⟩ := rows_type (h.wt k v hv) j hj
          rcases e with rfl | rfl
          · exact Blk.ne_ hc hgw (by decide) rfl
          · exact Blk.ne_ hc h.blk (by decide) rfl
      cnt := ⟨show 0 ≤ x.writes + 1 from by have := h.cnt.1; omega, fun k => by
        show ((if k = i then x.waits i ++ [b] else x.waits k).length : Int) ≤ x.writes + 1
        have h1 := h.cnt.2 k
        have h2 := h.cnt.2 i
        by_cases e : k = i
        · rw [if_pos e]; simp; omega
        · rw [if_neg e]; omega⟩
      fd := .inl h.fd
      fs := fun j hj => .inl (h.fs j hj)
      fv := fun j hj => .inl (h.fv j hj)
      fw := fun k v hv j hj => by
        rcases hvs k v hv with ⟨rfl, rfl⟩ | ⟨e, hv⟩
        · rw [hO16] at hj
          obtain rfl := Option.some.inj hj
          exact .inr ⟨hg16.2, by omega⟩
        · exact .inl (h.fw k v hv j hj)
      as_ := fun k v hv j hj hs => by
        rcases hvs k v hv with ⟨rfl, rfl⟩ | ⟨e, hv⟩
        · rw [hO16] at hj
          obtain rfl := Option.some.inj hj
          have := h.st.lt _ hs
          omega
        · exact h.as_ k v hv j hj hs
      lt := fun j hj => by
        rcases hj with hj | hj
        · exact Nat.lt_of_lt_of_le (h.lt j hj) hTT.size
        · exact hj.2 }
set_option maxRecDepth 100000 in
set_option maxHeartbeats 16000000 in
theorem rwrite_any {F : Nat → Prop} {d g : Nat} {x : Dk} {sv wv : Value} {vs : List Value} {s : Sup} (i : Int) (b : List Int) (w : World) (h : RDk F w d g x sv wv vs) (hg : Blk w g 65 s.cells) (hgF : ¬ F g) (hok : s.ok) (hb : b.length = 64) (hw : x.writes ≤ 1000000) :
    Calls Try.prog 62 #[.pointer (some ⟨d, 0, none⟩), .int .i64 i, blkV b] w fun e w' => e = .returned (.int .i64 (codeO x (some s) i)) ∧ Blk w' g 65 (sS x s i).cells ∧
      (∃ vs', RDk (grow F w w') w' d g (if codeO x (some s) i = 0 then x.write i b else x) sv wv vs') ∧ Turn (fun j => F j ∨ j = g) w w' := by
  have hlF := h.lt
  obtain ⟨cr, hcr⟩ : ∃ c, codeO x (some s) i = c := ⟨_, rfl⟩
  obtain ⟨xr, hxr⟩ : ∃ y, (if cr = 0 then x.write i b else x) = y := ⟨_, rfl⟩
  rw [hcr, hxr]
  have HCr := Lib.hid hcr
  have HXr := Lib.hid hxr
  clear hcr hxr
  obtain ⟨w1, hw1⟩ : ∃ w1, w1 = w.alloc (.cells (bytes b).toArray 32) := ⟨_, rfl⟩
  have hb1 : Below w.heap.size w w1 := by rw [hw1]; exact (Below.refl _ _).alloc (Nat.le_refl _) _
  have hT1 := Turn.of_below (S := fun _ => False) hb1
  have hD1 := h.turn hT1 fun _ _ => id
  have hG1 := hg.turn hT1 id
  have HB1 := Lib.hid hb1
  have hV1 : Var w1 w.heap.size b := by rw [hw1]; exact Var.new _ hb
  have HIs := Lib.hid (ris_any i w1 hD1)
  have hgl := hg.lt
  have hs1 := hb1.size
  clear h hg hT1
  go_enter Try.func62, Try.ntmps62
  go_upto_region 1 with (fail)
  change Code.wp _ _ _ _ (World.alloc w (.cells (bytes b).toArray 32))
  rw [← hw1]
  obtain ⟨b1, hb1e⟩ : ∃ b1, b1 = w.heap.size := ⟨_, rfl⟩
  rw [← hb1e] at hV1 ⊢
  have HV1 := Lib.hid hV1
  have HD1 := Lib.hid hD1
  have HG1 := Lib.hid hG1
  have HlF := Lib.hid hlF
  have hbl : w.heap.size ≤ b1 := Nat.le_of_eq hb1e.symm
  have hbF : ¬ F b1 := fun e => by have := hlF b1 e; omega
  have hbg : ¬ b1 = g := by omega
  clear hw1 hb1 hV1 hb1e hD1 hG1 hlF
  by_cases hi : x.is i
  · rw [decide_eq_true hi] at HIs
    obtain ⟨hc1, hc2⟩ := cS_is (s := s) hi
    have HC := Lib.hid hc1
    have HC2 := Lib.hid hc2
    have hc0 := HD1.out.cell0
    have HU := Lib.hid (ruse_any g s w1 HG1.out hok.1 hok.2)
    obtain ⟨hi0, hi1⟩ := hi
    have hi : x.is i := ⟨hi0, hi1⟩
    clear hc1 hc2
    generalize s.use.1 = code at *
    generalize s.use.2 = s' at *
    go_wp2_with fail
    refine HIs.out.mono ?_
    rintro e w2 ⟨rfl, rfl⟩
    go_wp2_with fail
    refine HU.out.mono ?_
    rintro e w3 ⟨rfl, hG3, hT3⟩
    have HG3 := Lib.hid hG3
    have hD3 := HD1.out.turn hT3 fun j hj e => hgF (e ▸ hj)
    have hV3 := HV1.out.turn hT3 hbg
    have HD3 := Lib.hid hD3
    have HV3 := Lib.hid hV3
    have HT3 := Lib.hid (show Turn (fun j => F j ∨ j = g) w w3 from (Turn.of_below HB1.out).trans hT3 fun j _ e => .inr e)
    have hs3 := hT3.size
    clear hG3 hT3 HU HIs hc0 HG1
    by_cases hc : code = 0
    · subst hc
      obtain ⟨gw, cw, v, rfl, -, hcv, hRw, -, -⟩ := hD3.at_ hi
      have c2 := hD3.blk.cell 2
      have hdl := hD3.blk.lt
      simp at c2
      have hnw0 := hD3.cnt.1
      have hnw := hD3.cnt.2 i
      obtain ⟨A, c, rfl, -, -⟩ := hRw.shape
      have HK := Lib.hid (show ∀ W, Below w3.heap.size w3 W → W.cell? ⟨d, 2, none⟩ = some (.slice (some ⟨gw, 0, none⟩) x.stable.length cw) ∧ W.cell? ⟨gw, i.toNat, none⟩ = some (.slice A (x.waits i).length c) ∧ W.rangeAt b1 0 (bytes b) from fun W hW => by
        have hT := Turn.of_below (S := fun _ => False) hW
        obtain ⟨gw', cw', v', e1, -, e2, -, -, -⟩ := (hD3.turn hT fun _ _ => id).at_ hi
        injection e1 with e1
        injection e1 with e1
        injection e1 with e1
        subst e1
        have l2 : (⟨gw, i.toNat, none⟩ : Addr).block < w3.heap.size := (World.ownsRow.lt hD3.wr gw rfl).2
        exact ⟨((hD3.blk.turn hT id).cell 2), (hW.cell (p := ⟨gw, i.toNat, none⟩) l2).trans hcv, (hV3.turn hT id).range⟩)
      have HFz := Lib.hid (show ∀ W, Below w3.heap.size w3 W → W.frozen? ⟨gw, i.toNat, none⟩ = false from fun W hW => World.ownsRow.frozenAt (owns_turn hD3.wr (Turn.of_below (S := fun _ => False) hW) fun _ _ => id) i.toNat)
      have HNw := Lib.hid (show ∀ W, Below w3.heap.size w3 W → ∀ ad, A = some ad → ∀ j u, (flat (x.waits i))[j]? = some u → W.cell? (ad.add j) = some u from fun W hW ad hA j u hu => by
        have h1 := (hRw.turn (Turn.of_below (S := fun _ => False) hW) fun _ _ => id).1
        rcases h1.2 with ⟨e, h0⟩ | ⟨g', cap', cur', e, -⟩
        · injection e with e; rw [hA] at e; cases e
        · have := World.ownsRow.cells h1 (g := g') (by rw [e]; rfl) j u hu
          injection e with e
          rw [hA] at e
          obtain rfl := Option.some.inj e
          exact this)
      have hAn : A = none → c = 0 ∧ (x.waits i).length = 0 := fun hA => by
        rcases hRw.1.2 with ⟨e, h0⟩ | ⟨g', cap', cur', e, -⟩
        · injection e with e1 e2 e3; exact ⟨e3, h0⟩
        · injection e with e; rw [hA] at e; cases e
      have hfl : (flat (x.waits i)).length = (x.waits i).length * 64 := flat_len hRw.2
      have hfo : ∀ u ∈ flat (x.waits i), u.oneCell' = true := fun u hu => by
        obtain ⟨q, hq, hu⟩ := List.mem_flatMap.1 hu
        exact bytes_one q u hu
      have hi32 : (Try.prog.info? 32).map (fun i => i.size) = some (bytes b).length := by rw [bytes_len, hb]; kernel_rfl
      have hsz64 : (bytes b).length = 64 := by rw [bytes_len]; exact hb
      have hl1 : (bytes b).length = 1 * 64 := by rw [hsz64]
      obtain ⟨i0, z0, hi0, hz0, hz1, hz2, hz3⟩ := info32
      have h63 : (x.waits i).length + 1 ≤ maxLen := by unfold maxLen; omega
      have h630 : 0 + (x.waits i).length ≤ maxLen := by unfold maxLen; omega
      have hby : ((x.waits i).length + 1) * 64 ≤ 140737488355328 := by omega
      have hby0 : (0 + (x.waits i).length) * 64 ≤ 140737488355328 := by omega
      have ew : IntKind.i64.wrap (x.writes + 1) = x.writes + 1 := IntWalk.i64_in _ (by omega) |>.trans rfl
      have HD := Lib.hid hD3
      clear hcv hRw c2 hD3 hV3
      go_upto_region 6 with (fail)
      have hB : Below w3.heap.size w3 w3.drew := (Below.refl _ _).drew
      refine start_ (n := 19) (S := fun w' => w'.cell? ⟨d, 2, none⟩ = some (.slice (some ⟨gw, 0, none⟩) x.stable.length cw) ∧ w'.cell? ⟨gw, i.toNat, none⟩ = some (.slice A (x.waits i).length c) ∧ w'.rangeAt b1 0 (bytes b)) (ds := [18]) #[false, false, false, false, false, false, false, false, false, false, false, false, false, false, false, false, false, false, false] (by kernel_rfl) rfl rfl ⟨(HK.out _ hB).1, (HK.out _ hB).2.1, (HK.out _ hB).2.2⟩ (fun hHeld => ?_)
      refine pure_ (i := 0) (N := some 20) (v := ?_) (a' := ?_) #[true, false, false, false, false, false, false, false, false, false, false, false, false, false, false, false, false, false, false] rfl rfl (by kernel_rfl) (fun _ _ _ h => h) (Or.inl ⟨by rfl, ?_⟩) ?_ ?_
      rotate_left
      · intro w'
        go_simp
        with_reducible rfl
      rotate_left
      · simp only [Act.put, List.setIfInBounds_toArray, List.set_cons_zero, List.set_cons_succ, i64_w, i32_w]
        rfl
      refine pure_ (i := 1) (N := some 21) (v := ?_) (a' := ?_) #[true, true, false, false, false, false, false, false, false, false, false, false, false, false, false, false, false, false, false] rfl rfl (by kernel_rfl) (fun _ _ _ h => h) (Or.inl ⟨by rfl, ?_⟩) ?_ ?_
      rotate_left
      · intro w'
        go_simp
        with_reducible rfl
      rotate_left
      · simp only [Act.put, List.setIfInBounds_toArray, List.set_cons_zero, List.set_cons_succ, i64_w, i32_w]
        rfl
      refine pure_ (i := 2) (N := some 22) (v := ?_) (a' := ?_) #[true, true, true, false, false, false, false, false, false, false, false, false, false, false, false, false, false, false, false] rfl rfl (by kernel_rfl) (fun _ _ _ h => h) (Or.inl ⟨by rfl, ?_⟩) ?_ ?_
      rotate_left
      · intro w'
        go_simp
        with_reducible rfl
      rotate_left
      · simp only [Act.put, List.setIfInBounds_toArray, List.set_cons_zero, List.set_cons_succ, i64_w, i32_w]
        rfl
      refine pure_ (i := 4) (N := some 24) (v := ?_) (a' := ?_) #[true, true, true, false, true, false, false, false, false, false, false, false, false, false, false, false, false, false, false] rfl rfl (by kernel_rfl) (fun _ _ _ h => h) (Or.inl ⟨by rfl, ?_⟩) ?_ ?_
      rotate_left
      · intro w'
        go_simp
        with_reducible rfl
      rotate_left
      · simp only [Act.put, List.setIfInBounds_toArray, List.set_cons_zero, List.set_cons_succ, i64_w, i32_w]
        rfl
      refine pure_ (i := 6) (N := some 26) (v := ?_) (a' := ?_) #[true, true, true, false, true, false, true, false, false, false, false, false, false, false, false, false, false, false, false] rfl rfl (by kernel_rfl) (fun _ _ _ h => h) (Or.inl ⟨by rfl, ?_⟩) ?_ ?_
      rotate_left
      · intro w'
        go_simp
        with_reducible rfl
      rotate_left
      · simp only [Act.put, List.setIfInBounds_toArray, List.set_cons_zero, List.set_cons_succ, i64_w, i32_w]
        rfl
      refine pure_ (i := 7) (N := some 27) (v := ?_) (a' := ?_) #[true, true, true, false, true, false, true, true, false, false, false, false, false, false, false, false, false, false, false] rfl rfl (by kernel_rfl) (fun _ _ _ h => h) (Or.inl ⟨by rfl, ?_⟩) ?_ ?_
      rotate_left
      · intro w'
        go_simp
        with_reducible rfl
      rotate_left
      · simp only [Act.put, List.setIfInBounds_toArray, List.set_cons_zero, List.set_cons_succ, i64_w, i32_w]
        rfl
      refine pure_ (i := 8) (N := some 28) (v := ?_) (a' := ?_) #[true, true, true, false, true, false, true, true, true, false, false, false, false, false, false, false, false, false, false] rfl rfl (by kernel_rfl) (fun _ _ _ h => h) (Or.inl ⟨by rfl, ?_⟩) ?_ ?_
      rotate_left
      · intro w'
        go_simp
        with_reducible rfl
      rotate_left
      · simp only [Act.put, List.setIfInBounds_toArray, List.set_cons_zero, List.set_cons_succ, i64_w, i32_w]
        rfl
      refine pure_ (i := 10) (N := some 30) (v := ?_) (a' := ?_) #[true, true, true, false, true, false, true, true, true, false, true, false, false, false, false, false, false, false, false] rfl rfl (by kernel_rfl) (fun _ _ _ h => h) (Or.inl ⟨by rfl, ?_⟩) ?_ ?_
      rotate_left
      · intro w'
        go_simp
        with_reducible rfl
      rotate_left
      · simp only [Act.put, List.setIfInBounds_toArray, List.set_cons_zero, List.set_cons_succ, i64_w, i32_w]
        rfl
      refine take_ (i := 3) (N := some 23) (v := ?_) (a' := ?_) #[true, true, true, true, true, false, true, true, true, false, true, false, false, false, false, false, false, false, false] rfl rfl (by kernel_rfl) (fun _ _ _ h => h) (Or.inl ⟨by rfl, ?_⟩) hHeld ?_ ?_
      rotate_left
      · rintro w' ⟨s0, s1, s2⟩
        go_simp
        with_reducible rfl
      rotate_left
      · simp only [Act.put, List.setIfInBounds_toArray, List.set_cons_zero, List.set_cons_succ, i64_w, i32_w]
        rfl
      refine take_ (i := 9) (N := some 29) (v := ?_) (a' := ?_) #[true, true, true, true, true, false, true, true, true, true, true, false, false, false, false, false, false, false, false] rfl rfl (by kernel_rfl) (fun _ _ _ h => h) (Or.inl ⟨by rfl, ?_⟩) hHeld ?_ ?_
      rotate_left
      · rintro w' ⟨s0, s1, s2⟩
        go_simp
        with_reducible rfl
      rotate_left
      · simp only [Act.put, List.setIfInBounds_toArray, List.set_cons_zero, List.set_cons_succ, i64_w, i32_w]
        rfl
      refine pure_ (i := 11) (N := some 31) (v := ?_) (a' := ?_) #[true, true, true, true, true, false, true, true, true, true, true, true, false, false, false, false, false, false, false] rfl rfl (by kernel_rfl) (fun _ _ _ h => h) (Or.inl ⟨by rfl, ?_⟩) ?_ ?_
      rotate_left
      · intro w'
        go_simp
        with_reducible rfl
      rotate_left
      · simp only [Act.put, List.setIfInBounds_toArray, List.set_cons_zero, List.set_cons_succ, i64_w, i32_w]
        rfl
      refine take_ (i := 12) (N := some 32) (v := ?_) (a' := ?_) #[true, true, true, true, true, false, true, true, true, true, true, true, true, false, false, false, false, false, false] rfl rfl (by kernel_rfl) (fun _ _ _ h => h) (Or.inl ⟨by rfl, ?_⟩) hHeld ?_ ?_
      rotate_left
      · rintro w' ⟨s0, s1, s2⟩
        go_simp
        with_reducible rfl
      rotate_left
      · simp only [Act.put, List.setIfInBounds_toArray, List.set_cons_zero, List.set_cons_succ, i64_w, i32_w]
        rfl
      refine' take_ (i := 14) (N := some 34) (v := _) (a' := ?_) #[true, true, true, true, true, false, true, true, true, true, true, true, true, false, true, false, false, false, false] rfl rfl (by kernel_rfl) (fun _ _ _ h => h) (yieldsIf_load_mid (by rfl) _ _ rfl _ _ rfl _ _ (fun w hw => hw.2.2) Try.underlying32 rfl hi32) hHeld ?_ ?_
      rotate_left
      · simp only [Act.put, List.setIfInBounds_toArray, List.set_cons_zero, List.set_cons_succ, i64_w, i32_w]
        rfl
      refine join_ (σ := Nat × Nat × Nat × Nat) 3 #[true, true, true, true, true, true, true, true, true, true, true, true, true, true, true, true, false, false, false] (fun s => [(25, Value.slice (some ⟨s.1, 0, none⟩) 0 0), (33, Value.slice (some ⟨s.2.1, 0, none⟩) (x.waits i).length s.2.2.1), (35, Value.slice (some ⟨s.2.2.2, 0, none⟩) 1 1)]) (fun s w' => Below w3.heap.size w3 w' ∧ w'.ownsRow w3.heap.size 32 64 (.slice (some ⟨s.2.1, 0, none⟩) (x.waits i).length s.2.2.1) (x.waits i).length (flat (x.waits i)) ∧ Blk w' s.2.2.2 32 (bytes b).toArray ∧ s.2.2.2 ≠ s.2.1 ∧ w3.heap.size ≤ s.2.1) ?_ ?_
      rotate_left
      · intro hCont
        refine two_ (i := 5) (j := 15) (Ni := some 25) (Nj := some 35) #[true, true, true, true, true, true, true, true, true, true, true, true, true, false, true, false, false, false, false] #[true, true, true, true, true, false, true, true, true, true, true, true, true, false, true, true, false, false, false] rfl rfl rfl rfl (by kernel_rfl) (by decide) (by decide) (fun K hK => ?_) (fun K hK => ?_)
        · skip
          refine step_mk0 67 32 i0 z0 Try.underlying67 hi0 hz0 rfl rfl ?_
          intro g5 W5 hg5 hW5
          have hE : W5.ownsRow w3.heap.size 32 64 (.slice (some ⟨g5, 0, none⟩) 0 0) 0 [] := by rw [hW5, hg5]; exact owns_mk0 _ _ _ _ hB.size
          have hgb5 : w3.heap.size ≤ g5 := by rw [hg5]; exact hB.size
          have hB : Below w3.heap.size w3 W5 := by rw [hW5]; exact bel_alloc hB _
          clear hg5 hW5
          refine hK.out _ _ ⟨(HK.out _ hB).1, (HK.out _ hB).2.1, (HK.out _ hB).2.2⟩ (fun hHeld => ?_)
          clear hK K
          refine norm_ (a' := ?_) ?_ ?_
          rotate_left
          · show Act.put _ (some 25) _ = _
            simp only [Act.put, List.setIfInBounds_toArray, List.set_cons_zero, List.set_cons_succ, i64_w, i32_w]
            rfl
          refine two_ (i := 13) (j := 15) (Ni := some 33) (Nj := some 35) #[true, true, true, true, true, true, true, true, true, true, true, true, true, true, true, false, false, false, false] #[true, true, true, true, true, true, true, true, true, true, true, true, true, false, true, true, false, false, false] rfl rfl rfl rfl (by kernel_rfl) (by decide) (by decide) (fun K hK => ?_) (fun K hK => ?_)
          · skip
            refine step_append_some rfl (.tmp 25) (.tmp 32) 67 rfl w3.heap.size 32 i0 z0 64 64 Try.underlying67 hi0 hz0 hz1 hz2 hz3 (by decide) g5 0 0 [] rfl hE A (x.waits i).length c (flat (x.waits i)) rfl hfl hAn (HNw.out _ hB) hfo _ (Nat.zero_add _) h630 hby0 hB.size ?_
            intro g13 cap13 W13 hO hg13 hat13 hlt13
            have hO : W13.ownsRow w3.heap.size 32 64 (.slice (some ⟨g13, 0, none⟩) (x.waits i).length cap13) (x.waits i).length (flat (x.waits i)) := hO
            have hgb13 : w3.heap.size ≤ g13 := by
              rcases hat13 with e | e
              · rw [← e]; exact hgb5
              · rw [e]; exact hB.size
            have hB : Below w3.heap.size w3 W13 := bel_grown hB hg13 hgb5
            clear hE hg13 hat13 hlt13
            refine hK.out _ _ ⟨(HK.out _ hB).1, (HK.out _ hB).2.1, (HK.out _ hB).2.2⟩ (fun hHeld => ?_)
            clear hK K
            refine norm_ (a' := ?_) ?_ ?_
            rotate_left
            · show Act.put _ (some 33) _ = _
              simp only [Act.put, List.setIfInBounds_toArray, List.set_cons_zero, List.set_cons_succ, i64_w, i32_w]
              rfl
            refine one_ (i := 15) (N := some 35) #[true, true, true, true, true, true, true, true, true, true, true, true, true, true, true, true, false, false, false] rfl rfl (by kernel_rfl) (by decide) (fun K hK => ?_)
            refine step_mk1 67 32 64 i0 z0 Try.underlying67 hi0 hz0 hz1 (by decide) (by decide) hsz64 _ rfl rfl rfl ?_
            intro b15 W15 hg15 hW15
            have hne2 : b15 ≠ g13 := by rw [hg15]; exact (Nat.ne_of_lt (World.ownsRow.lt hO g13 rfl).2).symm
            have hO : W15.ownsRow w3.heap.size 32 64 (.slice (some ⟨g13, 0, none⟩) (x.waits i).length cap13) (x.waits i).length (flat (x.waits i)) := by rw [hW15]; exact World.ownsRow.alloc hO _
            have hV : Blk W15 b15 32 (bytes b).toArray := by rw [hW15, hg15]; exact Blk.new _ _ _
            have hB : Below w3.heap.size w3 W15 := by rw [hW15]; exact bel_alloc hB _
            clear hg15 hW15
            refine hK.out _ _ ⟨(HK.out _ hB).1, (HK.out _ hB).2.1, (HK.out _ hB).2.2⟩ (fun hHeld => ?_)
            clear hK K
            refine norm_ (a' := ?_) ?_ ?_
            rotate_left
            · show Act.put _ (some 35) _ = _
              simp only [Act.put, List.setIfInBounds_toArray, List.set_cons_zero, List.set_cons_succ, i64_w, i32_w]
              rfl
            exact norm_ (by simp only [putAll, Act.put, List.setIfInBounds_toArray, List.set_cons_zero, List.set_cons_succ]) (hCont ⟨g5, g13, cap13, b15⟩ _ ⟨hB, hO, hV, hne2, hgb13⟩)
          · skip
            refine step_mk1 67 32 64 i0 z0 Try.underlying67 hi0 hz0 hz1 (by decide) (by decide) hsz64 _ rfl rfl rfl ?_
            intro b15 W15 hg15 hW15
            have hne : b15 ≠ g5 := by rw [hg15]; exact (Nat.ne_of_lt (World.ownsRow.lt hE g5 rfl).2).symm
            have hE : W15.ownsRow w3.heap.size 32 64 (.slice (some ⟨g5, 0, none⟩) 0 0) 0 [] := by rw [hW15]; exact World.ownsRow.alloc hE _
            have hV : Blk W15 b15 32 (bytes b).toArray := by rw [hW15, hg15]; exact Blk.new _ _ _
            have hB : Below w3.heap.size w3 W15 := by rw [hW15]; exact bel_alloc hB _
            clear hg15 hW15
            refine hK.out _ _ ⟨(HK.out _ hB).1, (HK.out _ hB).2.1, (HK.out _ hB).2.2⟩ (fun hHeld => ?_)
            clear hK K
            refine norm_ (a' := ?_) ?_ ?_
            rotate_left
            · show Act.put _ (some 35) _ = _
              simp only [Act.put, List.setIfInBounds_toArray, List.set_cons_zero, List.set_cons_succ, i64_w, i32_w]
              rfl
            refine one_ (i := 13) (N := some 33) #[true, true, true, true, true, true, true, true, true, true, true, true, true, true, true, true, false, false, false] rfl rfl (by kernel_rfl) (by decide) (fun K hK => ?_)
            refine step_append_some rfl (.tmp 25) (.tmp 32) 67 rfl w3.heap.size 32 i0 z0 64 64 Try.underlying67 hi0 hz0 hz1 hz2 hz3 (by decide) g5 0 0 [] rfl hE A (x.waits i).length c (flat (x.waits i)) rfl hfl hAn (HNw.out _ hB) hfo _ (Nat.zero_add _) h630 hby0 hB.size ?_
            intro g13 cap13 W13 hO hg13 hat13 hlt13
            have hO : W13.ownsRow w3.heap.size 32 64 (.slice (some ⟨g13, 0, none⟩) (x.waits i).length cap13) (x.waits i).length (flat (x.waits i)) := hO
            have hne2 : b15 ≠ g13 := by
              rcases hat13 with e | e
              · rw [← e]; exact hne
              · rw [e]; exact Nat.ne_of_lt hV.lt
            have hV : Blk W13 b15 32 (bytes b).toArray := hV.grown hg13 (fun e => hne (Option.some.inj e))
            have hgb13 : w3.heap.size ≤ g13 := by
              rcases hat13 with e | e
              · rw [← e]; exact hgb5
              · rw [e]; exact hB.size
            have hB : Below w3.heap.size w3 W13 := bel_grown hB hg13 hgb5
            clear hE hg13 hat13 hlt13
            refine hK.out _ _ ⟨(HK.out _ hB).1, (HK.out _ hB).2.1, (HK.out _ hB).2.2⟩ (fun hHeld => ?_)
            clear hK K
            refine norm_ (a' := ?_) ?_ ?_
            rotate_left
            · show Act.put _ (some 33) _ = _
              simp only [Act.put, List.setIfInBounds_toArray, List.set_cons_zero, List.set_cons_succ, i64_w, i32_w]
              rfl
            exact norm_ (by simp only [putAll, Act.put, List.setIfInBounds_toArray, List.set_cons_zero, List.set_cons_succ]) (hCont ⟨g5, g13, cap13, b15⟩ _ ⟨hB, hO, hV, hne2, hgb13⟩)
        · skip
          refine step_mk1 67 32 64 i0 z0 Try.underlying67 hi0 hz0 hz1 (by decide) (by decide) hsz64 _ rfl rfl rfl ?_
          intro b15 W15 hg15 hW15
          have hV : Blk W15 b15 32 (bytes b).toArray := by rw [hW15, hg15]; exact Blk.new _ _ _
          have hB : Below w3.heap.size w3 W15 := by rw [hW15]; exact bel_alloc hB _
          clear hg15 hW15
          refine hK.out _ _ ⟨(HK.out _ hB).1, (HK.out _ hB).2.1, (HK.out _ hB).2.2⟩ (fun hHeld => ?_)
          clear hK K
          refine norm_ (a' := ?_) ?_ ?_
          rotate_left
          · show Act.put _ (some 35) _ = _
            simp only [Act.put, List.setIfInBounds_toArray, List.set_cons_zero, List.set_cons_succ, i64_w, i32_w]
            rfl
          refine one_ (i := 5) (N := some 25) #[true, true, true, true, true, true, true, true, true, true, true, true, true, false, true, true, false, false, false] rfl rfl (by kernel_rfl) (by decide) (fun K hK => ?_)
          refine step_mk0 67 32 i0 z0 Try.underlying67 hi0 hz0 rfl rfl ?_
          intro g5 W5 hg5 hW5
          have hE : W5.ownsRow w3.heap.size 32 64 (.slice (some ⟨g5, 0, none⟩) 0 0) 0 [] := by rw [hW5, hg5]; exact owns_mk0 _ _ _ _ hB.size
          have hgb5 : w3.heap.size ≤ g5 := by rw [hg5]; exact hB.size
          have hne : b15 ≠ g5 := by rw [hg5]; exact Nat.ne_of_lt hV.lt
          have hV : Blk W5 b15 32 (bytes b).toArray := by rw [hW5]; exact hV.alloc _
          have hB : Below w3.heap.size w3 W5 := by rw [hW5]; exact bel_alloc hB _
          clear hg5 hW5
          refine hK.out _ _ ⟨(HK.out _ hB).1, (HK.out _ hB).2.1, (HK.out _ hB).2.2⟩ (fun hHeld => ?_)
          clear hK K
          refine norm_ (a' := ?_) ?_ ?_
          rotate_left
          · show Act.put _ (some 25) _ = _
            simp only [Act.put, List.setIfInBounds_toArray, List.set_cons_zero, List.set_cons_succ, i64_w, i32_w]
            rfl
          refine one_ (i := 13) (N := some 33) #[true, true, true, true, true, true, true, true, true, true, true, true, true, true, true, true, false, false, false] rfl rfl (by kernel_rfl) (by decide) (fun K hK => ?_)
          refine step_append_some rfl (.tmp 25) (.tmp 32) 67 rfl w3.heap.size 32 i0 z0 64 64 Try.underlying67 hi0 hz0 hz1 hz2 hz3 (by decide) g5 0 0 [] rfl hE A (x.waits i).length c (flat (x.waits i)) rfl hfl hAn (HNw.out _ hB) hfo _ (Nat.zero_add _) h630 hby0 hB.size ?_
          intro g13 cap13 W13 hO hg13 hat13 hlt13
          have hO : W13.ownsRow w3.heap.size 32 64 (.slice (some ⟨g13, 0, none⟩) (x.waits i).length cap13) (x.waits i).length (flat (x.waits i)) := hO
          have hne2 : b15 ≠ g13 := by
            rcases hat13 with e | e
            · rw [← e]; exact hne
            · rw [e]; exact Nat.ne_of_lt hV.lt
          have hV : Blk W13 b15 32 (bytes b).toArray := hV.grown hg13 (fun e => hne (Option.some.inj e))
          have hgb13 : w3.heap.size ≤ g13 := by
            rcases hat13 with e | e
            · rw [← e]; exact hgb5
            · rw [e]; exact hB.size
          have hB : Below w3.heap.size w3 W13 := bel_grown hB hg13 hgb5
          clear hE hg13 hat13 hlt13
          refine hK.out _ _ ⟨(HK.out _ hB).1, (HK.out _ hB).2.1, (HK.out _ hB).2.2⟩ (fun hHeld => ?_)
          clear hK K
          refine norm_ (a' := ?_) ?_ ?_
          rotate_left
          · show Act.put _ (some 33) _ = _
            simp only [Act.put, List.setIfInBounds_toArray, List.set_cons_zero, List.set_cons_succ, i64_w, i32_w]
            rfl
          exact norm_ (by simp only [putAll, Act.put, List.setIfInBounds_toArray, List.set_cons_zero, List.set_cons_succ]) (hCont ⟨g5, g13, cap13, b15⟩ _ ⟨hB, hO, hV, hne2, hgb13⟩)
      rintro ⟨g5, g13, cap13, b15⟩ W ⟨hB, hO, hV, hne2, hgb13⟩
      have hHeld := HK.out _ hB
      refine norm_ (a' := ?_) ?_ ?_
      rotate_left
      · simp only [putAll, Act.put, List.setIfInBounds_toArray, List.set_cons_zero, List.set_cons_succ]
        rfl
      refine one_ (i := 16) (N := some 36) #[true, true, true, true, true, true, true, true, true, true, true, true, true, true, true, true, true, false, false] rfl rfl (by kernel_rfl) (by decide) (fun K hK => ?_)
      refine step_append_some rfl (.tmp 33) (.tmp 35) 67 rfl w3.heap.size 32 i0 z0 64 64 Try.underlying67 hi0 hz0 hz1 hz2 hz3 (by decide) g13 cap13 (x.waits i).length (flat (x.waits i)) rfl hO (some ⟨b15, 0, none⟩) 1 1 (bytes b) rfl hl1 (fun h => by cases h) (fun ad had j u hu => by
        obtain rfl := Option.some.inj had
        rw [Addr.add_mid, Nat.zero_add, hV.cell j]
        simpa using hu) (bytes_one b) _ rfl h63 hby hB.size ?_
      intro g16 cap16 W16 hO16 hg16 hat16 hlt16
      have hgb16 : w3.heap.size ≤ g16 := by
        rcases hat16 with e | e
        · rw [← e]; exact hgb13
        · rw [e]; exact hB.size
      have hB : Below w3.heap.size w3 W16 := bel_grown hB hg16 hgb13
      clear hV hO hg16 hat16 hne2
      refine hK.out _ _ ⟨(HK.out _ hB).1, (HK.out _ hB).2.1, (HK.out _ hB).2.2⟩ (fun hHeld => ?_)
      clear hK K
      refine norm_ (a' := ?_) ?_ ?_
      rotate_left
      · show Act.put _ (some 36) _ = _
        simp only [Act.put, List.setIfInBounds_toArray, List.set_cons_zero, List.set_cons_succ, i64_w, i32_w]
        rfl
      refine pure_ (i := 17) (N := some 37) (v := ?_) (a' := ?_) #[true, true, true, true, true, true, true, true, true, true, true, true, true, true, true, true, true, true, false] rfl rfl (by kernel_rfl) (fun _ _ _ h => h) (Or.inl ⟨by rfl, ?_⟩) ?_ ?_
      rotate_left
      · intro w'
        go_simp
        with_reducible rfl
      rotate_left
      · simp only [Act.put, List.setIfInBounds_toArray, List.set_cons_zero, List.set_cons_succ, i64_w, i32_w]
        rfl
      refine last_ (i := 18) (N := none) #[true, true, true, true, true, true, true, true, true, true, true, true, true, true, true, true, true, true, true] rfl rfl (by kernel_rfl) (by decide) (fun K hK => ?_)
      have hcw := (HK.out _ hB).2.1
      have hfz := HFz.out _ hB
      refine skip_ (w1 := ?_) (by rfl) rfl ?_ ?_
      rotate_left
      · go_simp
        rfl
      refine hK.out _ _ ?_
      clear hK K
      refine done_ (by kernel_rfl) ?_


      obtain ⟨c3, f3, hD5, hT5⟩ := HD.out.write_step hi hb hB hO16
      have HF := Lib.hid (show Blk ((W16.setCell ⟨gw, i.toNat, none⟩ (.slice (some ⟨g16, 0, none⟩) ((x.waits i).length + 1) cap16)).setCell ⟨d, 3, none⟩ (.int .i64 (x.writes + 1))) g 65 (sS x s i).cells ∧ (∃ vs', RDk (grow F w ((W16.setCell ⟨gw, i.toNat, none⟩ (.slice (some ⟨g16, 0, none⟩) ((x.waits i).length + 1) cap16)).setCell ⟨d, 3, none⟩ (.int .i64 (x.writes + 1)))) ((W16.setCell ⟨gw, i.toNat, none⟩ (.slice (some ⟨g16, 0, none⟩) ((x.waits i).length + 1) cap16)).setCell ⟨d, 3, none⟩ (.int .i64 (x.writes + 1))) d g xr sv _ vs') ∧ Turn (fun j => F j ∨ j = g) w ((W16.setCell ⟨gw, i.toNat, none⟩ (.slice (some ⟨g16, 0, none⟩) ((x.waits i).length + 1) cap16)).setCell ⟨d, 3, none⟩ (.int .i64 (x.writes + 1))) from by
        rw [← HXr.out, ← HCr.out, HC2.out, if_pos HC.out]
        have hs5 := hT5.size
        exact ⟨HG3.out.turn hT5 hgF, ⟨_, hD5.mono (fun j hj => hj.imp id fun e => ⟨by omega, e.2⟩) fun j hj => by
          rcases hj with hj | hj
          · have := HlF.out j hj; omega
          · exact hj.2⟩, HT3.out.trans hT5 fun j _ e => .inl e⟩)
      have hdl16 : d < W16.heap.size := Nat.lt_of_lt_of_le hdl hB.size
      clear hD5 hT5 hB hO16 hHeld hcw hfz
      go_wp2_with fail
      go_ret
      exact ⟨by rw [← HCr.out, HC.out]; first | rfl | simp, HF.out⟩
    · have HF := Lib.hid (show Blk w3 g 65 (sS x s i).cells ∧ (∃ vs', RDk (grow F w w3) w3 d g xr sv wv vs') ∧ Turn (fun j => F j ∨ j = g) w w3 from by
        rw [← HXr.out, ← HCr.out, HC2.out, HC.out, if_neg hc]
        exact ⟨HG3.out, ⟨_, HD3.out.mono (fun j hj => .inl hj) fun j hj => by
          rcases hj with hj | hj
          · have := HlF.out j hj; omega
          · exact hj.2⟩, HT3.out⟩)
      have hcn : (code == 0) = false := by simpa using hc
      clear hD3 hV3
      go_wp2
      go_ret
      exact ⟨by rw [← HCr.out, HC.out]; first | rfl | simp, HF.out⟩
  · rw [decide_eq_false hi] at HIs
    obtain ⟨hc1, hc2⟩ := cS_not (s := s) hi
    have HF := Lib.hid (show Blk w1 g 65 (sS x s i).cells ∧ (∃ vs', RDk (grow F w w1) w1 d g xr sv wv vs') ∧ Turn (fun j => F j ∨ j = g) w w1 from by
        rw [← HXr.out, ← HCr.out, hc2, hc1, if_neg (by decide)]
        exact ⟨HG1.out, ⟨_, HD1.out.mono (fun j hj => .inl hj) fun j hj => by
          rcases hj with hj | hj
          · have := HlF.out j hj; omega
          · exact hj.2⟩, Turn.of_below HB1.out⟩)
    have HC := Lib.hid hc1
    clear hc1 hc2
    go_wp2_with fail
    refine HIs.out.mono ?_
    rintro e w2 ⟨rfl, rfl⟩
    go_wp2
    go_ret
    exact ⟨by rw [← HCr.out, HC.out]; first | rfl | simp, HF.out⟩
end Go.Proofs.Ytnbppfhnagacfaa
namespace Go.Proofs.Ytnbppfhnagacfaa
open Go.RowKit
set_option linter.unusedVariables false
attribute [local go_sem ↓] Go.wp_at_zero Go.wp_at_succ

theorem info67 : (Try.prog.info? 67).map (fun i => (i.zero, i.size, i.bytes)) = some (some (.slice none 0 0), 1, 24) := by kernel_rfl
def nils (n : Nat) : List Value := List.replicate n (.slice none 0 0)
set_option maxRecDepth 100000 in
theorem make_both : ∃ Z Z2 : Array Value, (∀ W : World, (Instr.makeSlice 67 (.int .i64 6) (.int .i64 6)).run Try.prog W = .ok (.slice (some ⟨W.heap.size, 0, none⟩) 6 6) (W.alloc (.cells Z 32))) ∧ Z = (List.replicate (6 * 64) (Value.int .u8 0)).toArray ∧
    (∀ W : World, (Instr.makeSlice 87 (.int .i64 6) (.int .i64 6)).run Try.prog W = .ok (.slice (some ⟨W.heap.size, 0, none⟩) 6 6) (W.alloc (.cells Z2 67))) ∧ Z2 = (nils 6).toArray := by
  obtain ⟨i, hi, hz, hs, hy⟩ := zero_info
  obtain ⟨j, hj, jz, js, jy⟩ := info_parts info67
  refine ⟨_, _, fun W => ?_, rfl, fun W => ?_, rfl⟩
  · have h := run_make W 67 32 i (blkV zeroB) Try.underlying67 hi hz .i64 .i64 6 6 (by decide) (by decide) (by rw [hy]; decide) (by decide)
    rw [hs, made_zero] at h
    exact h
  · have h := run_make W 87 67 j (.slice none 0 0) Try.underlying87 hj jz .i64 .i64 6 6 (by decide) (by decide) (by rw [jy]; decide) (by decide)
    rw [js] at h
    have e : madeCells (Value.slice none 0 0).cells (Int.toNat 6 * 1) = (nils 6).toArray := by kernel_rfl
    rw [e] at h
    exact h
theorem rows_zero {W : World} {gs n : Nat} (hn : n ≤ 2048) (hs : Blk W gs 32 (List.replicate (n * 64) (Value.int .u8 0)).toArray) : Rows W (.slice (some ⟨gs, 0, none⟩) n n) (List.replicate n zeroB) := by
  refine ⟨⟨by rw [flat_len fun b hb => by rw [List.eq_of_mem_replicate hb]; rfl], .inr ⟨gs, n, _, by rw [List.length_replicate], Nat.zero_le _, hs, by rw [List.length_replicate]; exact Nat.le_refl _, by unfold maxLen; omega, by simp, ?_⟩⟩, fun b hb => by rw [List.eq_of_mem_replicate hb]; rfl⟩
  rw [flat_zero, List.length_replicate]
  simp
theorem RDk.fresh {F : Nat → Prop} {W : World} {d g gs gw : Nat} (hb : Blk W d 89 #[.pointer (some ⟨g, 0, none⟩), .slice (some ⟨gs, 0, none⟩) 6 6, .slice (some ⟨gw, 0, none⟩) 6 6, .int .i64 0]) (hs : Blk W gs 32 (List.replicate (6 * 64) (Value.int .u8 0)).toArray) (hw : Blk W gw 67 (nils 6).toArray)
    (fd : F d) (fs : F gs) (fw : F gw) (lt : ∀ j, F j → j < W.heap.size) : RDk F W d g (freshD 6) (.slice (some ⟨gs, 0, none⟩) 6 6) (.slice (some ⟨gw, 0, none⟩) 6 6) (nils 6) :=
  have hnil : ∀ (k : Nat) v, (nils 6)[k]? = some v → v = .slice none 0 0 := fun k v hv => List.eq_of_mem_replicate (List.mem_of_getElem? hv)
  { blk := hb
    st := rows_zero (by decide) hs
    n1 := by show 1 ≤ 6; decide
    n2 := by show 6 ≤ 2048; decide
    wr := ⟨rfl, .inr ⟨gw, 6, _, rfl, Nat.zero_le _, hw, Nat.le_refl _, by decide, rfl, rfl⟩⟩
    wt := fun k v hv => by rw [hnil k v hv]; exact Rows.nil _
    cnt := ⟨Int.le_refl _, fun k => Int.le_refl _⟩
    fd := fd
    fs := fun j hj => by obtain rfl := Option.some.inj hj; exact fs
    fv := fun j hj => by obtain rfl := Option.some.inj hj; exact fw
    fw := fun k v hv j hj => by rw [hnil k v hv] at hj; cases hj
    as_ := fun k v hv j hj => by rw [hnil k v hv] at hj; cases hj
    lt := lt }
theorem three_new (w : World) (A : Array Value) (t : TypeId) (B : Array Value) (u : TypeId) (C : Array Value) (r : TypeId) : Below w.heap.size w (((w.alloc (.cells A t)).alloc (.cells B u)).alloc (.cells C r)) ∧ Blk (((w.alloc (.cells A t)).alloc (.cells B u)).alloc (.cells C r)) (w.heap.size + 1 + 1) r C ∧ Blk (((w.alloc (.cells A t)).alloc (.cells B u)).alloc (.cells C r)) w.heap.size t A ∧ Blk (((w.alloc (.cells A t)).alloc (.cells B u)).alloc (.cells C r)) (w.heap.size + 1) u B ∧ (((w.alloc (.cells A t)).alloc (.cells B u)).alloc (.cells C r)).heap.size = w.heap.size + 1 + 1 + 1 := by
  have s1 : (w.alloc (.cells A t)).heap.size = w.heap.size + 1 := by simp
  have s2 : ((w.alloc (.cells A t)).alloc (.cells B u)).heap.size = w.heap.size + 1 + 1 := by simp
  have h3 := Blk.new ((w.alloc (.cells A t)).alloc (.cells B u)) r C
  have h2 := (Blk.new (w.alloc (.cells A t)) u B).alloc (.cells C r)
  rw [s2] at h3
  rw [s1] at h2
  exact ⟨bel_alloc (bel_alloc (bel_alloc (Below.refl _ _) _) _) _, h3, ((Blk.new w t A).alloc _).alloc _, h2, by simp⟩
set_option maxRecDepth 100000 in
set_option maxHeartbeats 4000000 in
theorem rdnew_any (g : Nat) (w : World) (hg : g < w.heap.size) :
    Calls Try.prog 24 #[.int .i64 6, .pointer (some ⟨g, 0, none⟩)] w fun e w' => ∃ d sv wv vs, e = .returned (.tuple #[.pointer (some ⟨d, 0, none⟩), .int .i64 0]) ∧ RDk (grow (fun _ => False) w w') w' d g (freshD 6) sv wv vs ∧ Below w.heap.size w w' := by
  obtain ⟨Z, Z2, hm1, hZ, hm2, hZ2⟩ := make_both
  have HZ := Lib.hid hZ
  have HZ2 := Lib.hid hZ2
  clear hZ hZ2
  have HF : Hid (∀ (W : World) (gs gw : Nat), W.heap.size = w.heap.size + 1 + 1 + 1 → Below w.heap.size w W → w.heap.size ≤ gs → gs < W.heap.size → w.heap.size ≤ gw → gw < W.heap.size → Blk W (w.heap.size + 1 + 1) 89 #[.pointer (some ⟨g, 0, none⟩), .slice (some ⟨gs, 0, none⟩) 6 6, .slice (some ⟨gw, 0, none⟩) 6 6, .int .i64 0] →
      Blk W gs 32 Z → Blk W gw 67 Z2 → ∃ sv wv vs, RDk (grow (fun _ => False) w W) W (w.heap.size + 1 + 1) g (freshD 6) sv wv vs ∧ Below w.heap.size w W) := Lib.hid fun W gs gw h1 h2 h3 h4 h5 h6 h7 h8 h9 =>
    ⟨_, _, _, RDk.fresh h7 (by rw [← HZ.out]; exact h8) (by rw [← HZ2.out]; exact h9) (.inr ⟨by omega, by omega⟩) (.inr ⟨h3, h4⟩) (.inr ⟨h5, h6⟩) (fun j hj => hj.elim (fun e => e.elim) fun e => e.2), h2⟩
  go_enter Try.func24, Try.ntmps24
  go_upto_region 5 with (fail)
  go_region
  all_goals
    have HW := Lib.hid (show ∀ v, (Below w.heap.size w (((w.alloc (.cells Z 32)).alloc (.cells Z2 67)).alloc (.cells v 89)) ∧ Blk (((w.alloc (.cells Z 32)).alloc (.cells Z2 67)).alloc (.cells v 89)) (w.heap.size + 1 + 1) 89 v ∧ Blk (((w.alloc (.cells Z 32)).alloc (.cells Z2 67)).alloc (.cells v 89)) w.heap.size 32 Z ∧ Blk (((w.alloc (.cells Z 32)).alloc (.cells Z2 67)).alloc (.cells v 89)) (w.heap.size + 1) 67 Z2 ∧ (((w.alloc (.cells Z 32)).alloc (.cells Z2 67)).alloc (.cells v 89)).heap.size = w.heap.size + 1 + 1 + 1) ∧
        (Below w.heap.size w (((w.alloc (.cells Z2 67)).alloc (.cells Z 32)).alloc (.cells v 89)) ∧ Blk (((w.alloc (.cells Z2 67)).alloc (.cells Z 32)).alloc (.cells v 89)) (w.heap.size + 1 + 1) 89 v ∧ Blk (((w.alloc (.cells Z2 67)).alloc (.cells Z 32)).alloc (.cells v 89)) (w.heap.size + 1) 32 Z ∧ Blk (((w.alloc (.cells Z2 67)).alloc (.cells Z 32)).alloc (.cells v 89)) w.heap.size 67 Z2 ∧ (((w.alloc (.cells Z2 67)).alloc (.cells Z 32)).alloc (.cells v 89)).heap.size = w.heap.size + 1 + 1 + 1) from fun v => ⟨three_new w Z 32 Z2 67 v 89, three_new w Z2 67 Z 32 v 89 |>.imp_right fun h => ⟨h.1, h.2.2.1, h.2.1, h.2.2.2⟩⟩)
    go_wp2
    go_ret2
    first
      | (obtain ⟨h1, h2, h3, h4, h5⟩ := (HW.out _).1
         obtain ⟨sv, wv, vs, k1, k2⟩ := HF.out _ w.heap.size (w.heap.size + 1) h5 h1 (Nat.le_refl _) (by omega) (by omega) (by omega) h2 h3 h4
         exact ⟨_, sv, wv, vs, rfl, k1.turn (S := fun _ => False) (Turn.of_below ((Below.refl _ _).drew)) fun _ _ => id, k2.drew⟩)
      | (obtain ⟨h1, h2, h3, h4, h5⟩ := (HW.out _).2
         obtain ⟨sv, wv, vs, k1, k2⟩ := HF.out _ (w.heap.size + 1) w.heap.size h5 h1 (by omega) (by omega) (Nat.le_refl _) (by omega) h2 h3 h4
         exact ⟨_, sv, wv, vs, rfl, k1.turn (S := fun _ => False) (Turn.of_below ((Below.refl _ _).drew)) fun _ _ => id, k2.drew⟩)
end Go.Proofs.Ytnbppfhnagacfaa
namespace Go.Proofs.Ytnbppfhnagacfaa
open Go.RowKit
set_option linter.unusedVariables false
attribute [local go_sem ↓] Go.wp_at_zero Go.wp_at_succ

/-- A sector that is held, as the reference lays it: 67 cells. -/
def oneC (i : Int) (h : Hd) : List Value := .int .i64 i :: (bytes h.b ++ [.bool h.ch, .int .i64 h.pins])
theorem oneC_len (i : Int) (h : Hd) (hb : h.b.length = 64) : (oneC i h).length = 67 := by simp [oneC, bytes_len, hb]
theorem oneC_one (i : Int) (h : Hd) : ∀ v ∈ oneC i h, v.oneCell' = true := by
  intro v hv
  unfold oneC at hv
  rcases List.mem_cons.1 hv with rfl | hv
  · rfl
  · rcases List.mem_append.1 hv with hv | hv
    · exact bytes_one _ v hv
    · simp at hv; rcases hv with rfl | rfl <;> rfl
def hd0 : Hd := ⟨zeroB, false, 0⟩
def oneA (a : CA) (i : Int) : List Value := oneC i ((a.m i).getD hd0)
def ones (a : CA) : List (List Value) := a.os.map (oneA a)

/-- A row of such. -/
def GRow (w : World) (v : Value) (L : List (List Value)) : Prop := w.ownsRow 0 91 67 v L.length L.flatten ∧ ∀ c ∈ L, c.length = 67
theorem fl_len : ∀ {L : List (List Value)}, (∀ c ∈ L, c.length = 67) → L.flatten.length = L.length * 67
  | [], _ => rfl
  | c :: L, h => by
    rw [List.flatten_cons, List.length_append, h c (by simp), fl_len fun q hq => h q (List.mem_cons_of_mem _ hq), List.length_cons]
    omega
theorem fl_at : ∀ {L : List (List Value)}, (∀ c ∈ L, c.length = 67) → ∀ (k : Nat) (c : List Value), L[k]? = some c → ∀ (j : Nat) (v : Value), c[j]? = some v → L.flatten[k * 67 + j]? = some v := by
  intro L
  induction L with
  | nil => intro _ k c h; cases h
  | cons a L ih =>
    intro hl k c h j v hv
    have ha : a.length = 67 := hl a (by simp)
    rw [List.flatten_cons]
    cases k with
    | zero =>
      obtain rfl : a = c := by simpa using h
      have hj : j < a.length := (List.getElem?_eq_some_iff.1 hv).1
      rw [List.getElem?_append_left (by omega), Nat.zero_mul, Nat.zero_add]
      exact hv
    | succ k =>
      rw [List.getElem?_append_right (by omega), ha, show (k + 1) * 67 + j - 67 = k * 67 + j by omega]
      exact ih (fun q hq => hl q (List.mem_cons_of_mem _ hq)) k c (by simpa using h) j v hv
theorem GRow.turn {S : Nat → Prop} {w w' : World} {v : Value} {L : List (List Value)} (h : GRow w v L) (hT : Turn S w w') (hS : ∀ j, v.ownBlock = some j → ¬ S j) : GRow w' v L := ⟨owns_turn h.1 hT hS, h.2⟩
theorem GRow.shape {w : World} {v : Value} {L : List (List Value)} (h : GRow w v L) : ∃ A c, v = .slice A L.length c ∧ L.length ≤ c ∧ c ≤ maxLen := by
  rcases h.1.2 with ⟨hv, h0⟩ | ⟨g, cap, cur, hv, hb, hg, hnc, hcm, hcs, ht⟩
  · rw [h0]; exact ⟨_, _, hv, Nat.le_refl _, Nat.zero_le _⟩
  · exact ⟨_, _, hv, hnc, hcm⟩
theorem GRow.form {w : World} {v : Value} {L : List (List Value)} (h : GRow w v L) (hl : 0 < L.length) : ∃ g c, v = .slice (some ⟨g, 0, none⟩) L.length c ∧ L.length ≤ c ∧ c ≤ maxLen ∧ g < w.heap.size := owns_form h.1 hl
theorem GRow.cell {w : World} {g c : Nat} {L : List (List Value)} (h : GRow w (.slice (some ⟨g, 0, none⟩) L.length c) L) {k : Nat} {q : List Value} (hk : L[k]? = some q) {j : Nat} {v : Value} (hj : q[j]? = some v) : w.cell? ⟨g, k * 67 + j, none⟩ = some v := by
  have hkl := (List.getElem?_eq_some_iff.1 hk).1
  have hjl := (List.getElem?_eq_some_iff.1 hj).1
  rw [h.2 q (List.mem_of_getElem? hk)] at hjl
  rw [World.ownsRow.cellAt h.1 (k * 67 + j) (by omega)]
  exact fl_at h.2 k q hk j v hj
theorem GRow.range {w : World} {g c : Nat} {L : List (List Value)} (h : GRow w (.slice (some ⟨g, 0, none⟩) L.length c) L) {k : Nat} {q : List Value} (hk : L[k]? = some q) : w.rangeAt g (k * 67) q := fun j v hj => h.cell hk hj
theorem GRow.lt {w : World} {v : Value} {L : List (List Value)} (h : GRow w v L) : ∀ j, v.ownBlock = some j → j < w.heap.size := fun j hj => (World.ownsRow.lt h.1 j hj).2
theorem GRow.type {w : World} {v : Value} {L : List (List Value)} (h : GRow w v L) : ∀ j, v.ownBlock = some j → ∃ cs, Blk w j 91 cs := owns_type h.1
/-- One cell of one element is written. -/
theorem fl_set : ∀ {L : List (List Value)}, (∀ c ∈ L, c.length = 67) → ∀ (k : Nat) (q : List Value), L[k]? = some q → ∀ (j : Nat) (u : Value), j < 67 → L.flatten.set (k * 67 + j) u = (L.set k (q.set j u)).flatten := by
  intro L
  induction L with
  | nil => intro _ k q h; cases h
  | cons a L ih =>
    intro hl k q h j u hj
    have ha : a.length = 67 := hl a (by simp)
    cases k with
    | zero =>
      obtain rfl : a = q := by simpa using h
      rw [List.set_cons_zero, List.flatten_cons, List.flatten_cons, Nat.zero_mul, Nat.zero_add, List.set_append_left _ _ (by omega)]
    | succ k =>
      rw [List.set_cons_succ, List.flatten_cons, List.flatten_cons, List.set_append_right _ _ (by omega), ha, show (k + 1) * 67 + j - 67 = k * 67 + j by omega,
        ih (fun q hq => hl q (List.mem_cons_of_mem _ hq)) k q (by simpa using h) j u hj]
theorem GRow.set {w : World} {g c : Nat} {L : List (List Value)} (h : GRow w (.slice (some ⟨g, 0, none⟩) L.length c) L) {k : Nat} {q : List Value} (hk : L[k]? = some q) {j : Nat} (hj : j < 67) (u : Value) : GRow (w.setCell ⟨g, k * 67 + j, none⟩ u) (.slice (some ⟨g, 0, none⟩) L.length c) (L.set k (q.set j u)) := by
  have hq := h.2 q (List.mem_of_getElem? hk)
  refine ⟨?_, fun x hx => ?_⟩
  · have := (World.ownsRow.stored h.1 (k * 67 + j) u).1
    rw [fl_set h.2 k q hk j u hj] at this
    rwa [List.length_set]
  · rcases List.mem_or_eq_of_mem_set hx with hx | rfl
    · exact h.2 x hx
    · rw [List.length_set]; exact hq
def setL (q : List Value) : Nat → List Value → List Value
  | _, [] => q
  | o, v :: vs => setL (q.set o v) (o + 1) vs
theorem setL_len : ∀ (vs : List Value) (q : List Value) (o : Nat), (setL q o vs).length = q.length
  | [], q, o => rfl
  | v :: vs, q, o => by rw [setL, setL_len vs, List.length_set]
theorem GRow.setN {g c : Nat} : ∀ (vs : List Value) (j : Nat) {w : World} {L : List (List Value)} {k : Nat} {q : List Value}, GRow w (.slice (some ⟨g, 0, none⟩) L.length c) L → L[k]? = some q → j + vs.length ≤ 67 →
    GRow (w.setCells g (k * 67 + j) vs) (.slice (some ⟨g, 0, none⟩) L.length c) (L.set k (setL q j vs))
  | [], j, w, L, k, q, h, hk, hj => by
    have e : L.set k q = L := by
      have hkl := (List.getElem?_eq_some_iff.1 hk).1
      have : L[k] = q := by rw [List.getElem?_eq_getElem hkl] at hk; exact Option.some.inj hk
      rw [← this, List.set_getElem_self]
    show GRow w _ (L.set k q)
    rw [e]; exact h
  | v :: vs, j, w, L, k, q, h, hk, hj => by
    have hkl := (List.getElem?_eq_some_iff.1 hk).1
    have h1 := h.set hk (j := j) (by simp at hj; omega) v
    have h1' : GRow (w.setCell ⟨g, k * 67 + j, none⟩ v) (.slice (some ⟨g, 0, none⟩) (L.set k (q.set j v)).length c) (L.set k (q.set j v)) := by rw [List.length_set]; exact h1
    have h2 := GRow.setN vs (j + 1) (k := k) (q := q.set j v) h1' (by rw [List.getElem?_set_self hkl]) (by simp at hj; omega)
    rw [List.length_set, List.set_set] at h2
    exact h2
theorem GRow.there {w : World} {g c : Nat} {L : List (List Value)} (h : GRow w (.slice (some ⟨g, 0, none⟩) L.length c) L) {k : Nat} (hk : k < L.length) {o n : Nat} (ho : o + n ≤ 67) : w.there g (k * 67 + o) n := fun j hj => by
  have hl := fl_len h.2
  refine ⟨?_, World.ownsRow.frozenAt h.1 _⟩
  rw [World.ownsRow.cellAt h.1 (k * 67 + o + j) (by omega), List.getElem?_eq_getElem (by omega)]
  rfl

structure RMem (F : Nat → Prop) (w : World) (c d g : Nat) (a : CA) (s : Sup) (Fc Fd : Nat → Prop) (lv sv wv : Value) (vs : List Value) : Prop where
  blk : Blk w c 61 #[.pointer (some ⟨d, 0, none⟩), .int .i64 a.size, lv, .int .i64 a.hits, .int .i64 a.misses]
  row : GRow w lv (ones a)
  dk : RDk Fd w d g a.x sv wv vs
  sup : Blk w g 65 s.cells
  as_ : a.s = some s
  ok : s.ok
  link : Link a.os a.m
  hl : ∀ k h, a.m k = some h → h.b.length = 64 ∧ 0 ≤ h.pins ∧ h.pins ≤ 1000000
  num : 0 ≤ a.hits ∧ a.hits ≤ 1000000 ∧ 0 ≤ a.misses ∧ a.misses ≤ 1000000 ∧ a.os.length ≤ 1000
  fc : Fc c
  fl : ∀ j, lv.ownBlock = some j → Fc j
  ap : ∀ j, Fc j → ¬ Fd j
  gc : ¬ Fc g
  gd : ¬ Fd g
  cl : ∀ j, Fc j → j < w.heap.size
  sub : ∀ j, Fc j ∨ Fd j → F j
  flt : ∀ j, F j → j < w.heap.size
  gF : ¬ F g
def RSt (F : Nat → Prop) (w : World) (c d g : Nat) (a : CA) : Prop := ∃ s Fc Fd lv sv wv vs, RMem F w c d g a s Fc Fd lv sv wv vs
theorem RMem.turn {F S : Nat → Prop} {w w' : World} {c d g : Nat} {a : CA} {s : Sup} {Fc Fd : Nat → Prop} {lv sv wv : Value} {vs : List Value} (M : RMem F w c d g a s Fc Fd lv sv wv vs) (hT : Turn S w w') (hS : ∀ j, F j → ¬ S j) (hg : ¬ S g) : RMem F w' c d g a s Fc Fd lv sv wv vs :=
  { M with
    blk := M.blk.turn hT (hS _ (M.sub _ (.inl M.fc)))
    row := M.row.turn hT fun j hj => hS _ (M.sub _ (.inl (M.fl j hj)))
    dk := M.dk.turn hT fun j hj => hS _ (M.sub _ (.inr hj))
    sup := M.sup.turn hT hg
    cl := fun j hj => Nat.lt_of_lt_of_le (M.cl j hj) hT.size
    flt := fun j hj => Nat.lt_of_lt_of_le (M.flt j hj) hT.size }
theorem RSt.turn {F S : Nat → Prop} {w w' : World} {c d g : Nat} {a : CA} (h : RSt F w c d g a) (hT : Turn S w w') (hS : ∀ j, F j → ¬ S j) (hg : ¬ S g) : RSt F w' c d g a := by
  obtain ⟨s, Fc, Fd, lv, sv, wv, vs, M⟩ := h
  exact ⟨s, Fc, Fd, lv, sv, wv, vs, M.turn hT hS hg⟩
theorem RSt.mono {F F' : Nat → Prop} {w : World} {c d g : Nat} {a : CA} (h : RSt F w c d g a) (hF : ∀ j, F j → F' j) (hl : ∀ j, F' j → j < w.heap.size) (hg : ¬ F' g) : RSt F' w c d g a := by
  obtain ⟨s, Fc, Fd, lv, sv, wv, vs, M⟩ := h
  exact ⟨s, Fc, Fd, lv, sv, wv, vs, { M with sub := fun j hj => hF j (M.sub j hj), flt := hl, gF := hg }⟩
theorem RSt.lt {F : Nat → Prop} {w : World} {c d g : Nat} {a : CA} (h : RSt F w c d g a) : (∀ j, F j → j < w.heap.size) ∧ ¬ F g ∧ g < w.heap.size ∧ F c := by
  obtain ⟨s, Fc, Fd, lv, sv, wv, vs, M⟩ := h
  exact ⟨M.flt, M.gF, M.sup.lt, M.sub _ (.inl M.fc)⟩
theorem ones_len (a : CA) : (ones a).length = a.os.length := by simp [ones]
theorem ones_at {a : CA} {k : Nat} {i : Int} (h : a.os[k]? = some i) : (ones a)[k]? = some (oneA a i) := by unfold ones; rw [List.getElem?_map, h]; rfl
theorem oneA_some {a : CA} {i : Int} {h : Hd} (e : a.m i = some h) : oneA a i = oneC i h := by unfold oneA; rw [e]; rfl
end Go.Proofs.Ytnbppfhnagacfaa
