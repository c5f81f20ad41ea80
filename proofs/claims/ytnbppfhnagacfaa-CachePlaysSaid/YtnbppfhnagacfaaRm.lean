/- package cache: room, the walk. -/
import Derived.Test.YtnbppfhnagacfaaRoom
namespace Go.Proofs.Ytnbppfhnagacfaa
open Go.RowKit
set_option linter.unusedVariables false
attribute [local go_sem ↓] Go.wp_at_zero Go.wp_at_succ

theorem CacheIs.reorder {F : Nat → Prop} {w w' : World} {c d ml : Nat} {ov ov' : Value} {hp : Int → Nat} {size : Int} {os os' : List Int} {m : Int → Option Hd} {cnt : Nat} {hits misses : Int} (h : CacheIs F w c d ml ov hp size os m cnt hits misses)
    (hT : Turn (fun j => j = c ∨ ov.ownBlock = some j) w w') (hb : Blk w' c 73 #[.pointer (some ⟨d, 0, none⟩), .int .i64 size, .map (some ml), ov', .int .i64 hits, .int .i64 misses]) (ho : IRow w' ov' os') (hown : ∀ j, ov'.ownBlock = some j → ov.ownBlock = some j) :
    CacheIs F w' c d ml ov' hp size os' m cnt hits misses :=
  have hg := h.grown hT hb ho fun j hj => .inl (hown j hj)
  { blk := hb
    ord := ho
    map := hg.map
    held := fun k x hk => by
      obtain ⟨h1, h2, h3, h4, h5⟩ := hg.held k x hk
      exact ⟨h1, h2, h3, (h.held k x hk).2.2.2.1, h5⟩
    inj := h.inj
    num := h.num
    fc := h.fc
    fm := h.fm
    fo := fun j hj => h.fo j (hown j hj)
    lt := fun j hj => Nat.lt_of_lt_of_le (h.lt j hj) hT.size }

theorem erase_at {l : List Int} {k : Nat} {i : Int} (hn : l.Nodup) (hk : l[k]? = some i) : l.eraseIdx k = l.erase i := by
  have hlt : k < l.length := (List.getElem?_eq_some_iff.1 hk).1
  have h1 : l[k] = i := by rw [List.getElem?_eq_getElem hlt] at hk; exact Option.some.inj hk
  have e : l = l.take k ++ (i :: l.drop (k + 1)) := by rw [← h1, List.getElem_cons_drop, List.take_append_drop]
  have hni : i ∉ l.take k := fun hm => by
    rw [e] at hn
    exact (List.nodup_append.1 hn).2.2 i hm i (by simp) rfl
  rw [List.eraseIdx_eq_take_drop_succ]
  conv => rhs; rw [e]
  rw [List.erase_append_right _ hni, List.erase_cons_head]
theorem delm_updm (m : Int → Option Hd) (i : Int) (h : Hd) : delm (updm m i h) i = delm m i := by
  funext k
  unfold delm
  by_cases e : k = i
  · simp [e]
  · simp [e, updm_other _ _ e]
theorem IRow.sl' {w : World} {v : Value} {l : List Int} (h : IRow w v l) : ∃ A cp, v = .slice A l.length cp := by
  rcases h.shape with ⟨e, e2⟩ | ⟨g, c', cur, e, -⟩
  · subst e2; exact ⟨_, _, e⟩
  · exact ⟨_, _, e⟩
set_option maxRecDepth 100000 in
set_option maxHeartbeats 8000000 in
theorem room_any {Fc Fd : Nat → Prop} {c d ml : Nat} {ov : Value} {hp : Int → Nat} {size : Int} {os : List Int} {m : Int → Option Hd} {hits misses : Int} {sp : Option Nat} {x : Dk} {s : Option Sup} (w : World)
    (h : CacheIs Fc w c d ml ov hp size os m os.length hits misses) (hL : Link os m) (hD : Disk Fd w d sp x) (hO : Own Fc Fd w sp s) (hw : x.writes ≤ 1000000) (hol : os.length ≤ 1000) :
    Calls Try.prog 54 #[.pointer (some ⟨c, 0, none⟩)] w fun e w' => e = .returned (.int .i64 (roomR size os m x s).code) ∧
      (∃ ov', CacheIs Fc w' c d ml ov' hp size (roomR size os m x s).os (roomR size os m x s).m (roomR size os m x s).os.length hits misses) ∧ Disk (grow Fd w w') w' d sp (roomR size os m x s).x ∧
      SupIs w' sp (roomR size os m x s).s ∧ Turn (fun j => Fc j ∨ Fd j ∨ sp = some j) w w' := by
  obtain ⟨A, cp, rfl⟩ := h.ord.sl'
  have c1 := h.blk.cell 1
  have c2 := h.blk.cell 2
  have c3 := h.blk.cell 3
  simp at c1 c2 c3
  have hlen := fun ty => (h.map.turn (Turn.of_below (S := fun _ => False) ((Below.refl w.heap.size w).drew)) id).len Try.underlying71 ty
  have hS0 : w.drew.cell? ⟨c, 1, none⟩ = some (.int .i64 size) ∧ w.drew.cell? ⟨c, 2, none⟩ = some (.map (some ml)) ∧ ∀ ty, (Builtin.len_ #[71] ty #[.map (some ml)]).run Try.prog w.drew = .ok (.int .i64 os.length) w.drew := ⟨c1, c2, hlen⟩
  have HC := Lib.hid h
  have HL := Lib.hid hL
  have HD := Lib.hid hD
  have HO := Lib.hid hO
  clear h hL hD hO hlen
  by_cases hsz : (os.length : Int) < size
  · have HF := Lib.hid (show CacheIs Fc w.drew c d ml (.slice A os.length cp) hp size (roomR size os m x s).os (roomR size os m x s).m (roomR size os m x s).os.length hits misses ∧ Disk (grow Fd w w.drew) w.drew d sp (roomR size os m x s).x ∧ SupIs w.drew sp (roomR size os m x s).s ∧ Turn (fun j => Fc j ∨ Fd j ∨ sp = some j) w w.drew ∧ (roomR size os m x s).code = 0 from by
      unfold roomR
      rw [if_pos hsz]
      have hT : Turn (fun _ => False) w w.drew := Turn.of_below ((Below.refl w.heap.size w).drew)
      exact ⟨HC.out.turn hT fun _ _ => id, (HD.out.turn hT fun _ _ => id).mono (fun j hj => .inl hj) (fun j hj => by
        rcases hj with hj | hj
        · exact HD.out.lt j hj
        · exact hj.2), HO.out.sup.turn hT fun _ _ => id, hT.mono fun j _ e => e.elim, rfl⟩)
    have hd1 : decide ((os.length : Int) < size) = true := decide_eq_true hsz
    generalize roomR size os m x s = R at *
    obtain ⟨k1, k2, k3, k4, k5⟩ := HF.out
    have HF' := Lib.hid (show _ from (⟨k1, k2, k3, k4⟩ : _ ∧ _ ∧ _ ∧ _))
    clear k1 k2 k3 k4 HF HC HL HD HO
    go_enter Try.func54, Try.ntmps54
    go_upto_region 1 with (fail)
    go_region_held3 (fun W => W.cell? ⟨c, 1, none⟩ = some (.int .i64 size) ∧ W.cell? ⟨c, 2, none⟩ = some (.map (some ml)) ∧ ∀ ty, (Builtin.len_ #[71] ty #[.map (some ml)]).run Try.prog W = .ok (.int .i64 os.length) W)
      (exact hS0) (fail)
    go_wp2
    go_ret
    exact ⟨by first | rfl | (rw [k5]; rfl), ⟨_, HF'.out.1⟩, HF'.out.2⟩
  · have hd1 : decide ((os.length : Int) < size) = false := decide_eq_false hsz
    have hR : roomR size os m x s = roomV os m x s := by unfold roomR; rw [if_neg hsz]
    rw [hR]
    have hT0 : Turn (fun _ => False) w w.drew := Turn.of_below ((Below.refl w.heap.size w).drew)
    have HC1 := Lib.hid (HC.out.turn hT0 fun _ _ => id)
    have HD1 := Lib.hid (HD.out.turn hT0 fun _ _ => id)
    have HO1 := Lib.hid (show Own Fc Fd w.drew sp s from ⟨HO.out.sup.turn hT0 fun _ _ => id, HO.out.ok, HO.out.ap, HO.out.spc, HO.out.spd, HO.out.splt⟩)
    have HTw := Lib.hid (show ∀ W, Turn (fun j => Fc j ∨ Fd j ∨ sp = some j) w.drew W → Turn (fun j => Fc j ∨ Fd j ∨ sp = some j) w W from fun W h => ⟨h.os, h.tape, h.output, h.size, h.block⟩)
    have hwsz : w.drew.heap.size = w.heap.size := rfl
    have ew : IntKind.i64.wrap ((os.length : Int) - 1) = (os.length : Int) - 1 := IntWalk.i64_in _ (by omega) |>.trans rfl
    clear hsz hR hT0
    go_enter Try.func54, Try.ntmps54
    go_upto_region 1 with (fail)
    go_region_held3 (fun W => W.cell? ⟨c, 1, none⟩ = some (.int .i64 size) ∧ W.cell? ⟨c, 2, none⟩ = some (.map (some ml)) ∧ ∀ ty, (Builtin.len_ #[71] ty #[.map (some ml)]).run Try.prog W = .ok (.int .i64 os.length) W)
      (exact hS0) (fail)
    have c3' : w.drew.cell? ⟨c, 3, none⟩ = some (.slice A os.length cp) := c3
    have c2' : w.drew.cell? ⟨c, 2, none⟩ = some (.map (some ml)) := c2
    clear HC HD HO hS0 c1 c2 c3
    generalize w.drew = w1 at *
    go_wp2_with fail
    go_loopw [3] (fun v wr => ∃ k : Nat, v = .int .i64 ((k : Int) - 1) ∧ k ≤ os.length ∧ wr = w1 ∧ Hid (∀ (j : Nat) (q : Int), k ≤ j → os[j]? = some q → pinB m q = true)) (fun v _ => (intOf v + 1).toNat)
    case atStart => exact ⟨os.length, rfl, Nat.le_refl _, by first | trivial | rfl, fun j q hj hq => by rw [List.getElem?_eq_none hj] at hq; cases hq⟩
    case round =>
      obtain ⟨k, rfl, hk, hwr, hpin⟩ := hrel
      subst hwr
      cases k with
      | zero =>
        have hv : roomV os m x s = ⟨4, os, m, x, s⟩ := by unfold roomV; rw [vic_none fun j q hq => hpin.out j q (Nat.zero_le _) hq]
        have HF := Lib.hid (show CacheIs Fc wr c d ml (.slice A os.length cp) hp size os m os.length hits misses ∧ Disk (grow Fd w wr) wr d sp x ∧ SupIs wr sp s ∧ Turn (fun j => Fc j ∨ Fd j ∨ sp = some j) w wr from
          ⟨HC1.out, HD1.out.mono (fun j hj => .inl hj) (fun j hj => by
            rcases hj with hj | hj
            · exact HD1.out.lt j hj
            · exact hj.2), HO1.out.sup, HTw.out _ (Turn.refl _ _)⟩)
        rw [show (((0 : Nat) : Int) - 1) = -1 by omega]
        clear hpin HC1 HD1 HO1
        go_wp2
        go_ret
        rw [hv]
        exact ⟨rfl, ⟨_, HF.out.1⟩, HF.out.2⟩
      | succ k =>
        rw [show (((k + 1 : Nat) : Int) - 1) = (k : Int) by omega]
        obtain ⟨i, hi⟩ : ∃ i, os[k]? = some i := ⟨_, List.getElem?_eq_getElem (by omega)⟩
        have him : i ∈ os := List.mem_of_getElem? hi
        obtain ⟨hd, hm⟩ : ∃ hd, m i = some hd := Option.isSome_iff_exists.1 ((HL.out.iff i).1 him)
        obtain ⟨g1, hb, hkw, hFp, hpn⟩ := HC1.out.held i hd hm
        have hgt := hi
        obtain ⟨g, cg, cur, hAe, -⟩ := (HC1.out.ord.shape).resolve_left fun e => by rw [e.2] at hk; simp at hk
        have hA : A = some ⟨g, 0, none⟩ := by injection hAe
        subst hA
        have hck : wr.cell? ⟨g, k, none⟩ = some (.int .i64 i) := by
          have := HC1.out.ord.get (j := k) (by omega)
          rw [this, List.getD_eq_getElem?_getD, hi]
          rfl
        have hlk := HC1.out.map.is.look Try.underlying71 (zero75 _) hkw
        rw [hm] at hlk
        simp only [Option.map_some, Option.getD_some] at hlk
        have hpc := (g1.cell 65).trans (hd.at64 hb).2
        have hk0 : (0 : Int) ≤ (k : Int) := by omega
        have hk1 : (k : Int) < (os.length : Int) := by omega
        have ewk : IntKind.i64.wrap ((k : Int) - 1) = (k : Int) - 1 := IntWalk.i64_in _ (by omega) |>.trans rfl
        have HG := Lib.hid g1
        clear g1 hgt hAe cur cg
        by_cases hpp : hd.pins > 0
        · have hpb : pinB m i = true := by unfold pinB; rw [hm]; exact decide_eq_true hpp
          have hdp : decide (0 < hd.pins) = true := decide_eq_true hpp
          have HP := Lib.hid (show ∀ (j : Nat) (q : Int), k ≤ j → os[j]? = some q → pinB m q = true from fun j q hj hq => by
            rcases Nat.lt_or_ge k j with h | h
            · exact hpin.out j q h hq
            · obtain rfl : j = k := by omega
              rw [hi] at hq
              obtain rfl := Option.some.inj hq
              exact hpb)
          clear hpin hpb hi hm
          go_wp2
          go_roundw
          case rel => exact ⟨k, rfl, by omega, by first | trivial | rfl, HP⟩
          case measure => (first | (simp [intOf]; done) | (simp [intOf]; omega))
        · have hp0 : hd.pins = 0 := by omega
          have hpb : pinB m i = false := by unfold pinB; rw [hm]; exact decide_eq_false hpp
          have hdp : decide (0 < hd.pins) = false := decide_eq_false hpp
          have hv : roomV os m x s = if (if hd.ch then codeO x s i else 0) = 0 then ⟨0, os.erase i, delm m i, if hd.ch then x.write i hd.b else x, if hd.ch then supO x s i else s⟩ else ⟨(if hd.ch then codeO x s i else 0), os, m, x, if hd.ch then supO x s i else s⟩ := by
            unfold roomV
            rw [vic_at hi hpb fun j q hj hq => hpin.out j q hj hq]
            simp only [hm, Option.getD_some]
          have HV := Lib.hid hv
          have HW := Lib.hid (cwrite_any i wr HC1.out HD1.out HO1.out hm hw)
          have hee := erase_at HL.out.nd hi
          have hel : (os.erase i).length = os.length - 1 := List.length_erase_of_mem him
          clear hv hpin hpb
          go_wp2_with fail
          refine HW.out.mono ?_
          rintro e w3 ⟨rfl, hC3, hD3, hS3, hT3⟩
          have hs3 := hT3.size
          have HT3 := Lib.hid hT3
          have HS3 := Lib.hid hS3
          clear hT3 hS3 HW hck hlk hpc
          by_cases hc : (if hd.ch then codeO x s i else 0) = 0
          · rw [if_pos hc] at HV
            have hmd : delm (if hd.ch = true ∧ codeO x s i = 0 then updm m i ⟨hd.b, false, hd.pins⟩ else m) i = delm m i := by
              split
              · exact delm_updm _ _ _
              · rfl
            have hxe : (if hd.ch = true ∧ codeO x s i = 0 then x.write i hd.b else x) = if hd.ch then x.write i hd.b else x := by
              cases hch : hd.ch with
              | false => simp
              | true => rw [hch] at hc; simp at hc; simp [hc]
            rw [hxe] at hD3
            have hms : (((fun k => ((if hd.ch = true ∧ codeO x s i = 0 then updm m i ⟨hd.b, false, hd.pins⟩ else m) k).map fun _ => Value.pointer (some ⟨hp k, 0, none⟩)) i)).isSome = true := by
              have h1 : ((if hd.ch = true ∧ codeO x s i = 0 then updm m i ⟨hd.b, false, hd.pins⟩ else m) i).isSome = true := by
                split
                · rw [updm_same]; rfl
                · rw [hm]; rfl
              rw [Option.isSome_map]
              exact h1
            obtain ⟨w4, hdel, hM4, hg4⟩ := hC3.map.drop Try.underlying71 hkw hms
            have hT4 := turn_of_grown hg4
            have hC4 := hC3.delHd hT4 hM4
            rw [hmd] at hC4
            have hmlF := hC3.fm
            have c2w : w3.cell? ⟨c, 2, none⟩ = some (.map (some ml)) := by have := hC3.blk.cell 2; simpa using this
            have c3w : w4.cell? ⟨c, 3, none⟩ = some (.slice (some ⟨g, 0, none⟩) os.length cp) := by have := hC4.blk.cell 3; simpa using this
            have HDl := Lib.hid (delete_any' _ os k w4 hC4.ord (by omega))
            have HC4 := Lib.hid hC4
            have HD4 := Lib.hid (hD3.turn hT4 fun j hj e => by
              rcases hj with hj | hj
              · exact HO1.out.ap ml hmlF (e ▸ hj)
              · have := HC1.out.lt ml hmlF; omega)
            have HS4 := Lib.hid (HS3.out.turn hT4 fun g hg e => HO1.out.spc g hg (e ▸ hmlF))
            have HT4 := Lib.hid (HT3.out.trans hT4 fun j _ e => .inl (by rw [e]; exact hmlF))
            have hs4 := hT4.size
            have ewk1 : IntKind.i64.wrap ((k : Int) + 1) = (k : Int) + 1 := IntWalk.i64_in _ (by omega) |>.trans rfl
            rw [hc]
            clear hC3 hD3 hM4 hg4 hT4 hC4 hms hmd hxe
            go_wp2_with fail
            refine HDl.out.mono ?_
            rintro e w5 ⟨v5, rfl, hO5, hown5, hT5⟩
            obtain ⟨A5, n5, cp5, rfl⟩ := hO5.sl
            rw [hee] at hO5
            have hco : ¬ (Value.slice (some ⟨g, 0, none⟩) os.length cp).ownBlock = some c := fun e => by
              obtain ⟨cs, hc'⟩ := HC4.out.ord.type c e
              exact Blk.ne_ hc' HC4.out.blk (by decide) rfl
            have hB5 : Blk w5 c 73 _ := HC4.out.blk.turn hT5 hco
            have hc5 : ¬ (Value.slice A5 n5 cp5).ownBlock = some c := by rw [hown5]; exact hco
            have c5 := hB5.cell 3
            have f5 := hB5.frozen 3
            have hcl5 := hB5.lt
            simp at c5
            have hTc : Turn (fun j => j = c) w5 (w5.setCell ⟨c, 3, none⟩ (.slice A5 n5 cp5)) := (Turn.refl (fun j => j = c) w5).setCell (p := ⟨c, 3, none⟩) (fun _ => rfl) _
            have hTT : Turn (fun j => j = c ∨ (Value.slice (some ⟨g, 0, none⟩) os.length cp).ownBlock = some j) w4 (w5.setCell ⟨c, 3, none⟩ (.slice A5 n5 cp5)) := (hT5.mono fun j _ e => .inr e).trans hTc fun j _ e => .inl e
            have hFo : ∀ j, (j = c ∨ (Value.slice (some ⟨g, 0, none⟩) os.length cp).ownBlock = some j) → Fc j := fun j e => by
              rcases e with e | e
              · rw [e]; exact HC4.out.fc
              · exact HC4.out.fo j e
            have hs6 := hTT.size
            have HF := Lib.hid (show CacheIs Fc (w5.setCell ⟨c, 3, none⟩ (.slice A5 n5 cp5)) c d ml (.slice A5 n5 cp5) hp size (os.erase i) (delm m i) (os.erase i).length hits misses ∧ Disk (grow Fd w (w5.setCell ⟨c, 3, none⟩ (.slice A5 n5 cp5))) (w5.setCell ⟨c, 3, none⟩ (.slice A5 n5 cp5)) d sp (if hd.ch then x.write i hd.b else x) ∧ SupIs (w5.setCell ⟨c, 3, none⟩ (.slice A5 n5 cp5)) sp (if hd.ch then supO x s i else s) ∧ Turn (fun j => Fc j ∨ Fd j ∨ sp = some j) w (w5.setCell ⟨c, 3, none⟩ (.slice A5 n5 cp5)) from
              ⟨by rw [hel]; exact HC4.out.reorder hTT (hB5.set_ 3 _) (hO5.turn hTc fun j hj e => hc5 (by rw [hj, e])) (fun j hj => by rw [← hown5]; exact hj),
               (HD4.out.turn hTT fun j hj e => by
                 have hF := hFo j e
                 rcases hj with hj | hj
                 · exact HO1.out.ap j hF hj
                 · have := HC1.out.lt j hF; omega).mono (fun j hj => hj.imp id fun e => ⟨by omega, by omega⟩) (fun j hj => by
                   rcases hj with hj | hj
                   · have := HD1.out.lt j hj; omega
                   · exact hj.2),
               HS4.out.turn hTT fun g' hg' e => HO1.out.spc g' hg' (hFo _ e), HTw.out _ (HT4.out.trans hTT fun j _ e => .inl (hFo j e))⟩)
            clear hO5 hown5 hT5 hB5 hTc hTT HDl HC4 HD4 HS4 HT4 HC1 HD1 HO1
            go_wp2
            go_ret
            rw [HV.out]
            exact ⟨rfl, ⟨_, HF.out.1⟩, HF.out.2⟩
          · rw [if_neg hc] at HV
            have hch : hd.ch = true := by
              cases hch : hd.ch with
              | false => rw [hch] at hc; exact absurd rfl hc
              | true => rfl
            have hcn : ¬ (hd.ch = true ∧ codeO x s i = 0) := fun e => hc (by rw [if_pos hch]; exact e.2)
            rw [if_neg hcn] at hC3 hD3
            have HF := Lib.hid (show CacheIs Fc w3 c d ml (.slice (some ⟨g, 0, none⟩) os.length cp) hp size os m os.length hits misses ∧ Disk (grow Fd w w3) w3 d sp x ∧ SupIs w3 sp (if hd.ch then supO x s i else s) ∧ Turn (fun j => Fc j ∨ Fd j ∨ sp = some j) w w3 from
              ⟨hC3, hD3.mono (fun j hj => hj.imp id fun e => ⟨by omega, e.2⟩) (fun j hj => by
                rcases hj with hj | hj
                · have := HD1.out.lt j hj; omega
                · exact hj.2), HS3.out, HTw.out _ HT3.out⟩)
            generalize (if hd.ch then codeO x s i else 0) = cd at *
            have hcb : (cd == 0) = false := by simpa using hc
            clear hC3 hD3 HC1 HD1 HO1
            go_wp2
            go_ret
            rw [HV.out]
            exact ⟨rfl, ⟨_, HF.out.1⟩, HF.out.2⟩
end Go.Proofs.Ytnbppfhnagacfaa
