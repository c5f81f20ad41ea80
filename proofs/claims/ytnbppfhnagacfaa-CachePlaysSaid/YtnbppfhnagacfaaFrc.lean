/- package disk: Force, New; plain laws of the state under them. -/
import Derived.Test.YtnbppfhnagacfaaWrite
namespace Go.Proofs.Ytnbppfhnagacfaa
open Go.RowKit
set_option linter.unusedVariables false
attribute [local go_sem ↓] Go.wp_at_zero Go.wp_at_succ

theorem flat_get {L : List (List Int)} (h : ∀ b ∈ L, b.length = 64) {q : Nat} (hq : q < L.length * 64) : (flat L)[q]? = (bytes (L.getD (q / 64) []))[q % 64]? := by
  have hk : q / 64 < L.length := by omega
  have hb := List.getElem?_eq_getElem hk
  have hm : L[q / 64] ∈ L := List.getElem_mem hk
  have hr : q % 64 < (bytes L[q / 64]).length := by rw [bytes_len, h _ hm]; omega
  have := flat_at h (q / 64) _ hb (q % 64) _ (List.getElem?_eq_getElem hr)
  rw [show q / 64 * 64 + q % 64 = q by omega] at this
  rw [this, List.getD_eq_getElem?_getD, hb]
  simp [hr]
theorem Rows.set {w : World} {g c : Nat} {L : List (List Int)} (h : Rows w (.slice (some ⟨g, 0, none⟩) L.length c) L) {k : Nat} (hk : k < L.length) {b : List Int} (hb : b.length = 64) :
    Rows (w.setCells g (k * 64) (bytes b)) (.slice (some ⟨g, 0, none⟩) L.length c) (L.set k b) := by
  have hl : ∀ q ∈ L.set k b, q.length = 64 := fun q hq => by
    rcases List.mem_or_eq_of_mem_set hq with hq | rfl
    · exact h.2 q hq
    · exact hb
  refine ⟨⟨by rw [flat_len hl], ?_⟩, hl⟩
  rcases h.1.2 with ⟨hv, h0⟩ | ⟨g', cap, cur, hv, hbs, hg, hnc, hcm, hcs, ht⟩
  · omega
  · injection hv with e1 e2 e3
    injection e1 with e1
    injection e1 with e1
    subst e1 e3
    right
    refine ⟨g, c, patch cur (k * 64) (bytes b), by rw [List.length_set], hbs, Blk.patch (w := w) (bytes b) cur (k * 64) (show Blk w g 32 cur from hg), by rw [List.length_set]; exact hnc, hcm, by rw [patch_size]; exact hcs, ?_⟩
    rw [List.length_set]
    have hbl : (bytes b).length = 64 := by rw [bytes_len]; exact hb
    apply List.ext_getElem?
    intro q
    rcases Nat.lt_or_ge q (L.length * 64) with hq | hq
    · rw [List.getElem?_take_of_lt hq, Array.getElem?_toList]
      rw [flat_get hl (by rw [List.length_set]; exact hq)]
      have hqk : q / 64 < L.length := by omega
      have hold : (flat L)[q]? = cur[q]? := by
        rw [← ht, List.getElem?_take_of_lt hq, Array.getElem?_toList]
      by_cases e : q / 64 = k
      · have hr : q % 64 < (bytes b).length := by omega
        have := patch_in (bytes b) cur (k * 64) (q % 64) _ (List.getElem?_eq_getElem hr) (by omega)
        rw [show k * 64 + q % 64 = q by omega] at this
        rw [this, e, List.getD_eq_getElem?_getD, List.getElem?_set_self hk]
        simp [hr]
      · rw [patch_out _ _ _ _ (by omega), ← hold, flat_get h.2 hq, List.getD_eq_getElem?_getD, List.getD_eq_getElem?_getD, List.getElem?_set_ne (fun h => e h.symm)]
    · rw [List.getElem?_eq_none (by rw [List.length_take]; omega), List.getElem?_eq_none (by rw [flat_len hl, List.length_set]; exact hq)]
theorem Rows.there {w : World} {g c : Nat} {L : List (List Int)} (h : Rows w (.slice (some ⟨g, 0, none⟩) L.length c) L) {k : Nat} (hk : k < L.length) : w.there g (k * 64) 64 := fun j hj => by
  have hl := flat_len h.2
  refine ⟨?_, World.ownsRow.frozenAt h.1 (k * 64 + j)⟩
  rw [World.ownsRow.cellAt h.1 (k * 64 + j) (by omega), List.getElem?_eq_getElem (by omega)]
  rfl

theorem frc_step {F : Nat → Prop} {w2 : World} {d mw g c : Nat} {sp : Option Nat} {f : Int → Option Value} {x : Dk} {i : Int} {b : List Int} (h : DiskIs F w2 d sp mw (.slice (some ⟨g, 0, none⟩) x.stable.length c) f x) (hi : x.is i) (hb : b.length = 64) (hk : (key i).wf = true) :
    (w2.drew.setCells g (i.toNat * 64) (bytes b)).cell? ⟨d, 1, none⟩ = some (.slice (some ⟨g, 0, none⟩) x.stable.length c) ∧ (w2.drew.setCells g (i.toNat * 64) (bytes b)).cell? ⟨d, 2, none⟩ = some (.map (some mw)) ∧ (w2.drew.setCells g (i.toNat * 64) (bytes b)).there g (i.toNat * 64) 64 ∧
    ∃ w4, (∀ ty, (Builtin.delete_ #[68, 3] ty #[.map (some mw), .int .i64 i]).run Try.prog (w2.drew.setCells g (i.toNat * 64) (bytes b)) = .ok (.tuple #[]) w4) ∧ w4.cell? ⟨d, 3, none⟩ = some (.int .i64 x.writes) ∧ w4.frozen? ⟨d, 3, none⟩ = false ∧
      DiskIs F (w4.setCell ⟨d, 3, none⟩ (.int .i64 (x.writes + 1))) d sp mw (.slice (some ⟨g, 0, none⟩) x.stable.length c) (upd f i none) (x.force i b) ∧ Turn F w2 (w4.setCell ⟨d, 3, none⟩ (.int .i64 (x.writes + 1))) := by
  have hk' : i.toNat < x.stable.length := by have := hi.1; have := hi.2; omega
  obtain ⟨cs, hgb⟩ := rows_type h.st g rfl
  have hdg : ¬ d = g := fun e => Blk.ne_ hgb h.blk (by decide) e.symm
  have hmg : ¬ mw = g := fun e => h.map.not_blk hgb e
  have hdm : ¬ d = mw := fun e => h.map.not_blk h.blk e.symm
  have hT3 : Turn (fun j => j = g) w2 (w2.drew.setCells g (i.toNat * 64) (bytes b)) := Turn.setCells (S := fun j => j = g) (bytes b) (i.toNat * 64) (Turn.refl _ w2).drew fun _ => rfl
  have hD3 : Blk (w2.drew.setCells g (i.toNat * 64) (bytes b)) d 70 _ := h.blk.turn hT3 hdg
  have hM3 : MapIs (w2.drew.setCells g (i.toNat * 64) (bytes b)) mw x.writes.toNat f := h.map.turn hT3 hmg
  have hR3 : Rows (w2.drew.setCells g (i.toNat * 64) (bytes b)) (.slice (some ⟨g, 0, none⟩) x.stable.length c) (x.stable.set i.toNat b) := Rows.set (w := w2.drew) h.st hk' hb
  have hR3' : Rows (w2.drew.setCells g (i.toNat * 64) (bytes b)) (.slice (some ⟨g, 0, none⟩) (x.stable.set i.toNat b).length c) (x.stable.set i.toNat b) := by rw [List.length_set]; exact hR3
  refine ⟨hD3.cell 1, hD3.cell 2, hR3'.there (by rw [List.length_set]; exact hk'), ?_⟩
  obtain ⟨w4, hrun, hM4, hg4⟩ : ∃ w', (∀ ty, (Builtin.delete_ #[68, 3] ty #[.map (some mw), .int .i64 i]).run Try.prog (w2.drew.setCells g (i.toNat * 64) (bytes b)) = .ok (.tuple #[]) w') ∧ MapIs w' mw x.writes.toNat (upd f i none) ∧ (w2.drew.setCells g (i.toNat * 64) (bytes b)).grownBy w' (some mw) := by
    obtain ⟨w', h1, h2, h3⟩ := hM3.drop Try.underlying68 hk 0
    refine ⟨w', fun ty => ?_, h2, h3⟩
    have : Builtin.delete_ #[68, 3] ty #[.map (some mw), .int .i64 i] = Builtin.delete_ #[68, 3] 0 #[.map (some mw), .int .i64 i] := rfl
    rw [this]
    exact h1
  have hT4 := turn_of_grown hg4
  have hD4 : Blk w4 d 70 _ := hD3.turn hT4 hdm
  have hT5 : Turn (fun j => j = d) w4 (w4.setCell ⟨d, 3, none⟩ (.int .i64 (x.writes + 1))) := (Turn.refl (fun j => j = d) w4).setCell (p := ⟨d, 3, none⟩) (fun _ => rfl) (.int .i64 (x.writes + 1))
  have hTT : Turn (fun j => j = g ∨ j = mw ∨ j = d) w2 (w4.setCell ⟨d, 3, none⟩ (.int .i64 (x.writes + 1))) :=
    ((hT3.mono (S' := fun j => j = g ∨ j = mw ∨ j = d) fun j _ e => .inl e).trans hT4 fun j _ e => .inr (.inl e)).trans hT5 fun j _ e => .inr (.inr e)
  have hwt : ∀ k v, f k = some v → Rows (w4.setCell ⟨d, 3, none⟩ (.int .i64 (x.writes + 1))) v (x.waits k) := fun k v hv => (h.wt k v hv).turn hTT fun j hj e => by
    obtain ⟨cs', hc⟩ := rows_type (h.wt k v hv) j hj
    rcases e with rfl | rfl | rfl
    · exact h.as_ k v hv _ hj rfl
    · exact h.map.not_blk hc rfl
    · exact Blk.ne_ hc h.blk (by decide) rfl
  refine ⟨w4, hrun, hD4.cell 3, hD4.frozen 3, ?_, hTT.mono fun j _ e => by
    rcases e with rfl | rfl | rfl
    · exact h.fs _ rfl
    · exact h.fm
    · exact h.fd⟩
  exact
    { blk := hD4.set_ 3 _
      st := (hR3.turn hT4 fun j hj e => hmg (e.symm.trans (Option.some.inj hj).symm)).turn hT5 fun j hj e => hdg (e.symm.trans (Option.some.inj hj).symm)
      n1 := by show 1 ≤ (x.stable.set i.toNat b).length; rw [List.length_set]; exact h.n1
      n2 := by show (x.stable.set i.toNat b).length ≤ 2048; rw [List.length_set]; exact h.n2
      map := (hM4.turn hT5 fun e => hdm e.symm).mono (by show x.writes.toNat ≤ (x.writes + 1).toNat; omega)
      wt := fun k v hk => by
        show Rows _ v (if k = i then [] else x.waits k)
        by_cases e : k = i
        · rw [e, upd_same] at hk; cases hk
        · rw [if_neg e]
          rw [upd_other _ _ e] at hk
          exact hwt k v hk
      none_ := fun k hk => by
        show (if k = i then [] else x.waits k) = []
        by_cases e : k = i
        · rw [if_pos e]
        · rw [if_neg e]
          rw [upd_other _ _ e] at hk
          exact h.none_ k hk
      cnt := ⟨show 0 ≤ x.writes + 1 from by have := h.cnt.1; omega, fun k => by
        show ((if k = i then [] else x.waits k).length : Int) ≤ x.writes + 1
        have h1 := h.cnt.2 k
        have h2 := h.cnt.1
        by_cases e : k = i
        · rw [if_pos e]; simp; omega
        · rw [if_neg e]; omega⟩
      fd := h.fd
      fm := h.fm
      fs := h.fs
      fw := fun k v hk j hj => by
        by_cases e : k = i
        · rw [e, upd_same] at hk; cases hk
        · rw [upd_other _ _ e] at hk
          exact h.fw k v hk j hj
      ap := fun k v k' u hk hk' hne j hj hu => by
        by_cases e : k = i
        · rw [e, upd_same] at hk; cases hk
        by_cases e' : k' = i
        · rw [e', upd_same] at hk'; cases hk'
        rw [upd_other _ _ e] at hk
        rw [upd_other _ _ e'] at hk'
        exact h.ap k v k' u hk hk' hne j hj hu
      as_ := fun k v hk j hj hs => by
        by_cases e : k = i
        · rw [e, upd_same] at hk; cases hk
        · rw [upd_other _ _ e] at hk
          exact h.as_ k v hk j hj hs
      lt := fun j hj => Nat.lt_of_lt_of_le (h.lt j hj) hTT.size }
end Go.Proofs.Ytnbppfhnagacfaa
