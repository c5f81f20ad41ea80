/- package cache: Put. -/
import Derived.Test.YtnbppfhnagacfaaGp
namespace Go.Proofs.Ytnbppfhnagacfaa
open Go.RowKit
set_option linter.unusedVariables false
attribute [local go_sem ↓] Go.wp_at_zero Go.wp_at_succ

def setA (a : CA) (i : Int) (h : Hd) : CA := { a with m := updm a.m i h }
theorem St.set {F : Nat → Prop} {w w' : World} {c d : Nat} {sp : Option Nat} {hp : Int → Nat} {a : CA} (h : St F w c d sp hp a) {i : Int} {hd hd' : Hd} (hi : a.m i = some hd) (hT : Turn (fun j => j = hp i) w w') (hb : Blk w' (hp i) 81 hd'.cells) (hl : hd'.b.length = 64) (hpn : 0 ≤ hd'.pins ∧ hd'.pins ≤ 1000000) : St F w' c d sp hp (setA a i hd') := by
  obtain ⟨Fc, Fd, ml, ov, h⟩ := h
  obtain ⟨g1, g2, g3, g4, -⟩ := h.ca.held i hd hi
  have hio : i ∈ a.os := (h.link.iff i).2 (by rw [hi]; rfl)
  exact ⟨Fc, Fd, ml, ov,
    { ca := h.ca.setHd hi hT hb hl hpn
      link := h.link.upd hio _
      disk := h.disk.turn hT fun j hj e => h.own.ap _ g4 (e ▸ hj)
      own := { h.own with sup := h.own.sup.turn hT fun g hg e => h.own.spc g hg (e ▸ g4), splt := fun g hg => Nat.lt_of_lt_of_le (h.own.splt g hg) hT.size }
      sub := h.sub
      flt := fun j hj => Nat.lt_of_lt_of_le (h.flt j hj) hT.size
      spf := h.spf }⟩
theorem St.pins {F : Nat → Prop} {w : World} {c d : Nat} {sp : Option Nat} {hp : Int → Nat} {a : CA} (h : St F w c d sp hp a) {i : Int} {hd : Hd} (hi : a.m i = some hd) : 0 ≤ hd.pins ∧ hd.pins ≤ 1000000 := by
  obtain ⟨Fc, Fd, ml, ov, h⟩ := h
  exact (h.ca.held i hd hi).2.2.2.2
def pinsOf (a : CA) (i : Int) : Int := ((a.m i).map fun h => h.pins).getD 0
/-- What Put does. -/
def putR (a : CA) (i : Int) (b : List Int) : Int × CA := if (holdR a i).1 = 0 then (0, setA (holdR a i).2 i ⟨b, true, pinsOf (holdR a i).2 i⟩) else holdR a i
set_option maxRecDepth 100000 in
set_option maxHeartbeats 4000000 in
theorem put_any {F : Nat → Prop} {c d : Nat} {sp : Option Nat} {hp : Int → Nat} {a : CA} (i : Int) (b : List Int) (w : World) (h : St F w c d sp hp a) (hr : Room a) (hk : (key i).wf = true) (hb : b.length = 64) :
    Calls Try.prog 10 #[.pointer (some ⟨c, 0, none⟩), .int .i64 i, blkV b] w fun e w' => e = .returned (.int .i64 (putR a i b).1) ∧
      (∃ hp', St (grow F w w') w' c d sp hp' (putR a i b).2) ∧ Turn (fun j => F j ∨ sp = some j) w w' := by
  obtain ⟨hlF, hlS, -⟩ := h.lt
  obtain ⟨w1, hw1⟩ : ∃ w1, w1 = w.alloc (.cells (bytes b).toArray 32) := ⟨_, rfl⟩
  have hb1 : Below w.heap.size w w1 := by rw [hw1]; exact (Below.refl _ _).alloc (Nat.le_refl _) _
  have hT01 : Turn (fun _ => False) w w1 := Turn.of_below hb1
  have hV1 : Var w1 w.heap.size b := by rw [hw1]; exact Var.new _ hb
  have h1 := h.turn hT01 (fun _ _ => id) fun _ _ => id
  have hs1 : w1.heap.size = w.heap.size + 1 := by rw [hw1]; simp
  have HH := Lib.hid (hold_any i w1 h1 hk hr.wr hr.hi hr.ms hr.os hr.us)
  have HHe := Lib.hid fun (e : (holdR a i).1 = 0) => hold_held e h.link
  have HlF := Lib.hid hlF
  have HlS := Lib.hid hlS
  unfold putR
  generalize holdR a i = R at *
  obtain ⟨code, a2⟩ := R
  simp only at HH HHe ⊢
  clear h h1 hlF hlS hr
  go_enter Try.func10, Try.ntmps10
  go_upto_region 1 with (fail)
  change Code.wp _ _ _ _ (World.alloc w (.cells (bytes b).toArray 32))
  rw [← hw1]
  obtain ⟨b1, hb1e⟩ : ∃ b1, b1 = w.heap.size := ⟨_, rfl⟩
  rw [← hb1e] at hV1 ⊢
  have hbe : w.heap.size ≤ b1 ∧ b1 < w1.heap.size := ⟨by omega, by omega⟩
  obtain ⟨hbe1, hbe2⟩ := hbe
  have HV1 := Lib.hid hV1
  have HT01 := Lib.hid hT01
  clear hw1 hb1 hV1 hb1e hT01
  go_wp2_with fail
  refine HH.out.mono ?_
  rintro e w2 ⟨p, rfl, ⟨hp2, hpp, hS2⟩, hT2⟩
  have hs2 := hT2.size
  have hbF : ¬ (F b1 ∨ sp = some b1) := fun e => by
    rcases e with e | e
    · have := HlF.out b1 e; omega
    · have := (HlS.out b1 e).2; omega
  have HV2 := Lib.hid (HV1.out.turn hT2 hbF)
  have HS2 := Lib.hid hS2
  have HT2 := Lib.hid (show Turn (fun j => F j ∨ sp = some j) w w2 from (HT01.out.mono fun _ _ h => h.elim).trans hT2 fun _ _ e => e)
  by_cases hc : code = 0
  · subst hc
    obtain ⟨hd, hm⟩ := HHe.out rfl
    have hpp' := hpp rfl
    obtain ⟨g1, g2, g3⟩ := HS2.out.held hm
    have hpn := HS2.out.pins hm
    have hpo : pinsOf a2 i = hd.pins := by unfold pinsOf; rw [hm]; rfl
    rw [hpp'] at g1 g3
    have HRg := Lib.hid HV2.out.range
    have hth : Hid (w2.there p 0 65) := Lib.hid fun j hj => by
      rw [Nat.zero_add]
      refine ⟨?_, g1.frozen j⟩
      rw [g1.cell j]
      have : hd.cells.size = 66 := Hd.size _ g2
      simp
      omega
    obtain ⟨w3, hw3⟩ : ∃ w3, w3 = w2.setCells p 0 (bytes b ++ [Value.bool true]) := ⟨_, rfl⟩
    have hT3 : Turn (fun j => j = p) w2 w3 := by rw [hw3]; exact Turn.setCells (S := fun j => j = p) _ 0 (Turn.refl _ _) fun _ => rfl
    have hG3 : Blk w3 p 81 (Hd.mk b true hd.pins).cells := by rw [hw3, ← hd_put g2 hb]; exact Blk.patch _ _ 0 g1
    have hs3 := hT3.size
    have HF := Lib.hid (show St (grow F w w3) w3 c d sp hp2 (setA a2 i ⟨b, true, pinsOf a2 i⟩) ∧ Turn (fun j => F j ∨ sp = some j) w w3 from by
      rw [hpo]
      exact ⟨(HS2.out.set (hd' := ⟨b, true, hd.pins⟩) hm (by rw [hpp']; exact hT3) (by rw [hpp']; exact hG3) hb hpn).mono (fun j hj => hj.imp id fun e => ⟨by omega, by omega⟩) (fun j hj => by
        rcases hj with hj | hj
        · have := HlF.out j hj; omega
        · exact hj.2) (fun g hg hj => by
        rcases hj with hj | hj
        · exact (HlS.out g hg).1 hj
        · have := (HlS.out g hg).2; omega), HT2.out.trans hT3 fun j hj e => by
          rcases g3 with g3 | g3
          · exact .inl (e ▸ g3)
          · exfalso; omega⟩)
    clear hT2 hS2 hpp hpp' g1 hm hT3 hG3 HH HHe hpo
    go_upto_region 4 with (first | (refine wl_load32 HRg hb _ rfl rfl rfl ?_) | (refine wl_build79 hb true _ _ rfl rfl rfl rfl ?_) | (refine wl_store79 hth hb _ _ rfl rfl rfl rfl ?_))
    rw [← hw3]
    clear hw3
    go_wp2
    go_ret
    first | exact ⟨rfl, ⟨hp2, HF.out.1⟩, HF.out.2⟩ | exact ⟨by rw [if_pos rfl]; rfl, ⟨hp2, by rw [if_pos rfl]; exact HF.out.1⟩, HF.out.2⟩
  · have HF := Lib.hid (show St (grow F w w2) w2 c d sp hp2 a2 ∧ Turn (fun j => F j ∨ sp = some j) w w2 from
      ⟨HS2.out.mono (fun j hj => hj.imp id fun e => ⟨by omega, by omega⟩) (fun j hj => by
        rcases hj with hj | hj
        · have := HlF.out j hj; omega
        · exact hj.2) (fun g hg hj => by
        rcases hj with hj | hj
        · exact (HlS.out g hg).1 hj
        · have := (HlS.out g hg).2; omega), HT2.out⟩)
    have hcn : (code == 0) = false := by simpa using hc
    clear hT2 hS2 hpp HH HHe
    rw [if_neg hc]
    go_wp2
    all_goals
      go_ret
      first | exact ⟨rfl, ⟨hp2, HF.out.1⟩, HF.out.2⟩ | exact ⟨by rw [if_neg hc]; rfl, ⟨hp2, by rw [if_neg hc]; exact HF.out.1⟩, HF.out.2⟩
end Go.Proofs.Ytnbppfhnagacfaa
