/- package cache: Get, Put. -/
import Derived.Test.YtnbppfhnagacfaaGet
namespace Go.Proofs.Ytnbppfhnagacfaa
open Go.RowKit
set_option linter.unusedVariables false
attribute [local go_sem ↓] Go.wp_at_zero Go.wp_at_succ

/-- Bounds under which a call is at home. -/
structure Room (a : CA) : Prop where
  wr : a.x.writes < 1000000
  hi : a.hits < 1000000
  ms : a.misses < 1000000
  os : a.os.length ≤ 1000
  us : ∀ s', a.s = some s' → s'.used < 1000000000
theorem St.link {F : Nat → Prop} {w : World} {c d : Nat} {sp : Option Nat} {hp : Int → Nat} {a : CA} (h : St F w c d sp hp a) : Link a.os a.m := by
  obtain ⟨Fc, Fd, ml, ov, h⟩ := h
  exact h.link
def getB (a : CA) (i : Int) : List Int := ((a.m i).map fun h => h.b).getD zeroB
set_option maxRecDepth 100000 in
set_option maxHeartbeats 4000000 in
theorem get_any {F : Nat → Prop} {c d : Nat} {sp : Option Nat} {hp : Int → Nat} {a : CA} (i : Int) (w : World) (h : St F w c d sp hp a) (hr : Room a) (hk : (key i).wf = true) :
    Calls Try.prog 16 #[.pointer (some ⟨c, 0, none⟩), .int .i64 i] w fun e w' => e = .returned (.tuple #[blkV (if (holdR a i).1 = 0 then getB (holdR a i).2 i else zeroB), .int .i64 (holdR a i).1]) ∧
      (∃ hp', St (grow F w w') w' c d sp hp' (holdR a i).2) ∧ Turn (fun j => F j ∨ sp = some j) w w' := by
  obtain ⟨hlF, hlS, -⟩ := h.lt
  obtain ⟨w1, hw1⟩ : ∃ w1, w1 = w.alloc (.cells (bytes zeroB).toArray 32) := ⟨_, rfl⟩
  have hb1 : Below w.heap.size w w1 := by rw [hw1]; exact (Below.refl _ _).alloc (Nat.le_refl _) _
  have hT01 : Turn (fun _ => False) w w1 := Turn.of_below hb1
  have hV1 : Var w1 w.heap.size zeroB := by rw [hw1]; exact Var.new _ zero_len
  have h1 := h.turn hT01 (fun _ _ => id) fun _ _ => id
  have hs1 : w1.heap.size = w.heap.size + 1 := by rw [hw1]; simp
  have HH := Lib.hid (hold_any i w1 h1 hk hr.wr hr.hi hr.ms hr.os hr.us)
  have HHe := Lib.hid fun (e : (holdR a i).1 = 0) => hold_held e h.link
  have HB1 := Lib.hid hb1
  have HlF := Lib.hid hlF
  have HlS := Lib.hid hlS
  generalize holdR a i = R at *
  obtain ⟨code, a2⟩ := R
  simp only at HH HHe ⊢
  clear h h1 hlF hlS hr
  go_enter Try.func16, Try.ntmps16
  go_upto_region 1 with (fail)
  change Code.wp _ _ _ _ (World.alloc w (.cells (bytes zeroB).toArray 32))
  rw [← hw1]
  obtain ⟨b1, hb1e⟩ : ∃ b1, b1 = w.heap.size := ⟨_, rfl⟩
  rw [← hb1e] at hV1 ⊢
  have hbe : w.heap.size ≤ b1 ∧ b1 < w1.heap.size := ⟨by omega, by omega⟩
  obtain ⟨hbe1, hbe2⟩ := hbe
  have HV1 := Lib.hid hV1
  have HT01 := Lib.hid hT01
  clear hw1 hb1 hV1 hb1e hT01
  go_wp2_with fail
  refine HH.out.mono ?_
  rintro e w2 ⟨p, rfl, ⟨hp2, hpp, hS2⟩, hT2⟩
  have hs2 := hT2.size
  have hbF : ¬ (F b1 ∨ sp = some b1) := fun e => by
    rcases e with e | e
    · have := HlF.out b1 e; omega
    · have := (HlS.out b1 e).2; omega
  have HV2 := Lib.hid (HV1.out.turn hT2 hbF)
  have HS2 := Lib.hid hS2
  have HT2 := Lib.hid (show Turn (fun j => F j ∨ sp = some j) w w2 from (HT01.out.mono fun _ _ h => h.elim).trans hT2 fun _ _ e => e)
  have HTh := Lib.hid HV2.out.there
  have HFin := Lib.hid fun (b : List Int) (hb : b.length = 64) => show Var (w2.setCells b1 0 (bytes b)) b1 b ∧ St (grow F w (w2.setCells b1 0 (bytes b))) (w2.setCells b1 0 (bytes b)) c d sp hp2 a2 ∧ Turn (fun j => F j ∨ sp = some j) w (w2.setCells b1 0 (bytes b)) from by
    have hT3 : Turn (fun j => j = b1) w2 (w2.setCells b1 0 (bytes b)) := Turn.setCells (S := fun j => j = b1) _ 0 (Turn.refl _ _) fun _ => rfl
    have hs3 : (w2.setCells b1 0 (bytes b)).heap.size = w2.heap.size := cells_size _ _ _ _
    refine ⟨HV2.out.set hb, (HS2.out.turn hT3 (fun j hj e => ?_) (fun g hg e => hbF (.inr (e ▸ hg)))).mono (fun j hj => hj.imp id fun e => ⟨by omega, by omega⟩) (fun j hj => ?_) (fun g hg hj => ?_), HT2.out.trans hT3 fun j hj e => by exfalso; omega⟩
    · rcases hj with hj | hj
      · exact hbF (.inl (e ▸ hj))
      · omega
    · rcases hj with hj | hj
      · have := HlF.out j hj; omega
      · exact hj.2
    · rcases hj with hj | hj
      · exact (HlS.out g hg).1 hj
      · have := (HlS.out g hg).2; omega
  by_cases hc : code = 0
  · subst hc
    obtain ⟨hd, hm⟩ := HHe.out rfl
    have hpp' := hpp rfl
    obtain ⟨g1, g2, -⟩ := HS2.out.held hm
    rw [hpp'] at g1
    have HRg := Lib.hid (show w2.rangeAt p 0 (bytes hd.b) from fun j v hv => by rw [Nat.zero_add, g1.cell j]; exact hd.byte g2 j v hv)
    have hgb : getB a2 i = hd.b := by unfold getB; rw [hm]; rfl
    have HGb := Lib.hid hgb
    clear hT2 hS2 hpp hpp' g1 hm hgb HH HHe
    go_wp2_with (first | (refine wl_load32 HRg g2 _ rfl rfl rfl ?_) | (refine wl_store32 HTh g2 _ _ rfl rfl rfl rfl ?_))
    have hF := HFin.out hd.b g2
    refine bodyPost_ret (v := .tuple #[blkV hd.b, .int .i64 0]) (res_blk2 (p := 4) (u := 5) rfl hF.1 rfl rfl) rfl ?_
    rw [← HGb.out]
    first | exact ⟨rfl, ⟨hp2, by rw [HGb.out]; exact hF.2.1⟩, by rw [HGb.out]; exact hF.2.2⟩ | exact ⟨by rw [if_pos rfl], ⟨hp2, by rw [HGb.out]; exact hF.2.1⟩, by rw [HGb.out]; exact hF.2.2⟩
  · clear hT2 hS2 hpp HH HHe
    have hF := HFin.out zeroB zero_len
    have HF := Lib.hid hF
    clear hF
    rw [if_neg hc]
    go_wp2_with (first | (refine wl_store32 (b := zeroB) HTh zero_len _ _ rfl rfl rfl rfl ?_))
    all_goals
      refine bodyPost_ret (v := .tuple #[blkV zeroB, .int .i64 code]) (res_blk2 (p := 4) (u := 5) rfl HF.out.1 rfl rfl) rfl ?_
      first | exact ⟨rfl, ⟨hp2, HF.out.2.1⟩, HF.out.2.2⟩ | exact ⟨by rw [if_neg hc], ⟨hp2, HF.out.2.1⟩, HF.out.2.2⟩
end Go.Proofs.Ytnbppfhnagacfaa
