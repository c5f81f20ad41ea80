/- What package tree does to memory: mkdir. -/
import Derived.Test.YtpkhglfhpggceaaGreatDoorMake
namespace Go.Proofs.YtpkhglfhpggceaaGreatDoor
set_option maxRecDepth 100000
set_option maxHeartbeats 16000000
open Go.RowKit
set_option linter.unusedVariables false
set_option linter.unusedSimpArgs false

/-- What is asked, as a value. -/
def OpT.val (o : OpT) (A : Option Addr) (n cap : Nat) : Value := .agg #[.int .i64 o.kind, .string o.path, .string o.to, .int .i64 o.fd, .int .i64 o.n, .int .i64 o.off, .int .i64 o.flags, .slice A n cap]
abbrev oc (o : OpT) (A : Option Addr) (n cap : Nat) : Array Value := #[.int .i64 o.kind, .string o.path, .string o.to, .int .i64 o.fd, .int .i64 o.n, .int .i64 o.off, .int .i64 o.flags, .slice A n cap]
def OpT.cells (o : OpT) (A : Option Addr) (n cap : Nat) : Array Value := #[.int .i64 o.kind, .string o.path, .string o.to, .int .i64 o.fd, .int .i64 o.n, .int .i64 o.off, .int .i64 o.flags, .slice A n cap]
/-- What a step of the tree does: an answer, the tree's new state. -/
def StepPost (F : Nat → Prop) (t c : Nat) (a' : TS) (r : Value) (w : World) (e : Ending) (w' : World) : Prop :=
 e = .returned r ∧ St (grow F w w') w' t c a' ∧ Turn F w w'
section
variable {F : Nat → Prop} {w w' : World} {t c : Nat} {M : TMem} {a : TS}
/-- Nothing of the tree turned. -/
theorem step_same {r : Value} {w w' : World} (h : TreeIs F w t M c a) (hb : Below w.heap.size w w') : StepPost F t (c + 2) a r w (.returned r) w' :=
 ⟨rfl, ⟨M, ((h.below hb).mono (by omega)).grown _ hb.size h.w0⟩, Turn.of_below hb⟩
/-- A step behind what the call made itself. -/
theorem step_after {a' : TS} {w w1 w' : World} (hb : Below w.heap.size w w1) (h : TreeIs F w t M c a) (hs : St (grow F w1 w') w' t (c + 2) a') (hT : Turn F w1 w') : St (grow F w w') w' t (c + 2) a' ∧ Turn F w w' := by
 have hsz := hb.size
 have hsz2 := hT.size
 obtain ⟨M', hs⟩ := hs
 refine ⟨⟨M', hs.wide (fun j hj => ?_) (fun j hj => ?_) (fun hj => ?_)⟩, (Turn.of_below (S := F) hb).trans hT fun _ _ e => e⟩
 ·rcases hj with hj | hj
  ·exact .inl hj
  ·exact .inr ⟨by omega, hj.2⟩
 ·rcases hj with hj | hj
  ·have := h.lt j hj; omega
  ·exact hj.2
 ·rcases hj with hj | hj
  ·exact h.f0 hj
  ·have := h.w0; omega

theorem below_a {w w1 : World} {o : Obj} (hb : Below (w.alloc o).heap.size (w.alloc o) w1) : Below w.heap.size w w1 := ((Below.refl w.heap.size w).alloc (Nat.le_refl _) _).trans (hb.mono (by simp))
theorem below_ab {w w1 : World} {o : Obj} (hb : Below (w.alloc o).heap.size (w.alloc o) w1) (o2 : Obj) : Below w.heap.size w (w1.alloc o2) := (below_a hb).alloc (below_a hb).size _
theorem below_0 (w : World) (o : Obj) : Below w.heap.size w (w.alloc o) := (Below.refl _ _).alloc (Nat.le_refl _) _

theorem mkdir_any (o : OpT) (A : Option Addr) (n cap : Nat) (w : World) (h : TreeIs F w t M c a) (hg : Good a c) (hc : c ≤ 100000) (hp : o.path.size ≤ 1000) :
  Calls Tryz.prog 28 #[.pointer (some ⟨t, 0, none⟩), o.val A n cap] w (StepPost F t (c + 2) (a.mkdirT o) (.int .i64 (a.mkdirE o)) w) := by
 unfold OpT.val
 have hP := Lib.hid (fun W (h : TreeIs F W t M c a) => parent_any o.path 41 W h hg hc hp (by decide))
 have HT := Lib.hid h
 have HG := Lib.hid hg
 have HH := Lib.hid (fun W (hb : Below w.heap.size w W) => h.below hb)
 by_cases he : (a.par o.path 41).2 = 0
 ·obtain ⟨d, hd⟩ : ∃ d, a.par o.path 41 = (d, 0) := ⟨(a.par o.path 41).1, by rw [← he]⟩
  have hdir := par_dir (show (41 : Int) ≠ 0 by decide) he
  rw [hd] at hdir
  have HS := Lib.hid (spot_ok hd)
  have HE := Lib.hid he
  by_cases hf : findL (a.nd d).names (nameN o.path) = 0
  ·have HM := Lib.hid (fun W (h : TreeIs F W t M c a) => make_any d 0 (nameN o.path) 2 W h hg hc hdir (Nat.le_trans (nameN_size _) (by omega)) (.inr rfl))
   have HR := Lib.hid (show a.mkdirE o = 0 by
    unfold TS.mkdirE; rw [if_neg (fun x => x he), hd]
    exact if_neg fun x => x hf)
   have HRT := Lib.hid (show a.mkdirT o = a.more d (nameN o.path) 2 by unfold TS.mkdirT; rw [if_pos HR.out, hd])
   have HF := Lib.hid hf
   clear h hg he hd hdir hf
   go_enter Tryz.func28, Tryz.ntmps28
   go_wp2_with (first
    | (go_at_call 59; refine (hP.out _ (HH.out _ (below_0 _ _))).mono ?_; rintro e w1 ⟨rfl, hb1⟩; rw [HS.out, HE.out, HF.out])
    | (go_at_call 62; refine (HM.out _ (HH.out _ (below_ab hb1 _))).mono ?_; rintro e w2 ⟨rfl, hs, hTu⟩))
   go_ret
   have hh := step_after (below_ab hb1 _) HT.out hs hTu
   exact ⟨by rw [HR.out]; rfl, by rw [HRT.out]; exact hh.1, hh.2⟩
  ·have HR := Lib.hid (show a.mkdirE o = 41 by
    unfold TS.mkdirE; rw [if_neg (fun x => x he), hd]
    exact if_pos hf)
   have HRT := Lib.hid (show a.mkdirT o = a by unfold TS.mkdirT; rw [if_neg (by rw [HR.out]; decide)])
   have h1 : (((findL (a.nd d).names (nameN o.path) : Nat) : Int) != 0) = true := bne_iff_ne.2 (by omega)
   generalize findL (a.nd d).names (nameN o.path) = id at *
   clear h hg he hd hdir hf
   go_enter Tryz.func28, Tryz.ntmps28
   go_wp2_with (go_at_call 59; refine (hP.out _ (HH.out _ (below_0 _ _))).mono ?_; rintro e w1 ⟨rfl, hb1⟩; rw [HS.out, HE.out])
   go_ret
   rw [HR.out, HRT.out]
   exact step_same HT.out (below_ab hb1 _)
 ·have HS := Lib.hid (spot_bad he)
  have h1 : ((a.par o.path 41).2 != 0) = true := bne_iff_ne.2 he
  have HR := Lib.hid (show a.mkdirE o = (a.par o.path 41).2 by unfold TS.mkdirE; rw [if_pos he])
  have HRT := Lib.hid (show a.mkdirT o = a by unfold TS.mkdirT; rw [if_neg (by rw [HR.out]; exact he)])
  clear h hg he
  go_enter Tryz.func28, Tryz.ntmps28
  go_wp2_with (go_at_call 59; refine (hP.out _ (HH.out _ (below_0 _ _))).mono ?_; rintro e w1 ⟨rfl, hb1⟩; rw [HS.out])
  go_ret
  rw [HR.out, HRT.out]
  exact step_same HT.out (below_ab hb1 _)
end
end Go.Proofs.YtpkhglfhpggceaaGreatDoor
