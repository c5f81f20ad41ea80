/- What was asked and the answer, as a call's own blocks; an answer's cells. -/
import Derived.Test.YtpkhglfhpggceaaGreatDoorFlags
namespace Go.Proofs.YtpkhglfhpggceaaGreatDoor
open Go.RowKit
set_option linter.unusedVariables false
set_option linter.unusedSimpArgs false

abbrev zero7 : Array Value := #[.int .i64 0, .int .i64 0, .slice none 0 0, .slice none 0 0, .int .i64 0, .int .i64 0, .int .i64 0]
/-- Block B is what was asked, block B + 1 the answer to be. -/
structure OO (w : World) (B : Nat) (cs : Array Value) : Prop where
 b0 : Blk w B 36 cs
 b1 : Blk w (B + 1) 33 zero7
theorem OO.start (w : World) (cs : Array Value) : OO ((w.alloc (.cells cs 36)).alloc (.cells zero7 33)) w.heap.size cs := by
 have h5 := (Blk.new w 36 cs).alloc (.cells zero7 33)
 have h6 := Blk.new (w.alloc (.cells cs 36)) 33 zero7
 rw [alloc_sz] at h6
 exact ⟨h5, h6⟩
theorem asked (w : World) (cs : Array Value) : ∃ w1, w1 = (w.alloc (.cells cs 36)).alloc (.cells zero7 33) ∧ Hid (OO w1 w.heap.size cs) ∧ Hid (Below w.heap.size w w1) :=
 ⟨_, rfl, Lib.hid (OO.start w cs), Lib.hid (((Below.refl _ _).alloc (Nat.le_refl _) _).alloc (by simp) _)⟩
theorem OO.turn {S : Nat → Prop} {w w' : World} {B : Nat} {cs : Array Value} (h : OO w B cs) (hT : Turn S w w') (hS : ∀ j, B ≤ j → j < w.heap.size → ¬ S j) : OO w' B cs :=
 ⟨h.b0.turn hT (hS _ (Nat.le_refl _) h.b0.lt), h.b1.turn hT (hS _ (by omega) h.b1.lt)⟩
theorem OO.below {w w' : World} {B : Nat} {cs : Array Value} (h : OO w B cs) (hb : Below w.heap.size w w') : OO w' B cs :=
 h.turn (S := fun _ => False) (Turn.of_below hb) fun _ _ _ => id
theorem OO.drew {w : World} {B : Nat} {cs : Array Value} (h : OO w B cs) : OO w.drew B cs := ⟨h.b0.drew, h.b1.drew⟩
theorem OO.alloc {w : World} {B : Nat} {cs : Array Value} (h : OO w B cs) (o : Obj) : OO (w.alloc o) B cs := ⟨h.b0.alloc o, h.b1.alloc o⟩
theorem OO.lt {w : World} {B : Nat} {cs : Array Value} (h : OO w B cs) : B < w.heap.size := h.b0.lt

section
variable {F : Nat → Prop} {w w' : World} {t c : Nat} {M : TMem} {a : TS}
/-- A step with some answer. -/
def ansV (e n : Int) (A1 : Option Addr) (n1 c1 : Nat) (A2 : Option Addr) (n2 c2 : Nat) (k s l : Int) : Value := .agg #[.int .i64 e, .int .i64 n, .slice A1 n1 c1, .slice A2 n2 c2, .int .i64 k, .int .i64 s, .int .i64 l]
def AnsPost (F : Nat → Prop) (t c : Nat) (a' : TS) (w : World) (e : Ending) (w' : World) : Prop :=
 ∃ (er n : Int) (A1 : Option Addr) (n1 c1 : Nat) (A2 : Option Addr) (n2 c2 : Nat) (k s l : Int), StepPost F t c a' (ansV er n A1 n1 c1 A2 n2 c2 k s l) w e w'
theorem ans_same {er n : Int} {A1 : Option Addr} {n1 c1 : Nat} {A2 : Option Addr} {n2 c2 : Nat} {k s l : Int} {w w' : World} (h : TreeIs F w t M c a) (hb : Below w.heap.size w w') :
  AnsPost F t (c + 2) a w (.returned (.agg #[.int .i64 er, .int .i64 n, .slice A1 n1 c1, .slice A2 n2 c2, .int .i64 k, .int .i64 s, .int .i64 l])) w' := ⟨er, n, A1, n1, c1, A2, n2, c2, k, s, l, step_same h hb⟩
theorem below_00 (w : World) (o o2 : Obj) : Below w.heap.size w ((w.alloc o).alloc o2) := (below_0 w o).alloc (below_0 w o).size o2
theorem below_aa {w w1 : World} {o o2 : Obj} (hb : Below ((w.alloc o).alloc o2).heap.size ((w.alloc o).alloc o2) w1) : Below w.heap.size w w1 := (below_00 w o o2).trans (hb.mono (below_00 w o o2).size)
/-- An answer is laid, cell by cell. -/
theorem ans_set {w w1 : World} {b : Nat} (h : Below w.heap.size w w1) (hb : w.heap.size ≤ b) (v0 v1 v2 v3 v4 v5 v6 : Value) :
  Below w.heap.size w (((((((w1.setCell ⟨b, 0, none⟩ v0).setCell ⟨b, 1, none⟩ v1).setCell ⟨b, 2, none⟩ v2).setCell ⟨b, 3, none⟩ v3).setCell ⟨b, 4, none⟩ v4).setCell ⟨b, 5, none⟩ v5).setCell ⟨b, 6, none⟩ v6) :=
 below_set (below_set (below_set (below_set (below_set (below_set (below_set h hb _) hb _) hb _) hb _) hb _) hb _) hb _
theorem ans_turn {F : Nat → Prop} {w w1 : World} {b : Nat} (h : Turn F w w1) (hb : w.heap.size ≤ b) (v0 v1 v2 v3 v4 v5 v6 : Value) :
  Turn F w (((((((w1.setCell ⟨b, 0, none⟩ v0).setCell ⟨b, 1, none⟩ v1).setCell ⟨b, 2, none⟩ v2).setCell ⟨b, 3, none⟩ v3).setCell ⟨b, 4, none⟩ v4).setCell ⟨b, 5, none⟩ v5).setCell ⟨b, 6, none⟩ v6) := by
 have k : ∀ i, b < w.heap.size → F (⟨b, i, none⟩ : Addr).block := fun i hi => by omega
 exact ((((((h.setCell (k 0) v0).setCell (k 1) v1).setCell (k 2) v2).setCell (k 3) v3).setCell (k 4) v4).setCell (k 5) v5).setCell (k 6) v6
theorem TreeIs.far7 (h : TreeIs F w t M c a) {b : Nat} (hb : ¬ F b) (hz : b ≠ 0) (v0 v1 v2 v3 v4 v5 v6 : Value) :
  TreeIs F (((((((w.setCell ⟨b, 0, none⟩ v0).setCell ⟨b, 1, none⟩ v1).setCell ⟨b, 2, none⟩ v2).setCell ⟨b, 3, none⟩ v3).setCell ⟨b, 4, none⟩ v4).setCell ⟨b, 5, none⟩ v5).setCell ⟨b, 6, none⟩ v6) t M c a := by
 have k : ∀ i, b < w.heap.size → (· = b) (⟨b, i, none⟩ : Addr).block := fun _ _ => rfl
 have hT : Turn (· = b) w (((((((w.setCell ⟨b, 0, none⟩ v0).setCell ⟨b, 1, none⟩ v1).setCell ⟨b, 2, none⟩ v2).setCell ⟨b, 3, none⟩ v3).setCell ⟨b, 4, none⟩ v4).setCell ⟨b, 5, none⟩ v5).setCell ⟨b, 6, none⟩ v6) :=
  (((((((Turn.refl (· = b) w).setCell (k 0) v0).setCell (k 1) v1).setCell (k 2) v2).setCell (k 3) v3).setCell (k 4) v4).setCell (k 5) v5).setCell (k 6) v6
 exact h.turn hT (fun j hj e => hb (e ▸ hj)) (fun e => hz e.symm)
end
end Go.Proofs.YtpkhglfhpggceaaGreatDoor
