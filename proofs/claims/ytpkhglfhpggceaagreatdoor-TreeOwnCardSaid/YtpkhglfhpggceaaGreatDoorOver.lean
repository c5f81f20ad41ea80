/- What package tree does to memory: over. -/
import Derived.Test.YtpkhglfhpggceaaGreatDoorLink
import Derived.Test.YtpkhglfhpggceaaGreatDoorInside
namespace Go.Proofs.YtpkhglfhpggceaaGreatDoor
set_option maxRecDepth 100000
set_option maxHeartbeats 16000000
open Go.RowKit
set_option linter.unusedVariables false
set_option linter.unusedSimpArgs false

section
variable {F : Nat → Prop} {w w' : World} {t c : Nat} {M : TMem} {a : TS}
theorem over_any (id was : Nat) (w : World) (h : TreeIs F w t M c a) (h1 : (a.nd id).kind ≠ 0) (h2 : (a.nd was).kind ≠ 0) (b1 : id ≤ 1000000) (b2 : was ≤ 1000000) :
  Calls Tryz.prog 72 #[.pointer (some ⟨t, 0, none⟩), .int .i64 (id : Nat), .int .i64 (was : Nat)] w fun e w' => e = .returned (.int .i64 (a.overE id was)) ∧ w' = w := by
 have hD := Lib.hid (fun k (hk : k = id ∨ k = was) => dir_any (F := F) (t := t) (c := c) (M := M) (a := a) k w h (by rcases hk with e | e <;> rw [e] <;> assumption) (by rcases hk with e | e <;> rw [e] <;> assumption))
 obtain ⟨c0, c1, c2⟩ := h.cells
 obtain ⟨n0, n1, n2, n3⟩ := h.ncells h2
 have hl := h.look h2 b2
 have hn := fun ty => h.len h2 ty
 have hn3 := hn 3
 clear h hn h1 h2
 by_cases k1 : (a.nd id).kind = 2 <;> by_cases k2 : (a.nd was).kind = 2
 ·by_cases hz : (a.nd was).names.length = 0
  ·have HR := Lib.hid (show a.overE id was = 0 by unfold TS.overE; rw [if_neg fun x => x.2 k2, if_neg fun x => x.1 k1, if_neg fun x => x hz])
   have HK1 := Lib.hid (decide_eq_true k1)
   have HK2 := Lib.hid (decide_eq_true k2)
   rw [hz] at hn3
   clear k1 k2 hz
   go_enter Tryz.func72, Tryz.ntmps72
   go_wp2_with (go_at_call 60; refine (hD.out _ (by first | exact .inl rfl | exact .inr rfl)).mono ?_; rintro e w2 ⟨rfl, rfl⟩; first | rw [HK1.out] | rw [HK2.out])
   go_ret
   exact ⟨by rw [HR.out]; rfl, rfl⟩
  ·have HR := Lib.hid (show a.overE id was = 44 by unfold TS.overE; rw [if_neg fun x => x.2 k2, if_neg fun x => x.1 k1, if_pos hz])
   have hp : (0 : Int) < (((a.nd was).names.length : Nat) : Int) := by omega
   have HK1 := Lib.hid (decide_eq_true k1)
   have HK2 := Lib.hid (decide_eq_true k2)
   generalize (a.nd was).names.length = q at *
   clear k1 k2 hz
   go_enter Tryz.func72, Tryz.ntmps72
   go_wp2_with (go_at_call 60; refine (hD.out _ (by first | exact .inl rfl | exact .inr rfl)).mono ?_; rintro e w2 ⟨rfl, rfl⟩; first | rw [HK1.out] | rw [HK2.out])
   go_ret
   exact ⟨by rw [HR.out]; rfl, rfl⟩
 ·have HR := Lib.hid (show a.overE id was = 42 by unfold TS.overE; rw [if_pos ⟨k1, k2⟩])
  have HK1 := Lib.hid (decide_eq_true k1)
  have HK2 := Lib.hid (decide_eq_false k2)
  clear k1 k2
  go_enter Tryz.func72, Tryz.ntmps72
  go_wp2_with (go_at_call 60; refine (hD.out _ (by first | exact .inl rfl | exact .inr rfl)).mono ?_; rintro e w2 ⟨rfl, rfl⟩; first | rw [HK1.out] | rw [HK2.out])
  go_ret
  exact ⟨by rw [HR.out]; rfl, rfl⟩
 ·have HR := Lib.hid (show a.overE id was = 43 by unfold TS.overE; rw [if_neg fun x => k1 x.1, if_pos ⟨k1, k2⟩])
  have HK1 := Lib.hid (decide_eq_false k1)
  have HK2 := Lib.hid (decide_eq_true k2)
  clear k1 k2
  go_enter Tryz.func72, Tryz.ntmps72
  go_wp2_with (go_at_call 60; refine (hD.out _ (by first | exact .inl rfl | exact .inr rfl)).mono ?_; rintro e w2 ⟨rfl, rfl⟩; first | rw [HK1.out] | rw [HK2.out])
  go_ret
  exact ⟨by rw [HR.out]; rfl, rfl⟩
 ·by_cases hz : (a.nd was).names.length = 0
  ·have HR := Lib.hid (show a.overE id was = 0 by unfold TS.overE; rw [if_neg fun x => k1 x.1, if_neg fun x => k2 x.2, if_neg fun x => x hz])
   have HK1 := Lib.hid (decide_eq_false k1)
   have HK2 := Lib.hid (decide_eq_false k2)
   rw [hz] at hn3
   clear k1 k2 hz
   go_enter Tryz.func72, Tryz.ntmps72
   go_wp2_with (go_at_call 60; refine (hD.out _ (by first | exact .inl rfl | exact .inr rfl)).mono ?_; rintro e w2 ⟨rfl, rfl⟩; first | rw [HK1.out] | rw [HK2.out])
   go_ret
   exact ⟨by rw [HR.out]; rfl, rfl⟩
  ·have HR := Lib.hid (show a.overE id was = 44 by unfold TS.overE; rw [if_neg fun x => k1 x.1, if_neg fun x => k2 x.2, if_pos hz])
   have hp : (0 : Int) < (((a.nd was).names.length : Nat) : Int) := by omega
   have HK1 := Lib.hid (decide_eq_false k1)
   have HK2 := Lib.hid (decide_eq_false k2)
   generalize (a.nd was).names.length = q at *
   clear k1 k2 hz
   go_enter Tryz.func72, Tryz.ntmps72
   go_wp2_with (go_at_call 60; refine (hD.out _ (by first | exact .inl rfl | exact .inr rfl)).mono ?_; rintro e w2 ⟨rfl, rfl⟩; first | rw [HK1.out] | rw [HK2.out])
   go_ret
   exact ⟨by rw [HR.out]; rfl, rfl⟩

/-- What 'ends' holds of its own: what was asked, its two results, from and to. -/
structure EO (w : World) (B : Nat) (cs x7 x8 : Array Value) : Prop where
 b0 : Blk w B 36 cs
 b1 : Blk w (B + 1) 111 #[.int .i64 0, .string ⟨#[]⟩, .int .i64 0]
 b2 : Blk w (B + 1 + 1) 111 #[.int .i64 0, .string ⟨#[]⟩, .int .i64 0]
 b3 : Blk w (B + 1 + 1 + 1) 111 x7
 b4 : Blk w (B + 1 + 1 + 1 + 1) 111 x8
theorem EO.below {w w' : World} {B : Nat} {cs x7 x8 : Array Value} (h : EO w B cs x7 x8) (hb : Below w.heap.size w w') : EO w' B cs x7 x8 :=
 ⟨h.b0.below hb h.b0.lt, h.b1.below hb h.b1.lt, h.b2.below hb h.b2.lt, h.b3.below hb h.b3.lt, h.b4.below hb h.b4.lt⟩
theorem alloc_sz (w : World) (o : Obj) : (w.alloc o).heap.size = w.heap.size + 1 := by simp
theorem EO.start (w : World) (cs : Array Value) :
  EO (((((w.alloc (.cells cs 36)).alloc (.cells #[.int .i64 0, .string ⟨#[]⟩, .int .i64 0] 111)).alloc (.cells #[.int .i64 0, .string ⟨#[]⟩, .int .i64 0] 111)).alloc (.cells #[.int .i64 0, .string ⟨#[]⟩, .int .i64 0] 111)).alloc (.cells #[.int .i64 0, .string ⟨#[]⟩, .int .i64 0] 111)) w.heap.size cs #[.int .i64 0, .string ⟨#[]⟩, .int .i64 0] #[.int .i64 0, .string ⟨#[]⟩, .int .i64 0] := by
 have h0 := Blk.new w 36 cs
 have h1 := Blk.new (w.alloc (.cells cs 36)) 111 #[.int .i64 0, .string ⟨#[]⟩, .int .i64 0]
 have h2 := Blk.new ((w.alloc (.cells cs 36)).alloc (.cells #[.int .i64 0, .string ⟨#[]⟩, .int .i64 0] 111)) 111 #[.int .i64 0, .string ⟨#[]⟩, .int .i64 0]
 have h3 := Blk.new (((w.alloc (.cells cs 36)).alloc (.cells #[.int .i64 0, .string ⟨#[]⟩, .int .i64 0] 111)).alloc (.cells #[.int .i64 0, .string ⟨#[]⟩, .int .i64 0] 111)) 111 #[.int .i64 0, .string ⟨#[]⟩, .int .i64 0]
 have h4 := Blk.new ((((w.alloc (.cells cs 36)).alloc (.cells #[.int .i64 0, .string ⟨#[]⟩, .int .i64 0] 111)).alloc (.cells #[.int .i64 0, .string ⟨#[]⟩, .int .i64 0] 111)).alloc (.cells #[.int .i64 0, .string ⟨#[]⟩, .int .i64 0] 111)) 111 #[.int .i64 0, .string ⟨#[]⟩, .int .i64 0]
 simp only [alloc_sz] at h1 h2 h3 h4
 exact ⟨(((h0.alloc _).alloc _).alloc _).alloc _, ((h1.alloc _).alloc _).alloc _, (h2.alloc _).alloc _, h3.alloc _, h4⟩
end
end Go.Proofs.YtpkhglfhpggceaaGreatDoor
