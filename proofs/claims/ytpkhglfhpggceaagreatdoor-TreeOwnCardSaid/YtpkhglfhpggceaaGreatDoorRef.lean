/- What the reference of layer 24 does to memory: a contract for each function over its table, which is known whole. -/
import Derived.Test.YtpkhglfhpggceaaGreatDoorFdsd
import Derived.RegionTactic
import Derived.ChangeAlike
namespace Go.Proofs.YtpkhglfhpggceaaGreatDoor
set_option maxRecDepth 100000
set_option maxHeartbeats 16000000
open Go.RowKit

structure RTab (w : World) (b : Nat) (I : Nat → Bool) (F : Nat → Int × Int × Int) : Prop where
 blk : ∃ cs, Blk w b 102 cs ∧ (∀ i, i < 8 → cs[i]? = some (.bool (I i))) ∧
  ∀ i, i < 8 → cs[8 + i * 3]? = some (.int .i64 (F i).1) ∧ cs[8 + i * 3 + 1]? = some (.int .i64 (F i).2.1) ∧ cs[8 + i * 3 + 2]? = some (.int .i64 (F i).2.2)

def rlook (I : Nat → Bool) (fd : Int) : Bool := if 0 ≤ fd ∧ fd < 8 then I fd.toNat else false
theorem rlook_true {I : Nat → Bool} {fd : Int} (h : rlook I fd = true) : ∃ k : Nat, fd = k ∧ k < 8 ∧ I k = true := by
 unfold rlook at h
 split at h
 ·exact ⟨fd.toNat, by omega, by omega, h⟩
 ·cases h
theorem rlook_false {I : Nat → Bool} {fd : Int} (h : rlook I fd = false) : fd < 0 ∨ 7 < fd ∨ ∃ k : Nat, fd = k ∧ k < 8 ∧ I k = false := by
 unfold rlook at h
 split at h
 ·exact .inr (.inr ⟨fd.toNat, by omega, by omega, h⟩)
 ·omega

section
variable {w w' : World} {b : Nat} {I : Nat → Bool} {F : Nat → Int × Int × Int}
theorem RTab.lt (h : RTab w b I F) : b < w.heap.size := by obtain ⟨cs, hb, _⟩ := h.blk; exact hb.lt
theorem RTab.inCell (h : RTab w b I F) {i : Nat} (hi : i < 8) : w.cell? ⟨b, i, none⟩ = some (.bool (I i)) := by
 obtain ⟨cs, hb, h1, _⟩ := h.blk
 rw [hb.cell, h1 i hi]
theorem RTab.fCell (h : RTab w b I F) {i : Nat} (hi : i < 8) : w.cell? ⟨b, 8 + i * 3, none⟩ = some (.int .i64 (F i).1) ∧ w.cell? ⟨b, 8 + i * 3 + 1, none⟩ = some (.int .i64 (F i).2.1) ∧ w.cell? ⟨b, 8 + i * 3 + 2, none⟩ = some (.int .i64 (F i).2.2) := by
 obtain ⟨cs, hb, _, h2⟩ := h.blk
 rw [hb.cell, hb.cell, hb.cell]
 exact h2 i hi
theorem RTab.free (h : RTab w b I F) (i : Nat) : w.frozen? ⟨b, i, none⟩ = false := by obtain ⟨cs, hb, _⟩ := h.blk; exact hb.frozen i
theorem RTab.keep (h : RTab w b I F) (hk : w'.heap[b]? = w.heap[b]?) : RTab w' b I F := by
 obtain ⟨cs, hb, r⟩ := h.blk
 exact ⟨cs, hb.keep hk, r⟩
theorem RTab.turn {S : Nat → Prop} (h : RTab w b I F) (ht : Turn S w w') (hs : ¬ S b) : RTab w' b I F := h.keep (ht.block b h.lt hs)
theorem RTab.below (h : RTab w b I F) (ht : Below w.heap.size w w') : RTab w' b I F := h.keep (ht.block b h.lt)
theorem RTab.alloc (h : RTab w b I F) (o : Obj) : RTab (w.alloc o) b I F := h.keep (Below.heap_alloc w o b h.lt)
theorem RTab.drew (h : RTab w b I F) : RTab w.drew b I F := h.keep rfl
theorem RTab.drewN (h : RTab w b I F) (n : Nat) : RTab (w.drewN n) b I F := h.keep rfl
theorem RTab.far (h : RTab w b I F) {p : Addr} (hp : b ≠ p.block) (u : Value) : RTab (w.setCell p u) b I F := h.keep (Below.heap_setCell w p u b hp)
theorem RTab.setIn (h : RTab w b I F) {k : Nat} (hk : k < 8) (v : Bool) : RTab (w.setCell ⟨b, k, none⟩ (.bool v)) b (put I k v) F := by
 obtain ⟨cs, hb, h1, h2⟩ := h.blk
 have hsz : k < cs.size := by
  rcases Nat.lt_or_ge k cs.size with h | h
  ·exact h
  ·have := h1 k hk; rw [Array.getElem?_eq_none h] at this; cases this
 refine ⟨_, hb.set_ k (.bool v), fun i hi => ?_, fun i hi => ?_⟩
 ·rw [Array.getElem?_setIfInBounds]
  unfold put
  by_cases e : i = k
  ·subst e; simp [hsz]
  ·rw [if_neg (by omega), if_neg e]; exact h1 i hi
 ·rw [Array.getElem?_setIfInBounds, Array.getElem?_setIfInBounds, Array.getElem?_setIfInBounds, if_neg (by omega), if_neg (by omega), if_neg (by omega)]
  exact h2 i hi
theorem RTab.setF (h : RTab w b I F) {k : Nat} (hk : k < 8) (x y z : Int) :
  RTab (((w.setCell ⟨b, 8 + k * 3, none⟩ (.int .i64 x)).setCell ⟨b, 8 + k * 3 + 1, none⟩ (.int .i64 y)).setCell ⟨b, 8 + k * 3 + 2, none⟩ (.int .i64 z)) b I (put F k (x, y, z)) := by
 obtain ⟨cs, hb, h1, h2⟩ := h.blk
 have hsz : ∀ i, i < 8 → 8 + i * 3 + 2 < cs.size := fun i hi => by
  rcases Nat.lt_or_ge (8 + i * 3 + 2) cs.size with h | h
  ·exact h
  ·have := (h2 i hi).2.2; rw [Array.getElem?_eq_none h] at this; cases this
 have hsk := hsz k hk
 refine ⟨_, ((hb.set_ (8 + k * 3) (.int .i64 x)).set_ (8 + k * 3 + 1) (.int .i64 y)).set_ (8 + k * 3 + 2) (.int .i64 z), fun i hi => ?_, fun i hi => ?_⟩
 ·simp only [Array.getElem?_setIfInBounds]
  rw [if_neg (by omega), if_neg (by omega), if_neg (by omega)]
  exact h1 i hi
 ·simp only [Array.getElem?_setIfInBounds, Array.size_setIfInBounds]
  unfold put
  by_cases e : i = k
  ·subst e
   have s0 : 8 + i * 3 < cs.size := by omega
   have s1 : 8 + i * 3 + 1 < cs.size := by omega
   simp [s0, s1, hsk]
  ·have q := h2 i hi
   refine ⟨?_, ?_, ?_⟩
   all_goals
    rw [if_neg (by omega), if_neg (by omega), if_neg (by omega), if_neg e]
   ·exact q.1
   ·exact q.2.1
   ·exact q.2.2
theorem RTab.setPos (h : RTab w b I F) {k : Nat} (hk : k < 8) (y : Int) :
  RTab (w.setCell ⟨b, 8 + k * 3 + 1, none⟩ (.int .i64 y)) b I (put F k ((F k).1, y, (F k).2.2)) := by
 obtain ⟨cs, hb, h1, h2⟩ := h.blk
 have hsk : 8 + k * 3 + 2 < cs.size := by
  rcases Nat.lt_or_ge (8 + k * 3 + 2) cs.size with h | h
  ·exact h
  ·have := (h2 k hk).2.2; rw [Array.getElem?_eq_none h] at this; cases this
 refine ⟨_, hb.set_ (8 + k * 3 + 1) (.int .i64 y), fun i hi => ?_, fun i hi => ?_⟩
 ·rw [Array.getElem?_setIfInBounds, if_neg (by omega)]
  exact h1 i hi
 ·simp only [Array.getElem?_setIfInBounds]
  unfold put
  have q := h2 i hi
  by_cases e : i = k
  ·subst e
   have s1 : 8 + i * 3 + 1 < cs.size := by omega
   simp [s1, q.1, q.2.2]
  ·refine ⟨?_, ?_, ?_⟩
   all_goals
    rw [if_neg (by omega), if_neg e]
   ·exact q.1
   ·exact q.2.1
   ·exact q.2.2
end

theorem rnew_any (w : World) : Calls Tryz.prog 25 #[] w fun e w' => e = .returned (.pointer (some ⟨w.heap.size, 0, none⟩)) ∧ RTab w' w.heap.size (fun _ => false) (fun _ => (0, 0, 0)) ∧ Below w.heap.size w w' := by
 go_enter Tryz.func25, Tryz.ntmps25
 go_wp2
 go_ret
 refine ⟨rfl, ⟨_, Blk.new w 102 _, fun i hi => ?_, fun i hi => ?_⟩, (Below.refl _ _).alloc (Nat.le_refl _) _⟩
 ·rcases i with _|_|_|_|_|_|_|_|i
  all_goals first | omega | rfl
 ·rcases i with _|_|_|_|_|_|_|_|i
  all_goals first | omega | exact ⟨rfl, rfl, rfl⟩

theorem rget_some (I : Nat → Bool) (F : Nat → Int × Int × Int) (b k : Nat) (w : World) (ht : RTab w b I F) (hk : k < 8) (hi : I k = true) :
  Calls Tryz.prog 78 #[.pointer (some ⟨b, 0, none⟩), .int .i64 k] w fun e w' => e = .returned (.tuple #[.agg #[.int .i64 (F k).1, .int .i64 (F k).2.1, .int .i64 (F k).2.2], .int .i64 0]) ∧ Below w.heap.size w w' := by
 have c := ht.inCell hk
 rw [hi] at c
 obtain ⟨f0, f1, f2⟩ := ht.fCell hk
 have hb := ht.lt
 have hne : b ≠ w.heap.size := by omega
 clear ht hi
 go_enter Tryz.func78, Tryz.ntmps78
 go_wp2
 exact bodyPost_ret (v := .tuple #[.agg #[.int .i64 (F k).1, .int .i64 (F k).2.1, .int .i64 (F k).2.2], .int .i64 0]) (by simp [results, Tryz.results78, go_sem]) rfl ⟨rfl, (Below.refl _ _).alloc (Nat.le_refl _) _⟩

theorem rget_none (I : Nat → Bool) (F : Nat → Int × Int × Int) (b : Nat) (fd : Int) (w : World) (ht : RTab w b I F) (hx : rlook I fd = false) :
  Calls Tryz.prog 78 #[.pointer (some ⟨b, 0, none⟩), .int .i64 fd] w fun e w' => e = .returned (.tuple #[.agg #[.int .i64 0, .int .i64 0, .int .i64 0], .int .i64 46]) ∧ Below w.heap.size w w' := by
 have hb := ht.lt
 rcases rlook_false hx with h | h | ⟨k, rfl, hk, hi⟩
 ·clear hx
  go_enter Tryz.func78, Tryz.ntmps78
  go_wp2
  exact bodyPost_ret (v := .tuple #[.agg #[.int .i64 0, .int .i64 0, .int .i64 0], .int .i64 46]) (by simp [results, Tryz.results78, go_sem]) rfl ⟨rfl, (Below.refl _ _).alloc (Nat.le_refl _) _⟩
 ·clear hx
  go_enter Tryz.func78, Tryz.ntmps78
  go_wp2
  exact bodyPost_ret (v := .tuple #[.agg #[.int .i64 0, .int .i64 0, .int .i64 0], .int .i64 46]) (by simp [results, Tryz.results78, go_sem]) rfl ⟨rfl, (Below.refl _ _).alloc (Nat.le_refl _) _⟩
 ·have c := ht.inCell hk
  rw [hi] at c
  clear hx hi ht
  go_enter Tryz.func78, Tryz.ntmps78
  go_wp2
  exact bodyPost_ret (v := .tuple #[.agg #[.int .i64 0, .int .i64 0, .int .i64 0], .int .i64 46]) (by simp [results, Tryz.results78, go_sem]) rfl ⟨rfl, (Below.refl _ _).alloc (Nat.le_refl _) _⟩

def ROpenPost (I : Nat → Bool) (F : Nat → Int × Int × Int) (b : Nat) (ino mode : Int) (w : World) (e : Ending) (w' : World) : Prop :=
 (∃ k : Nat, k < 8 ∧ I k = false ∧ (∀ j, j < k → I j = true) ∧ e = .returned (.tuple #[.int .i64 k, .int .i64 0]) ∧
   RTab w' b (put I k true) (put F k (ino, 0, mode)) ∧ Turn (· = b) w w') ∨
 ((∀ j, j < 8 → I j = true) ∧ e = .returned (.tuple #[.int .i64 0, .int .i64 47]) ∧ w = w')

theorem ropen_any (I : Nat → Bool) (F : Nat → Int × Int × Int) (b : Nat) (ino mode : Int) (w : World) (ht : RTab w b I F) :
  Calls Tryz.prog 77 #[.pointer (some ⟨b, 0, none⟩), .int .i64 ino, .int .i64 mode] w (ROpenPost I F b ino mode w) := by
 have hb := ht.lt
 have HT := Lib.hid ht
 clear ht
 go_enter Tryz.func77, Tryz.ntmps77
 go_wp2
 go_loop [8] (fun i => ∃ k : Nat, k ≤ 8 ∧ i = .int .i64 k ∧ Hid (∀ j, j < k → I j = true)) (fun i => 8 - (intOf i).toNat)
 case atStart => exact ⟨0, by omega, rfl, fun j hj => by omega⟩
 case round =>
  obtain ⟨k, hk, rfl, hT⟩ := hrel
  by_cases hlt : k < 8
  ·have c := HT.out.inCell hlt
   obtain ⟨f0, f1, f2⟩ := HT.out.fCell hlt
   have g0 := HT.out.free k
   have g1 := HT.out.free (8 + k * 3)
   have g2 := HT.out.free (8 + k * 3 + 1)
   have g3 := HT.out.free (8 + k * 3 + 2)
   have i1 : (0 : Int) ≤ (k : Int) := by omega
   have i2 : (k : Int) < 8 := by omega
   have n0 : ¬ k = 8 + k * 3 := by omega
   have n1 : ¬ k = 8 + k * 3 + 1 := by omega
   have n2 : ¬ k = 8 + k * 3 + 2 := by omega
   cases hI : I k
   ·rw [hI] at c
    have HI := Lib.hid hI
    clear hI
    go_wp2
    go_region
    go_wp2
    go_ret2
    exact .inl ⟨k, hlt, HI.out, hT.out, rfl, ((HT.out.setIn hlt true).setF hlt ino 0 mode).drew, (((((Turn.refl (· = b) w).setCell (p := ⟨b, k, none⟩) (fun _ => rfl) _).setCell (p := ⟨b, 8 + k * 3, none⟩) (fun _ => rfl) _).setCell (p := ⟨b, 8 + k * 3 + 1, none⟩) (fun _ => rfl) _).setCell (p := ⟨b, 8 + k * 3 + 2, none⟩) (fun _ => rfl) _).drew⟩
   ·rw [hI] at c
    have HI := Lib.hid hI
    clear hI
    go_wp2
    go_round
    case rel => exact ⟨k + 1, by omega, by go_num, fun j hj => by
     rcases Nat.lt_succ_iff_lt_or_eq.1 hj with h | rfl
     ·exact hT.out j h
     ·exact HI.out⟩
    case measure => simp [intOf]; omega
  ·obtain rfl : k = 8 := by omega
   go_wp2
   go_ret2
   exact .inr ⟨hT.out, rfl, rfl⟩

theorem rclose_some (I : Nat → Bool) (F : Nat → Int × Int × Int) (b k : Nat) (w : World) (ht : RTab w b I F) (hk : k < 8) (hi : I k = true) :
  Calls Tryz.prog 79 #[.pointer (some ⟨b, 0, none⟩), .int .i64 k] w fun e w' => e = .returned (.tuple #[.agg #[.int .i64 (F k).1, .int .i64 (F k).2.1, .int .i64 (F k).2.2], .int .i64 0]) ∧ RTab w' b (put I k false) F ∧ Turn (· = b) w w' := by
 have hF := Lib.hid fun W (h : RTab W b I F) => rget_some I F b k W h hk hi
 have HT := Lib.hid ht
 have hb := ht.lt
 clear ht hi
 go_enter Tryz.func79, Tryz.ntmps79
 go_wp2_with fail
 refine (hF.out _ (HT.out.alloc _)).mono ?_
 rintro e w1 ⟨rfl, hb1⟩
 have HT1 := Lib.hid ((HT.out.alloc (.cells #[.int .i64 0, .int .i64 0, .int .i64 0] 99)).below hb1)
 have hs1 := hb1.size
 simp at hs1
 have hc := HT1.out.inCell hk
 have hf := HT1.out.free k
 have r0 := hb1.cell (p := ⟨w.heap.size, 0, none⟩) (by simp)
 have r1 := hb1.cell (p := ⟨w.heap.size, 1, none⟩) (by simp)
 have r2 := hb1.cell (p := ⟨w.heap.size, 2, none⟩) (by simp)
 have q0 := hb1.frozen (p := ⟨w.heap.size, 0, none⟩) (by simp)
 have q1 := hb1.frozen (p := ⟨w.heap.size, 1, none⟩) (by simp)
 have q2 := hb1.frozen (p := ⟨w.heap.size, 2, none⟩) (by simp)
 simp [go_sem] at r0 r1 r2 q0 q1 q2
 have HB := Lib.hid hb1
 clear hb1
 have hl1 : b < w1.heap.size := by omega
 have hl2 : w.heap.size < w1.heap.size := by omega
 have hne : b ≠ w.heap.size := by omega
 clear hs1
 go_wp2_with fail
 refine bodyPost_ret (v := .tuple #[.agg #[.int .i64 (F k).1, .int .i64 (F k).2.1, .int .i64 (F k).2.2], .int .i64 0]) (by simp [results, Tryz.results79, go_sem, hl2, r0, r1, r2]) rfl ⟨rfl, ?_, ?_⟩
 ·exact ((((HT1.out.setIn hk false).far (p := ⟨w.heap.size, 0, none⟩) hne _).far (p := ⟨w.heap.size, 1, none⟩) hne _).far (p := ⟨w.heap.size, 2, none⟩) hne _).alloc _
 ·have h0 : Turn (· = b) w w1 := Turn.of_below ((((Below.refl w.heap.size w).alloc (Nat.le_refl _) _)).trans (HB.out.mono (by simp)))
  exact ((((h0.setCell (p := ⟨b, k, none⟩) (fun _ => rfl) _).setCell (p := ⟨w.heap.size, 0, none⟩) (fun h => absurd h (Nat.lt_irrefl _)) _).setCell (p := ⟨w.heap.size, 1, none⟩) (fun h => absurd h (Nat.lt_irrefl _)) _).setCell (p := ⟨w.heap.size, 2, none⟩) (fun h => absurd h (Nat.lt_irrefl _)) _).alloc _

theorem rclose_none (I : Nat → Bool) (F : Nat → Int × Int × Int) (b : Nat) (fd : Int) (w : World) (ht : RTab w b I F) (hx : rlook I fd = false) :
  Calls Tryz.prog 79 #[.pointer (some ⟨b, 0, none⟩), .int .i64 fd] w fun e w' => e = .returned (.tuple #[.agg #[.int .i64 0, .int .i64 0, .int .i64 0], .int .i64 46]) ∧ Below w.heap.size w w' := by
 have hF := Lib.hid fun W (h : RTab W b I F) => rget_none I F b fd W h hx
 have HT := Lib.hid ht
 clear ht hx
 go_enter Tryz.func79, Tryz.ntmps79
 go_wp2_with fail
 refine (hF.out _ (HT.out.alloc _)).mono ?_
 rintro e w1 ⟨rfl, hb1⟩
 have hs1 := hb1.size
 simp at hs1
 have r0 := hb1.cell (p := ⟨w.heap.size, 0, none⟩) (by simp)
 have r1 := hb1.cell (p := ⟨w.heap.size, 1, none⟩) (by simp)
 have r2 := hb1.cell (p := ⟨w.heap.size, 2, none⟩) (by simp)
 have q0 := hb1.frozen (p := ⟨w.heap.size, 0, none⟩) (by simp)
 have q1 := hb1.frozen (p := ⟨w.heap.size, 1, none⟩) (by simp)
 have q2 := hb1.frozen (p := ⟨w.heap.size, 2, none⟩) (by simp)
 simp [go_sem] at r0 r1 r2 q0 q1 q2
 have HB := Lib.hid hb1
 clear hb1
 have hl2 : w.heap.size < w1.heap.size := by omega
 clear hs1
 go_wp2_with fail
 refine bodyPost_ret (v := .tuple #[.agg #[.int .i64 0, .int .i64 0, .int .i64 0], .int .i64 46]) (by simp [results, Tryz.results79, go_sem, hl2, r0, r1, r2]) rfl ⟨rfl, ?_⟩
 have h0 : Turn (fun _ => False) w w1 := Turn.of_below ((((Below.refl w.heap.size w).alloc (Nat.le_refl _) _)).trans (HB.out.mono (by simp)))
 exact ((((h0.setCell (p := ⟨w.heap.size, 0, none⟩) (fun h => absurd h (Nat.lt_irrefl _)) _).setCell (p := ⟨w.heap.size, 1, none⟩) (fun h => absurd h (Nat.lt_irrefl _)) _).setCell (p := ⟨w.heap.size, 2, none⟩) (fun h => absurd h (Nat.lt_irrefl _)) _).alloc _).below_none

theorem rseek_some (I : Nat → Bool) (F : Nat → Int × Int × Int) (b k : Nat) (pos : Int) (w : World) (ht : RTab w b I F) (hk : k < 8) (hi : I k = true) (hp : 0 ≤ pos) :
  Calls Tryz.prog 81 #[.pointer (some ⟨b, 0, none⟩), .int .i64 k, .int .i64 pos] w fun e w' => e = .returned (.int .i64 0) ∧ RTab w' b I (put F k ((F k).1, pos, (F k).2.2)) ∧ Turn (· = b) w w' := by
 have hF := Lib.hid fun W (h : RTab W b I F) => rget_some I F b k W h hk hi
 have HT := Lib.hid ht
 clear ht hi
 go_enter Tryz.func81, Tryz.ntmps81
 go_wp2_with fail
 refine (hF.out _ HT.out).mono ?_
 rintro e w1 ⟨rfl, hb1⟩
 have HT1 := Lib.hid (HT.out.below hb1)
 have HB := Lib.hid hb1
 have hl := HT1.out.lt
 obtain ⟨f0, f1, f2⟩ := HT1.out.fCell hk
 have g2 := HT1.out.free (8 + k * 3 + 1)
 clear hb1 f0 f2
 go_wp2_with fail
 go_ret
 exact ⟨rfl, (HT1.out.setPos hk pos).alloc _, ((Turn.of_below (S := (· = b)) HB.out).setCell (p := ⟨b, 8 + k * 3 + 1, none⟩) (fun _ => rfl) _).alloc _⟩

theorem rseek_arg (I : Nat → Bool) (F : Nat → Int × Int × Int) (b k : Nat) (pos : Int) (w : World) (ht : RTab w b I F) (hk : k < 8) (hi : I k = true) (hp : pos < 0) :
  Calls Tryz.prog 81 #[.pointer (some ⟨b, 0, none⟩), .int .i64 k, .int .i64 pos] w fun e w' => e = .returned (.int .i64 2) ∧ Below w.heap.size w w' := by
 have hF := Lib.hid fun W (h : RTab W b I F) => rget_some I F b k W h hk hi
 have HT := Lib.hid ht
 clear ht hi
 go_enter Tryz.func81, Tryz.ntmps81
 go_wp2_with fail
 refine (hF.out _ HT.out).mono ?_
 rintro e w1 ⟨rfl, hb1⟩
 have HB := Lib.hid hb1
 clear hb1
 go_wp2_with fail
 go_ret
 exact ⟨rfl, HB.out.alloc HB.out.size _⟩

theorem rseek_none (I : Nat → Bool) (F : Nat → Int × Int × Int) (b : Nat) (fd pos : Int) (w : World) (ht : RTab w b I F) (hx : rlook I fd = false) :
  Calls Tryz.prog 81 #[.pointer (some ⟨b, 0, none⟩), .int .i64 fd, .int .i64 pos] w fun e w' => e = .returned (.int .i64 46) ∧ Below w.heap.size w w' := by
 have hF := Lib.hid fun W (h : RTab W b I F) => rget_none I F b fd W h hx
 have HT := Lib.hid ht
 clear ht hx
 go_enter Tryz.func81, Tryz.ntmps81
 go_wp2_with fail
 refine (hF.out _ HT.out).mono ?_
 rintro e w1 ⟨rfl, hb1⟩
 have HB := Lib.hid hb1
 clear hb1
 go_wp2_with fail
 go_ret
 exact ⟨rfl, HB.out.alloc HB.out.size _⟩

def rusedTo (I : Nat → Bool) (k : Nat) : List Int := ((List.range k).filter I).map fun (i : Nat) => (i : Int)
theorem rusedTo_succ (I : Nat → Bool) (k : Nat) : rusedTo I (k + 1) = rusedTo I k ++ if I k then [(k : Int)] else [] := by
 unfold rusedTo
 rw [List.range_succ, List.filter_append, List.map_append]
 congr 1
 by_cases h : I k <;> simp [h]
theorem rusedTo_len (I : Nat → Bool) (k : Nat) : (rusedTo I k).length ≤ k := by
 unfold rusedTo
 rw [List.length_map]
 exact Nat.le_trans (List.length_filter_le _ _) (by simp)

theorem rused_any (I : Nat → Bool) (F : Nat → Int × Int × Int) (b : Nat) (w : World) (ht : RTab w b I F) :
  Calls Tryz.prog 22 #[.pointer (some ⟨b, 0, none⟩)] w fun e w' => ∃ v, e = .returned v ∧ w'.ownsRow w.heap.size 3 1 v (rusedTo I 8).length ((rusedTo I 8).map (Value.int .i64)) ∧ Below w.heap.size w w' := by
 obtain ⟨i0, hi0, hz0, hz1, hz2⟩ := info_parts info3
 have HT := Lib.hid ht
 clear ht
 go_enter Tryz.func22, Tryz.ntmps22
 go_wp2
 go_loopw [3, 4] (fun v i wr => ∃ k : Nat, k ≤ 8 ∧ i = .int .i64 k ∧ wr.ownsRow w.heap.size 3 1 v (rusedTo I k).length ((rusedTo I k).map (Value.int .i64)) ∧ Below w.heap.size w wr) (fun _ i _ => 8 - (intOf i).toNat)
 case atStart => exact ⟨0, by omega, rfl, World.ownsRow_made w #[] 0 (Nat.le_refl _) (Nat.zero_le _) rfl, (Below.refl _ _).alloc (Nat.le_refl _) _⟩
 case round =>
  obtain ⟨k, hk, rfl, hown, hbel⟩ := hrel
  by_cases hlt : k < 8
  ·have hlen := rusedTo_len I k
   have hsz := hbel.size
   have c := (HT.out.below hbel).inCell hlt
   have HS := Lib.hid (rusedTo_succ I k)
   have HO := Lib.hid hown
   have HB := Lib.hid hbel
   clear hown hbel
   cases hI : I k
   ·rw [hI] at c
    have HI := Lib.hid hI
    clear hI
    go_wp2
    go_roundw
    case rel => exact ⟨k + 1, by omega, by go_num, by rw [HS.out, HI.out]; simpa using HO.out, HB.out⟩
    case measure => simp [intOf]; omega
   ·rw [hI] at c
    have HI := Lib.hid hI
    clear hI
    go_wp2_with (at_builtin; refine wpList_append_own _ rfl (.tmp 16) (.tmp 18) 62 rfl w.heap.size 3 i0 (.int .i64 0) 1 8 Tryz.underlying62 hi0 hz0 hz1 hz2 rfl (by decide) _ _ _ rfl (HO.out.alloc _) ⟨wr.heap.size, 0, none⟩ 1 1 [.int .i64 k] rfl rfl ?c1 ?c2 ?c3 ?c4 ?c5 ?_)
    case c1 => exact one_new _ _ _
    case c2 => simp [Value.oneCell']
    case c3 => simp only [maxLen]; omega
    case c4 => omega
    case c5 => simp; omega
    intro v' w1 hown1 hgrow1 _
    have hown2 : w1.ownsRow w.heap.size 3 1 v' (rusedTo I (k + 1)).length ((rusedTo I (k + 1)).map (Value.int .i64)) := by
     rw [HS.out, HI.out]; simpa using hown1
    have hbel2 : Below w.heap.size w w1 := (HB.out.alloc HB.out.size _).grown hgrow1 (by simp; omega) (fun j hj => (HO.out.lt j hj).1)
    clear hgrow1 hown1
    go_wp2
    go_roundw
    case rel => exact ⟨k + 1, by omega, by go_num, hown2, hbel2⟩
    case measure => simp [intOf]; omega
  ·obtain rfl : k = 8 := by omega
   have HO := Lib.hid hown
   have HB := Lib.hid hbel
   clear hown hbel
   go_wp2
   go_ret
   exact ⟨_, rfl, HO.out, HB.out⟩

def rcountTo (I : Nat → Bool) (F : Nat → Int × Int × Int) (ino : Int) (k : Nat) : Nat := ((List.range k).filter fun i => I i && decide ((F i).1 = ino)).length
theorem rcountTo_le (I : Nat → Bool) (F : Nat → Int × Int × Int) (ino : Int) (k : Nat) : rcountTo I F ino k ≤ k :=
 Nat.le_trans (List.length_filter_le _ _) (by simp)
theorem rcountTo_succ (I : Nat → Bool) (F : Nat → Int × Int × Int) (ino : Int) (k : Nat) :
  rcountTo I F ino (k + 1) = rcountTo I F ino k + if I k && decide ((F k).1 = ino) then 1 else 0 := by
 unfold rcountTo
 rw [List.range_succ, List.filter_append, List.length_append]
 congr 1
 by_cases h : (I k && decide ((F k).1 = ino)) = true
 ·simp [h]
 ·simp [h]

theorem rcount_any (I : Nat → Bool) (F : Nat → Int × Int × Int) (b : Nat) (ino : Int) (w : World) (ht : RTab w b I F) :
  Calls Tryz.prog 106 #[.pointer (some ⟨b, 0, none⟩), .int .i64 ino] w fun e w' => e = .returned (.int .i64 (rcountTo I F ino 8)) ∧ w = w' := by
 have HT := Lib.hid ht
 clear ht
 go_enter Tryz.func106, Tryz.ntmps106
 go_wp2
 go_loop [5, 6] (fun n i => ∃ k : Nat, k ≤ 8 ∧ i = .int .i64 k ∧ n = .int .i64 (rcountTo I F ino k : Nat)) (fun _ i => 8 - (intOf i).toNat)
 case atStart => exact ⟨0, Nat.zero_le _, rfl, rfl⟩
 case round =>
  obtain ⟨k, hk, rfl, rfl⟩ := hrel
  have hcl := rcountTo_le I F ino k
  by_cases hlt : k < 8
  ·have c := HT.out.inCell hlt
   obtain ⟨f0, f1, f2⟩ := HT.out.fCell hlt
   have HS := Lib.hid (rcountTo_succ I F ino k)
   clear f1 f2
   cases hI : I k
   ·rw [hI] at c
    have HI := Lib.hid hI
    clear hI
    go_wp2
    go_round
    case rel => exact ⟨k + 1, by omega, by go_num, by rw [HS.out, HI.out]; rfl⟩
    case measure => simp [intOf]; omega
   ·rw [hI] at c
    have HI := Lib.hid hI
    clear hI
    by_cases he : (F k).1 = ino
    ·have ht1 : ((F k).1 == ino) = true := by simp [he]
     have HE := Lib.hid he
     clear he
     go_wp2
     go_round
     case rel => exact ⟨k + 1, by omega, by go_num, by rw [HS.out, HI.out, HE.out]; simp⟩
     case measure => simp [intOf]; omega
    ·have ht1 : ((F k).1 == ino) = false := by simp [he]
     have HE := Lib.hid he
     clear he
     go_wp2
     go_round
     case rel => exact ⟨k + 1, by omega, by go_num, by rw [HS.out, HI.out]; simp [HE.out]⟩
     case measure => simp [intOf]; omega
  ·obtain rfl : k = 8 := by omega
   go_wp2
   go_ret
   exact ⟨rfl, rfl⟩
end Go.Proofs.YtpkhglfhpggceaaGreatDoor
