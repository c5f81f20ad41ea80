/- What package fds does to memory: each function's contract over a table that is known whole. -/
import Derived.Test.YtpkhglfhpggceaaGreatDoorRows
import Derived.Test.YtpkhglfhpggceaaGreatDoorCheck
import Derived.Test.YtpkhglfhpggceaaGreatDoorBase
namespace Go.Proofs.YtpkhglfhpggceaaGreatDoor
set_option maxRecDepth 100000
set_option maxHeartbeats 16000000
open Go.RowKit

/-- A place's file: its block, its inode, position and mode. -/
abbrev FileT := Nat × Int × Int × Int
def ptrOf (o : Option FileT) : Option Addr := o.map fun x => ⟨x.1, 0, none⟩
theorem idx50 (T : Nat → Option FileT) (k : Nat) (h : k < 8) (w : World) :
  (Instr.index 94 (.agg #[.pointer (ptrOf (T 0)), .pointer (ptrOf (T 1)), .pointer (ptrOf (T 2)), .pointer (ptrOf (T 3)), .pointer (ptrOf (T 4)), .pointer (ptrOf (T 5)), .pointer (ptrOf (T 6)), .pointer (ptrOf (T 7))]) (.int .i64 k)).run Tryz.prog w = .ok (.pointer (ptrOf (T k))) w := by
 rcases k with _|_|_|_|_|_|_|_|k
 all_goals first | omega | rfl

structure Tab (w : World) (b : Nat) (T : Nat → Option FileT) : Prop where
 tab : Blk w b 96 #[.pointer (ptrOf (T 0)), .pointer (ptrOf (T 1)), .pointer (ptrOf (T 2)), .pointer (ptrOf (T 3)), .pointer (ptrOf (T 4)), .pointer (ptrOf (T 5)), .pointer (ptrOf (T 6)), .pointer (ptrOf (T 7))]
 file : ∀ i, i < 8 → ∀ x, T i = some x → Blk w x.1 116 #[.int .i64 x.2.1, .int .i64 x.2.2.1, .int .i64 x.2.2.2]
 inj : ∀ i j x y, i < 8 → j < 8 → T i = some x → T j = some y → x.1 = y.1 → i = j

/-- A block of a table. -/
def foot (b : Nat) (T : Nat → Option FileT) (k : Nat) : Prop := k = b ∨ ∃ i x, i < 8 ∧ T i = some x ∧ x.1 = k
def put {α : Type} (T : Nat → α) (k : Nat) (v : α) : Nat → α := fun i => if i = k then v else T i
def look (T : Nat → Option FileT) (fd : Int) : Option FileT := if 0 ≤ fd ∧ fd < 8 then T fd.toNat else none

theorem look_some {T : Nat → Option FileT} {fd : Int} {x : FileT} (h : look T fd = some x) : ∃ k : Nat, fd = k ∧ k < 8 ∧ T k = some x := by
 unfold look at h
 split at h
 ·exact ⟨fd.toNat, by omega, by omega, h⟩
 ·cases h
theorem look_none {T : Nat → Option FileT} {fd : Int} (h : look T fd = none) : fd < 0 ∨ 8 ≤ fd ∨ ∃ k : Nat, fd = k ∧ k < 8 ∧ T k = none := by
 unfold look at h
 split at h
 ·exact .inr (.inr ⟨fd.toNat, by omega, by omega, h⟩)
 ·omega
theorem look_nat {T : Nat → Option FileT} {k : Nat} (h : k < 8) : look T k = T k := by
 unfold look; rw [if_pos (by omega)]; rfl

section
variable {w w' : World} {b : Nat} {T : Nat → Option FileT}
theorem Tab.cell (h : Tab w b T) {i : Nat} (hi : i < 8) : w.cell? ⟨b, i, none⟩ = some (.pointer (ptrOf (T i))) := by
 rw [h.tab.cell]
 rcases i with _|_|_|_|_|_|_|_|i
 all_goals first | omega | rfl
theorem Tab.free (h : Tab w b T) (i : Nat) : w.frozen? ⟨b, i, none⟩ = false := h.tab.frozen i
theorem Tab.keep (h : Tab w b T) (hk : ∀ k, foot b T k → w'.heap[k]? = w.heap[k]?) : Tab w' b T :=
 ⟨h.tab.keep (hk b (.inl rfl)), fun i hi x hx => (h.file i hi x hx).keep (hk _ (.inr ⟨i, x, hi, hx, rfl⟩)), h.inj⟩
theorem Tab.lt (h : Tab w b T) {k : Nat} (hk : foot b T k) : k < w.heap.size := by
 rcases hk with rfl | ⟨i, x, hi, hx, rfl⟩
 ·exact h.tab.lt
 ·exact (h.file i hi x hx).lt
theorem Tab.turn {S : Nat → Prop} (h : Tab w b T) (ht : Turn S w w') (hs : ∀ k, foot b T k → ¬ S k) : Tab w' b T :=
 h.keep fun k hk => ht.block k (h.lt hk) (hs k hk)
theorem Tab.below (h : Tab w b T) (ht : Below w.heap.size w w') : Tab w' b T := h.keep fun k hk => ht.block k (h.lt hk)
theorem Tab.drew (h : Tab w b T) : Tab w.drew b T := h.keep fun _ _ => rfl
theorem Tab.drewN (h : Tab w b T) (n : Nat) : Tab (w.drewN n) b T := h.keep fun _ _ => rfl
theorem Tab.alloc (h : Tab w b T) (o : Obj) : Tab (w.alloc o) b T := h.keep fun k hk => Below.heap_alloc w o k (h.lt hk)
theorem Tab.ne (h : Tab w b T) {i : Nat} (hi : i < 8) {x : FileT} (hx : T i = some x) : x.1 ≠ b := (h.file i hi x hx).ne_ h.tab (by decide)
theorem tab_cells (T : Nat → Option FileT) {k : Nat} (hk : k < 8) (v : Option FileT) :
  (#[Value.pointer (ptrOf (T 0)), .pointer (ptrOf (T 1)), .pointer (ptrOf (T 2)), .pointer (ptrOf (T 3)), .pointer (ptrOf (T 4)), .pointer (ptrOf (T 5)), .pointer (ptrOf (T 6)), .pointer (ptrOf (T 7))]).setIfInBounds k (.pointer (ptrOf v)) =
  #[.pointer (ptrOf (put T k v 0)), .pointer (ptrOf (put T k v 1)), .pointer (ptrOf (put T k v 2)), .pointer (ptrOf (put T k v 3)), .pointer (ptrOf (put T k v 4)), .pointer (ptrOf (put T k v 5)), .pointer (ptrOf (put T k v 6)), .pointer (ptrOf (put T k v 7))] := by
 rcases k with _|_|_|_|_|_|_|_|k
 all_goals first | omega | rfl
theorem Tab.far (h : Tab w b T) {p : Addr} (hp : ¬ foot b T p.block) (u : Value) : Tab (w.setCell p u) b T :=
 h.keep fun k hk => Below.heap_setCell w p u k fun e => hp (e ▸ hk)
theorem foot_put_none {k j : Nat} (h : foot b (put T k none) j) : foot b T j := by
 rcases h with h | ⟨i, x, hi, hx, e⟩
 ·exact .inl h
 ·unfold put at hx
  split at hx
  ·cases hx
  ·exact .inr ⟨i, x, hi, hx, e⟩
/-- A file comes, in a new block. -/
theorem Tab.opened (h : Tab w b T) {k : Nat} (hk : k < 8) (ino pos mode : Int) :
  Tab ((w.setCell ⟨b, k, none⟩ (.pointer (some ⟨w.heap.size, 0, none⟩))).alloc (.cells #[.int .i64 ino, .int .i64 pos, .int .i64 mode] 116)) b (put T k (some (w.heap.size, ino, pos, mode))) := by
 have hs : (w.setCell ⟨b, k, none⟩ (.pointer (some ⟨w.heap.size, 0, none⟩))).heap.size = w.heap.size := by simp [World.setCell]
 refine ⟨?_, fun i hi x hx => ?_, fun i j x y hi hj hx hy e => ?_⟩
 ·have h1 := (h.tab.set_ k (.pointer (ptrOf (some (w.heap.size, ino, pos, mode))))).alloc (.cells #[.int .i64 ino, .int .i64 pos, .int .i64 mode] 116)
  rw [tab_cells T hk] at h1
  exact h1
 ·unfold put at hx
  split at hx
  ·injection hx with hx
   subst hx
   have h1 := Blk.new (w.setCell ⟨b, k, none⟩ (.pointer (some ⟨w.heap.size, 0, none⟩))) 116 #[.int .i64 ino, .int .i64 pos, .int .i64 mode]
   rw [hs] at h1
   exact h1
  ·exact ((h.file i hi x hx).far (p := ⟨b, k, none⟩) (h.ne hi hx) _).alloc _
 ·unfold put at hx hy
  have lt1 : ∀ i x, i < 8 → T i = some x → x.1 < w.heap.size := fun i x hi hx => (h.file i hi x hx).lt
  split at hx <;> split at hy
  ·omega
  ·injection hx with hx
   subst hx
   have := lt1 j y hj hy
   simp only at e
   omega
  ·injection hy with hy
   subst hy
   have := lt1 i x hi hx
   simp only at e
   omega
  ·exact h.inj i j x y hi hj hx hy e
/-- A file goes. -/
theorem Tab.closed (h : Tab w b T) {k : Nat} (hk : k < 8) : Tab (w.setCell ⟨b, k, none⟩ (.pointer none)) b (put T k none) := by
 refine ⟨?_, fun i hi x hx => ?_, fun i j x y hi hj hx hy e => ?_⟩
 ·have h1 := h.tab.set_ k (.pointer (ptrOf none))
  rw [tab_cells T hk] at h1
  exact h1
 ·unfold put at hx
  split at hx
  ·cases hx
  ·exact (h.file i hi x hx).far (p := ⟨b, k, none⟩) (h.ne hi hx) _
 ·unfold put at hx hy
  split at hx
  ·cases hx
  ·split at hy
   ·cases hy
   ·exact h.inj i j x y hi hj hx hy e
/-- A file's position turns. -/
theorem Tab.sought (h : Tab w b T) {k : Nat} (hk : k < 8) {x : FileT} (hx : T k = some x) (pos : Int) :
  Tab (w.setCell ⟨x.1, 1, none⟩ (.int .i64 pos)) b (put T k (some (x.1, x.2.1, pos, x.2.2.2))) := by
 have hp : ∀ i, ptrOf (put T k (some (x.1, x.2.1, pos, x.2.2.2)) i) = ptrOf (T i) := by
  intro i
  unfold put
  split
  ·rename_i e; subst e; rw [hx]; rfl
  ·rfl
 refine ⟨?_, fun i hi y hy => ?_, fun i j y z hi hj hy hz e => ?_⟩
 ·have h1 := h.tab.far (p := ⟨x.1, 1, none⟩) (fun e => h.ne hk hx e.symm) (.int .i64 pos)
  simp only [hp]
  exact h1
 ·unfold put at hy
  split at hy
  ·injection hy with hy
   subst hy
   exact (h.file k hk x hx).set_ 1 (.int .i64 pos)
  ·rename_i hne
   exact (h.file i hi y hy).far (p := ⟨x.1, 1, none⟩) (fun e => hne (h.inj i k y x hi hk hy hx e)) _
 ·have q : ∀ i y, i < 8 → put T k (some (x.1, x.2.1, pos, x.2.2.2)) i = some y → ∃ z, T i = some z ∧ z.1 = y.1 := by
   intro i y hi hy
   unfold put at hy
   split at hy
   ·rename_i e; injection hy with hy; subst hy; subst e; exact ⟨x, hx, rfl⟩
   ·exact ⟨y, hy, rfl⟩
  obtain ⟨y', hy', ey⟩ := q i y hi hy
  obtain ⟨z', hz', ez⟩ := q j z hj hz
  exact h.inj i j y' z' hi hj hy' hz' (by omega)
end

/-- fds.New -/
theorem new_any (w : World) : Calls Tryz.prog 24 #[] w fun e w' => e = .returned (.pointer (some ⟨w.heap.size, 0, none⟩)) ∧ Tab w' w.heap.size (fun _ => none) ∧ Below w.heap.size w w' := by
 go_enter Tryz.func24, Tryz.ntmps24
 go_wp2
 go_ret
 exact ⟨rfl, ⟨Blk.new w 96 _, fun i hi x hx => (by cases hx), fun i j x y hi hj hx => (by cases hx)⟩, (Below.refl _ _).alloc (Nat.le_refl _) _⟩

def OpenPost (T : Nat → Option FileT) (b : Nat) (ino mode : Int) (w : World) (e : Ending) (w' : World) : Prop :=
 (∃ k : Nat, k < 8 ∧ T k = none ∧ (∀ j, j < k → T j ≠ none) ∧ e = .returned (.tuple #[.int .i64 k, .int .i64 0]) ∧
   Tab w' b (put T k (some (w.heap.size, ino, 0, mode))) ∧ Turn (· = b) w w') ∨
 ((∀ j, j < 8 → T j ≠ none) ∧ e = .returned (.tuple #[.int .i64 0, .int .i64 47]) ∧ w = w')

theorem open_any (T : Nat → Option FileT) (b : Nat) (ino mode : Int) (w : World) (ht : Tab w b T) :
  Calls Tryz.prog 63 #[.pointer (some ⟨b, 0, none⟩), .int .i64 ino, .int .i64 mode] w (OpenPost T b ino mode w) := by
 have c0 := ht.cell (i := 0) (by omega)
 have c1 := ht.cell (i := 1) (by omega)
 have c2 := ht.cell (i := 2) (by omega)
 have c3 := ht.cell (i := 3) (by omega)
 have c4 := ht.cell (i := 4) (by omega)
 have c5 := ht.cell (i := 5) (by omega)
 have c6 := ht.cell (i := 6) (by omega)
 have c7 := ht.cell (i := 7) (by omega)
 have HT := Lib.hid ht
 have hb := ht.tab.lt
 clear ht
 go_enter Tryz.func63, Tryz.ntmps63
 go_wp2
 go_loop [16] (fun i => ∃ k : Nat, k ≤ 8 ∧ i = .int .i64 k ∧ Hid (∀ j, j < k → T j ≠ none)) (fun i => 8 - (intOf i).toNat)
 case atStart => exact ⟨0, by omega, rfl, fun j hj => by omega⟩
 case round =>
  clear c0 c1 c2 c3 c4 c5 c6 c7
  obtain ⟨k, hk, rfl, hT⟩ := hrel
  by_cases hlt : k < 8
  ·have hidx := idx50 T k hlt
   have hck := HT.out.cell hlt
   have hfk := HT.out.free k
   rcases hTk : T k with _ | x
   ·rw [hTk] at hidx hck
    have e1 : ptrOf none = none := rfl
    rw [e1] at hidx hck
    have hfin : OpenPost T b ino mode w (.returned (.tuple #[.int .i64 k, .int .i64 0])) ((w.setCell ⟨b, k, none⟩ (.pointer (some ⟨w.heap.size, 0, none⟩))).alloc (.cells #[.int .i64 ino, .int .i64 0, .int .i64 mode] 116)) :=
     .inl ⟨k, hlt, hTk, hT.out, rfl, HT.out.opened hlt ino 0 mode, ((Turn.refl (· = b) w).setCell (p := ⟨b, k, none⟩) (fun _ => rfl) _).alloc _⟩
    have HFIN := Lib.hid hfin
    clear hTk e1 hfin
    go_wp2
    go_ret2
    exact HFIN.out
   ·rw [hTk] at hidx
    have HTk := Lib.hid hTk
    clear hTk
    have e1 : ptrOf (some x) = some ⟨x.1, 0, none⟩ := rfl
    rw [e1] at hidx
    clear e1
    go_wp2
    go_round
    case rel => exact ⟨k + 1, by omega, by go_num, fun j hj => by
     rcases Nat.lt_succ_iff_lt_or_eq.1 hj with h | rfl
     ·exact hT.out j h
     ·rw [HTk.out]; simp⟩
    case measure => simp [intOf]; omega
  ·obtain rfl : k = 8 := by omega
   go_wp2
   go_ret2
   exact .inr ⟨hT.out, rfl, rfl⟩

theorem find_some (T : Nat → Option FileT) (b k : Nat) (x : FileT) (w : World) (ht : Tab w b T) (hk : k < 8) (hx : T k = some x) :
  Calls Tryz.prog 102 #[.pointer (some ⟨b, 0, none⟩), .int .i64 k] w fun e w' => e = .returned (.tuple #[.pointer (some ⟨x.1, 0, none⟩), .int .i64 0]) ∧ w = w' := by
 have hc := ht.cell hk
 rw [hx] at hc
 have e1 : ptrOf (some x) = some ⟨x.1, 0, none⟩ := rfl
 rw [e1] at hc
 clear e1 hx ht
 go_enter Tryz.func102, Tryz.ntmps102
 go_wp2
 go_ret2
 exact ⟨rfl, rfl⟩

theorem find_none (T : Nat → Option FileT) (b : Nat) (fd : Int) (w : World) (ht : Tab w b T) (hx : look T fd = none) :
  Calls Tryz.prog 102 #[.pointer (some ⟨b, 0, none⟩), .int .i64 fd] w fun e w' => e = .returned (.tuple #[.pointer none, .int .i64 46]) ∧ w = w' := by
 rcases look_none hx with h | h | ⟨k, rfl, hk, hx⟩
 ·clear hx
  go_enter Tryz.func102, Tryz.ntmps102
  go_wp2
  go_ret2
  exact ⟨rfl, rfl⟩
 ·clear hx
  go_enter Tryz.func102, Tryz.ntmps102
  go_wp2
  go_ret2
  exact ⟨rfl, rfl⟩
 ·have hc := ht.cell hk
  rw [hx] at hc
  have e1 : ptrOf none = none := rfl
  rw [e1] at hc
  clear e1 hx ht
  go_enter Tryz.func102, Tryz.ntmps102
  go_wp2
  go_ret2
  exact ⟨rfl, rfl⟩
end Go.Proofs.YtpkhglfhpggceaaGreatDoor
