/- The table of package fds and the reference's hold the same: what each call does to both. Plain. The reference's memory: its block, its row of nodes, each node's bytes and names, its table. What the reference does to memory: find, walk, Walk, parent. What the reference does to memory: put. What the reference does to memory: more. What the reference does to memory: more, gone, less. What the reference does to memory: cut, failed. What the reference's acts hold of their own; their answers; its table, seen from it. -/
import Derived.Test.YtpkhglfhpggceaaGreatDoorRef
import Derived.Test.YtpkhglfhpggceaaGreatDoorTdo
import Derived.Test.YtpkhglfhpggceaaGreatDoorRsplit
import Derived.Test.YtpkhglfhpggceaaGreatDoorLast
import Derived.Laws.OwnMore
import Derived.Sort.Walk0
import Derived.Deep.AppendLies
import Derived.Laws.AppendOwnNone
import Derived.Maps.AppendAt
namespace Go.Proofs.YtpkhglfhpggceaaGreatDoor
open Go.RowKit

def Sim (T : Nat → Option FileT) (I : Nat → Bool) (F : Nat → Int × Int × Int) : Prop :=
 ∀ i, i < 8 → (T i = none ∧ I i = false) ∨ ∃ x, T i = some x ∧ I i = true ∧ F i = x.2

variable {T : Nat → Option FileT} {I : Nat → Bool} {F : Nat → Int × Int × Int}
theorem Sim.start : Sim (fun _ => none) (fun _ => false) F := fun _ _ => .inl ⟨rfl, rfl⟩
theorem Sim.present (h : Sim T I F) {k : Nat} (hk : k < 8) {x : FileT} (hx : T k = some x) : I k = true ∧ F k = x.2 := by
 rcases h k hk with ⟨h1, _⟩ | ⟨y, h1, h2, h3⟩
 ·rw [hx] at h1; cases h1
 ·rw [hx] at h1; injection h1 with h1; subst h1; exact ⟨h2, h3⟩
theorem Sim.absent (h : Sim T I F) {k : Nat} (hk : k < 8) (hx : T k = none) : I k = false := by
 rcases h k hk with ⟨_, h1⟩ | ⟨y, h1, _⟩
 ·exact h1
 ·rw [hx] at h1; cases h1
theorem Sim.look_none (h : Sim T I F) {fd : Int} (hl : look T fd = none) : rlook I fd = false := by
 unfold rlook
 split
 ·rename_i hr
  refine h.absent (by omega) ?_
  unfold look at hl
  rw [if_pos hr] at hl
  exact hl
 ·rfl
theorem Sim.opened (h : Sim T I F) (k B : Nat) (ino mode : Int) : Sim (put T k (Option.some (B, ino, 0, mode))) (put I k true) (put F k (ino, 0, mode)) := by
 intro i hi
 unfold put
 by_cases e : i = k
 ·rw [if_pos e, if_pos e, if_pos e]; exact .inr ⟨_, rfl, rfl, rfl⟩
 ·rw [if_neg e, if_neg e, if_neg e]; exact h i hi
theorem Sim.closed (h : Sim T I F) (k : Nat) : Sim (put T k Option.none) (put I k false) F := by
 intro i hi
 unfold put
 by_cases e : i = k
 ·rw [if_pos e, if_pos e]; exact .inl ⟨rfl, rfl⟩
 ·rw [if_neg e, if_neg e]; exact h i hi
theorem Sim.sought (h : Sim T I F) {k : Nat} (hk : k < 8) {x : FileT} (hx : T k = Option.some x) (pos : Int) : Sim (put T k (Option.some (x.1, x.2.1, pos, x.2.2.2))) I (put F k ((F k).1, pos, (F k).2.2)) := by
 obtain ⟨h1, h2⟩ := h.present hk hx
 intro i hi
 unfold put
 by_cases e : i = k
 ·rw [if_pos e, if_pos e, e]; exact .inr ⟨_, rfl, h1, by rw [h2]⟩
 ·rw [if_neg e, if_neg e]; exact h i hi
theorem Sim.copied {T' : Nat → Option FileT} (h : Sim T I F) (hc : ∀ i, i < 8 → (T' i).map (·.2) = (T i).map (·.2)) : Sim T' I F := by
 intro i hi
 have hc := hc i hi
 rcases h i hi with ⟨h1, h2⟩ | ⟨x, h1, h2, h3⟩
 ·rw [h1] at hc
  cases hT : T' i with
  | none => exact .inl ⟨rfl, h2⟩
  | some y => rw [hT] at hc; cases hc
 ·rw [h1] at hc
  cases hT : T' i with
  | none => rw [hT] at hc; cases hc
  | some y => rw [hT] at hc; simp at hc; exact .inr ⟨y, rfl, h2, by rw [h3, hc]⟩
theorem Sim.used (h : Sim T I F) : usedTo T 8 = rusedTo I 8 := by
 unfold usedTo rusedTo
 congr 1
 refine List.filter_congr fun i hi => ?_
 rcases h i (List.mem_range.1 hi) with ⟨h1, h2⟩ | ⟨x, h1, h2, _⟩
 ·rw [h1, h2]; rfl
 ·rw [h1, h2]; rfl
theorem Sim.counted (h : Sim T I F) (ino : Int) : countTo T ino (usedTo T 8).length = rcountTo I F ino 8 := by
 unfold countTo rcountTo
 rw [List.take_length]
 unfold usedTo
 rw [List.filter_map, List.length_map, List.filter_filter]
 congr 1
 refine List.filter_congr fun i hi => ?_
 have hi8 := List.mem_range.1 hi
 have e : (hasIno T ino ∘ fun (i : Nat) => (i : Int)) i = hasIno T ino (i : Int) := rfl
 rw [e]
 unfold hasIno
 rw [look_nat hi8]
 rcases h i hi8 with ⟨h1, h2⟩ | ⟨x, h1, h2, h3⟩
 ·rw [h1, h2]; rfl
 ·rw [h1, h2, h3]; simp
end Go.Proofs.YtpkhglfhpggceaaGreatDoor
namespace Go.Proofs.YtpkhglfhpggceaaGreatDoor
open Go.RowKit
set_option linter.unusedVariables false
set_option linter.unusedSimpArgs false

/-- A slice of entries that reads as names. -/
def Ent (w : World) (v : Value) (l : Names) : Prop :=
 (v = .slice none 0 0 ∧ l = []) ∨ ∃ g c, v = .slice (some ⟨g, 0, none⟩) l.length c ∧ l.length ≤ c ∧ c ≤ maxLen ∧ g < w.heap.size ∧ ∀ i p, l[i]? = some p → w.cell? ⟨g, i * 2, none⟩ = some (.int .i64 (p.2 : Nat)) ∧ w.cell? ⟨g, i * 2 + 1, none⟩ = some (.string p.1)
/-- The block of a slice lies in S. -/
def At (S : Nat → Prop) (v : Value) : Prop := ∀ g o n c, v = .slice (some ⟨g, o, none⟩) n c → S g
section
variable {w w' : World} {v : Value} {l : Names} {S : Nat → Prop}
theorem Ent.nil (w : World) : Ent w (.slice none 0 0) [] := .inl ⟨rfl, rfl⟩
theorem At.nil (S : Nat → Prop) : At S (.slice none 0 0) := fun g o n c h => by cases h
theorem At.mono {S' : Nat → Prop} (h : At S v) (hs : ∀ j, S j → S' j) : At S' v := fun g o n c e => hs g (h g o n c e)
theorem Ent.turn (h : Ent w v l) (hT : Turn S w w') (hS : At (fun j => ¬ S j) v) : Ent w' v l := by
 rcases h with ⟨rfl, rfl⟩ | ⟨g, c, rfl, h1, h2, h3, h4⟩
 ·exact .inl ⟨rfl, rfl⟩
 ·have hg := hT.block g h3 (hS g 0 _ c rfl)
  exact .inr ⟨g, c, rfl, h1, h2, Nat.lt_of_lt_of_le h3 hT.size, fun i p hi => ⟨(World.cell?_of_block (a := ⟨g, i * 2, none⟩) hg).trans (h4 i p hi).1, (World.cell?_of_block (a := ⟨g, i * 2 + 1, none⟩) hg).trans (h4 i p hi).2⟩⟩
theorem Ent.shape (h : Ent w v l) : ∃ A c, v = .slice A l.length c := by
 rcases h with ⟨rfl, rfl⟩ | ⟨g, c, rfl, _⟩
 ·exact ⟨none, 0, rfl⟩
 ·exact ⟨_, c, rfl⟩
theorem Bs.turn' {l : List UInt8} (h : Bs w v l) (hT : Turn S w w') (hS : At (fun j => ¬ S j) v) : Bs w' v l := h.turn hT hS
end

structure RMem where
 g : Nat
 cap : Nat
 fb : Nat
 dv : Nat → Value
 nv : Nat → Value
 I : Nat → Bool
 T : Nat → Int × Int × Int
/-- The blocks of a reference tree that are written. -/
def RMem.own (R : RMem) (y : Nat) (j : Nat) : Prop := j = y ∨ j = R.g ∨ j = R.fb
def opOf (I : Nat → Bool) (T : Nat → Int × Int × Int) (i : Nat) : Option FT := if I i then some (T i) else none
structure RIs (F : Nat → Prop) (w : World) (y : Nat) (R : RMem) (a : TS) : Prop where
 blk : Blk w y 57 #[.slice (some ⟨R.g, 0, none⟩) (a.last + 1) R.cap, .pointer (some ⟨R.fb, 0, none⟩)]
 row : ∃ cs, Blk w R.g 75 cs ∧ cs.size = R.cap * 4
 fit : a.last + 1 ≤ R.cap
 few : R.cap ≤ maxLen
 cel : ∀ k, k ≤ a.last → w.cell? ⟨R.g, k * 4, none⟩ = some (.int .i64 (a.nd k).kind) ∧ w.cell? ⟨R.g, k * 4 + 1, none⟩ = some (.int .i64 (a.nd k).links) ∧
  w.cell? ⟨R.g, k * 4 + 2, none⟩ = some (R.dv k) ∧ w.cell? ⟨R.g, k * 4 + 3, none⟩ = some (R.nv k)
 dat : ∀ k, k ≤ a.last → Bs w (R.dv k) (a.nd k).data ∧ At (fun j => F j ∧ ¬ R.own y j) (R.dv k)
 nam : ∀ k, k ≤ a.last → Ent w (R.nv k) (a.nd k).names ∧ At (fun j => F j ∧ ¬ R.own y j) (R.nv k)
 tab : RTab w R.fb R.I R.T
 op : ∀ i, i < 8 → a.op i = opOf R.I R.T i
 fo : ∀ j, R.own y j → F j
 lt : ∀ j, F j → j < w.heap.size
 f0 : ¬ F 0
def RSt (F : Nat → Prop) (w : World) (y : Nat) (a : TS) : Prop := ∃ R, RIs F w y R a

section
variable {F S : Nat → Prop} {w w' : World} {y : Nat} {R : RMem} {a : TS}
theorem RIs.turn (h : RIs F w y R a) (hT : Turn S w w') (hS : ∀ j, F j → ¬ S j) : RIs F w' y R a :=
 { h with
  blk := h.blk.turn hT (hS _ (h.fo _ (.inl rfl)))
  row := by obtain ⟨cs, h1, h2⟩ := h.row; exact ⟨cs, h1.turn hT (hS _ (h.fo _ (.inr (.inl rfl)))), h2⟩
  cel := fun k hk => by
   have hg : w'.heap[R.g]? = w.heap[R.g]? := by obtain ⟨cs, h1, h2⟩ := h.row; exact hT.block _ h1.lt (hS _ (h.fo _ (.inr (.inl rfl))))
   obtain ⟨c0, c1, c2, c3⟩ := h.cel k hk
   exact ⟨(World.cell?_of_block (a := ⟨R.g, k * 4, none⟩) hg).trans c0, (World.cell?_of_block (a := ⟨R.g, k * 4 + 1, none⟩) hg).trans c1, (World.cell?_of_block (a := ⟨R.g, k * 4 + 2, none⟩) hg).trans c2, (World.cell?_of_block (a := ⟨R.g, k * 4 + 3, none⟩) hg).trans c3⟩
  dat := fun k hk => ⟨(h.dat k hk).1.turn' hT ((h.dat k hk).2.mono fun j hj => hS j hj.1), (h.dat k hk).2⟩
  nam := fun k hk => ⟨(h.nam k hk).1.turn hT ((h.nam k hk).2.mono fun j hj => hS j hj.1), (h.nam k hk).2⟩
  tab := h.tab.turn hT (hS _ (h.fo _ (.inr (.inr rfl))))
  lt := fun j hj => Nat.lt_of_lt_of_le (h.lt j hj) hT.size }
theorem RIs.below (h : RIs F w y R a) (hb : Below w.heap.size w w') : RIs F w' y R a := h.turn (S := fun _ => False) (Turn.of_below hb) fun _ _ => id
theorem RIs.drew (h : RIs F w y R a) : RIs F w.drew y R a := h.below drew_below
theorem RIs.wide {F' : Nat → Prop} (h : RIs F w y R a) (hF : ∀ j, F j → F' j) (hlt : ∀ j, F' j → j < w.heap.size) (h0 : ¬ F' 0) : RIs F' w y R a :=
 { h with
  dat := fun k hk => ⟨(h.dat k hk).1, (h.dat k hk).2.mono fun j hj => ⟨hF j hj.1, hj.2⟩⟩
  nam := fun k hk => ⟨(h.nam k hk).1, (h.nam k hk).2.mono fun j hj => ⟨hF j hj.1, hj.2⟩⟩
  fo := fun j hj => hF j (h.fo j hj)
  lt := hlt
  f0 := h0 }
theorem RSt.turn (h : RSt F w y a) (hT : Turn S w w') (hS : ∀ j, F j → ¬ S j) : RSt F w' y a := by obtain ⟨R, h⟩ := h; exact ⟨R, h.turn hT hS⟩
theorem RSt.below (h : RSt F w y a) (hb : Below w.heap.size w w') : RSt F w' y a := by obtain ⟨R, h⟩ := h; exact ⟨R, h.below hb⟩
theorem RSt.lt (h : RSt F w y a) : ∀ j, F j → j < w.heap.size := by obtain ⟨R, h⟩ := h; exact h.lt
theorem RIs.w0 (h : RIs F w y R a) : 0 < w.heap.size := Nat.lt_of_le_of_lt (Nat.zero_le _) h.blk.lt
theorem RIs.grown (h : RIs F w y R a) (w0 : World) (hw : 0 < w0.heap.size) : RIs (grow F w0 w) w y R a :=
 h.wide (fun j hj => .inl hj) (fun j hj => by
  rcases hj with hj | hj
  ·exact h.lt j hj
  ·exact hj.2) (fun hj => by
  rcases hj with hj | hj
  ·exact h.f0 hj
  ·omega)
/-- What a walk reads. -/
theorem RIs.cells (h : RIs F w y R a) : w.cell? ⟨y, 0, none⟩ = some (.slice (some ⟨R.g, 0, none⟩) (a.last + 1) R.cap) ∧ w.cell? ⟨y, 1, none⟩ = some (.pointer (some ⟨R.fb, 0, none⟩)) := ⟨h.blk.cell 0, h.blk.cell 1⟩
theorem RIs.frozen (h : RIs F w y R a) (i : Nat) : w.frozen? ⟨R.g, i, none⟩ = false := by obtain ⟨cs, h1, h2⟩ := h.row; exact h1.frozen i
theorem RIs.ne (h : RIs F w y R a) : y ≠ R.g ∧ y ≠ R.fb ∧ R.g ≠ R.fb := by
 obtain ⟨cs, h1, _⟩ := h.row
 obtain ⟨cs2, h2, _⟩ := h.tab.blk
 exact ⟨h.blk.ne_ h1 (by decide), h.blk.ne_ h2 (by decide), h1.ne_ h2 (by decide)⟩

/-- The row turns: another node k. -/
theorem RIs.rowed (h : RIs F w y R a) {F' : Nat → Prop} {k : Nat} (hk : k ≤ a.last) {v : Nd} {dvk nvk : Value} (hT : Turn (· = R.g) w w') (hrow : ∃ cs, Blk w' R.g 75 cs ∧ cs.size = R.cap * 4)
  (hck : w'.cell? ⟨R.g, k * 4, none⟩ = some (.int .i64 v.kind) ∧ w'.cell? ⟨R.g, k * 4 + 1, none⟩ = some (.int .i64 v.links) ∧ w'.cell? ⟨R.g, k * 4 + 2, none⟩ = some dvk ∧ w'.cell? ⟨R.g, k * 4 + 3, none⟩ = some nvk)
  (hother : ∀ i f, i ≠ k → f < 4 → w'.cell? ⟨R.g, i * 4 + f, none⟩ = w.cell? ⟨R.g, i * 4 + f, none⟩)
  (hd : Bs w' dvk v.data ∧ At (fun j => F' j ∧ ¬ R.own y j) dvk) (hn : Ent w' nvk v.names ∧ At (fun j => F' j ∧ ¬ R.own y j) nvk) (hF : ∀ j, F j → F' j) (hlt : ∀ j, F' j → j < w'.heap.size) (h0 : ¬ F' 0) :
  RIs F' w' y { R with dv := setF R.dv k dvk, nv := setF R.nv k nvk } (a.setNd k v) := by
 have hne : ∀ j, (F j ∧ ¬ R.own y j) → ¬ (· = R.g) j := fun j hj e => hj.2 (.inr (.inl e))
 refine ⟨h.blk.turn hT h.ne.1, hrow, h.fit, h.few, fun i hi => ?_, fun i hi => ?_, fun i hi => ?_, h.tab.turn hT h.ne.2.2.symm, h.op, fun j hj => hF j (h.fo j hj), hlt, h0⟩
 ·show w'.cell? ⟨R.g, i * 4, none⟩ = some (.int .i64 (setF a.nd k v i).kind) ∧ w'.cell? ⟨R.g, i * 4 + 1, none⟩ = some (.int .i64 (setF a.nd k v i).links) ∧ w'.cell? ⟨R.g, i * 4 + 2, none⟩ = some (setF R.dv k dvk i) ∧ w'.cell? ⟨R.g, i * 4 + 3, none⟩ = some (setF R.nv k nvk i)
  by_cases e : i = k
  ·subst e
   rw [setF_same, setF_same, setF_same]
   exact hck
  ·rw [setF_other _ _ e, setF_other _ _ e, setF_other _ _ e]
   obtain ⟨c0, c1, c2, c3⟩ := h.cel i hi
   exact ⟨(hother i 0 e (by omega)).trans c0, (hother i 1 e (by omega)).trans c1, (hother i 2 e (by omega)).trans c2, (hother i 3 e (by omega)).trans c3⟩
 ·show Bs w' (setF R.dv k dvk i) (setF a.nd k v i).data ∧ At _ (setF R.dv k dvk i)
  by_cases e : i = k
  ·subst e
   rw [setF_same, setF_same]
   exact hd
  ·rw [setF_other _ _ e, setF_other _ _ e]
   obtain ⟨d1, d2⟩ := h.dat i hi
   exact ⟨d1.turn' hT (d2.mono hne), d2.mono fun j hj => ⟨hF j hj.1, hj.2⟩⟩
 ·show Ent w' (setF R.nv k nvk i) (setF a.nd k v i).names ∧ At _ (setF R.nv k nvk i)
  by_cases e : i = k
  ·subst e
   rw [setF_same, setF_same]
   exact hn
  ·rw [setF_other _ _ e, setF_other _ _ e]
   obtain ⟨d1, d2⟩ := h.nam i hi
   exact ⟨d1.turn hT (d2.mono hne), d2.mono fun j hj => ⟨hF j hj.1, hj.2⟩⟩
theorem Blk.get_set {g t : Nat} {cs : Array Value} (h : Blk w g t cs) (i j : Nat) (u : Value) : (w.setCell ⟨g, i, none⟩ u).cell? ⟨g, j, none⟩ = if i = j ∧ i < cs.size then some u else w.cell? ⟨g, j, none⟩ := by
 rw [(h.set_ i u).cell, h.cell, Array.getElem?_setIfInBounds]
 by_cases e : i = j
 ·subst e
  by_cases e2 : i < cs.size
  ·simp [e2]
  ·simp [e2]
 ·rw [if_neg e, if_neg fun x => e x.1]
/-- One cell of node k's turns: f = 1: its links; 2: its bytes; 3: its names. -/
theorem RIs.set1 (h : RIs F w y R a) {F' : Nat → Prop} {k f : Nat} (hk : k ≤ a.last) (hf : f < 4) {u : Value} {v : Nd} {dvk nvk : Value} (hF : ∀ j, F j → F' j) (hlt : ∀ j, F' j → j < w.heap.size) (h0 : ¬ F' 0)
  (h0' : (if f = 0 then u else .int .i64 (a.nd k).kind) = .int .i64 v.kind) (h1' : (if f = 1 then u else .int .i64 (a.nd k).links) = .int .i64 v.links) (h2' : (if f = 2 then u else R.dv k) = dvk) (h3' : (if f = 3 then u else R.nv k) = nvk)
  (hd : Bs (w.setCell ⟨R.g, k * 4 + f, none⟩ u) dvk v.data ∧ At (fun j => F' j ∧ ¬ R.own y j) dvk) (hn : Ent (w.setCell ⟨R.g, k * 4 + f, none⟩ u) nvk v.names ∧ At (fun j => F' j ∧ ¬ R.own y j) nvk) :
  RIs F' (w.setCell ⟨R.g, k * 4 + f, none⟩ u) y { R with dv := setF R.dv k dvk, nv := setF R.nv k nvk } (a.setNd k v) := by
 obtain ⟨cs, hb, hsz⟩ := h.row
 have hfit := h.fit
 have hT : Turn (· = R.g) w (w.setCell ⟨R.g, k * 4 + f, none⟩ u) := (Turn.refl (· = R.g) w).setCell (p := ⟨R.g, k * 4 + f, none⟩) (fun _ => rfl) u
 have hin : k * 4 + f < cs.size := by rw [hsz]; omega
 obtain ⟨c0, c1, c2, c3⟩ := h.cel k hk
 have hs : (w.setCell ⟨R.g, k * 4 + f, none⟩ u).heap.size = w.heap.size := by simp [World.setCell]
 have hget : ∀ f', f' < 4 → (w.setCell ⟨R.g, k * 4 + f, none⟩ u).cell? ⟨R.g, k * 4 + f', none⟩ = if f = f' then some u else w.cell? ⟨R.g, k * 4 + f', none⟩ := fun f' _ => by
  rw [hb.get_set]
  by_cases e : f = f'
  ·rw [if_pos ⟨by omega, hin⟩, if_pos e]
  ·rw [if_neg (fun x => e (by omega)), if_neg e]
 refine h.rowed hk hT ⟨_, hb.set_ _ u, by simp [hsz]⟩ ⟨?_, ?_, ?_, ?_⟩ (fun i f' hi hf' => ?_) hd hn hF (fun j hj => by rw [hs]; exact hlt j hj) h0
 ·have := hget 0 (by omega)
  rw [Nat.add_zero] at this
  rw [this, c0, ← h0']
  split <;> rfl
 ·rw [hget 1 (by omega), c1, ← h1']
  split <;> rfl
 ·rw [hget 2 (by omega), c2, ← h2']
  split <;> rfl
 ·rw [hget 3 (by omega), c3, ← h3']
  split <;> rfl
 ·rw [hb.get_set, if_neg fun x => ?_]
  have h1 := x.1
  omega
end
end Go.Proofs.YtpkhglfhpggceaaGreatDoor
namespace Go.Proofs.YtpkhglfhpggceaaGreatDoor
set_option maxRecDepth 100000
set_option maxHeartbeats 16000000
open Go.RowKit
set_option linter.unusedVariables false
set_option linter.unusedSimpArgs false

theorem findL_step {l : Names} {k : Nat} {p : ByteArray × Nat} {s : ByteArray} (h : l[k]? = some p) : findL (l.drop k) s = if p.1 = s then p.2 else findL (l.drop (k + 1)) s := by
 have hk : k < l.length := (List.getElem?_eq_some_iff.1 h).1
 rw [List.drop_eq_getElem_cons hk]
 have hp : l[k] = p := by rw [List.getElem?_eq_getElem hk] at h; exact Option.some.inj h
 rw [hp]
 rfl
section
variable {F : Nat → Prop} {w w' : World} {y c : Nat} {R : RMem} {a : TS}
theorem rfind_any (d : Nat) (s : ByteArray) (w : World) (h : RIs F w y R a) (hd : d ≤ a.last) (hb : a.last ≤ 1000000) (hlen : (a.nd d).names.length ≤ 1000000) :
  Calls Tryz.prog 75 #[.pointer (some ⟨y, 0, none⟩), .int .i64 (d : Nat), .string s] w fun e w' => e = .returned (.int .i64 (a.find d s : Nat)) ∧ w = w' := by
 obtain ⟨y0, y1⟩ := h.cells
 obtain ⟨c0, c1, c2, c3⟩ := h.cel d hd
 have hn := (h.nam d hd).1
 have HF := Lib.hid (show a.find d s = findL (a.nd d).names s from rfl)
 have hd1 : ((d : Nat) : Int) < ((a.last + 1 : Nat) : Int) := by omega
 have hd0 : (0 : Int) ≤ ((d : Nat) : Int) := by omega
 obtain ⟨A, cc, hv⟩ := hn.shape
 rw [hv] at c3
 have HN : Hid (∀ i p, (a.nd d).names[i]? = some p → ∃ g, A = some ⟨g, 0, none⟩ ∧ w.cell? ⟨g, i * 2, none⟩ = some (.int .i64 (p.2 : Nat)) ∧ w.cell? ⟨g, i * 2 + 1, none⟩ = some (.string p.1)) := Lib.hid (by
  intro i p hi
  rcases hn with ⟨e1, e2⟩ | ⟨g, c', e, h1, h2, h3, h4⟩
  ·rw [e2] at hi; simp at hi
  ·rw [hv] at e
   injection e with e1 e2 e3
   exact ⟨g, e1, h4 i p hi⟩)
 generalize (a.nd d).names = l at *
 generalize hn1 : a.last + 1 = n1 at *
 have hn2 : n1 ≤ 1000001 := by omega
 clear h hd hn hv hn1 c0 c1 c2
 go_enter Tryz.func75, Tryz.ntmps75
 go_wp2
 go_loop [8] (fun i => ∃ k : Nat, k ≤ l.length ∧ i = .int .i64 (k : Nat) ∧ Hid (findL l s = findL (l.drop k) s)) (fun i => l.length - (intOf i).toNat)
 case atStart => exact ⟨0, Nat.zero_le _, rfl, Lib.hid rfl⟩
 case round =>
  obtain ⟨k, hk, rfl, hJ⟩ := hrel
  by_cases hlt : k < l.length
  ·obtain ⟨p, hp⟩ : ∃ p, l[k]? = some p := ⟨l[k], List.getElem?_eq_getElem hlt⟩
   obtain ⟨g, rfl, hc1, hc2⟩ := HN.out k p hp
   have hst := findL_step (s := s) hp
   rw [← hJ.out] at hst
   by_cases e : p.1 = s
   ·rw [if_pos e] at hst
    have HS := Lib.hid hst
    have t1 : (p.1.toList == s.toList) = true := by rw [e]; exact beq_self_eq_true _
    clear hst hp e
    go_wp2
    go_ret
    exact ⟨by rw [HF.out, HS.out]; rfl, rfl⟩
   ·rw [if_neg e] at hst
    have HS := Lib.hid hst
    have t1 : (p.1.toList == s.toList) = false := beq_eq_false_iff_ne.2 fun x => e (toList_inj.1 x)
    clear hst hp e
    go_wp2
    go_round
    case rel => exact ⟨k + 1, by omega, by go_num, HS⟩
    case measure => simp [intOf]; omega
  ·obtain rfl : k = l.length := by omega
   have h1 := hJ.out
   rw [List.drop_length] at h1
   have H1 := Lib.hid h1
   clear h1
   go_wp2
   go_ret
   exact ⟨by rw [HF.out, H1.out]; rfl, rfl⟩
theorem rwalk_any (v : Value) (L : List ByteArray) (B : Nat) (w : World) (h : RIs F w y R a) (hg : Good a c) (hc : c ≤ 100000) (hv : Texts B w v L) :
  Calls Tryz.prog 43 #[.pointer (some ⟨y, 0, none⟩), v] w fun e w' => e = .returned (.tuple #[.int .i64 ((a.walkL 1 L).1 : Nat), .int .i64 (a.walkL 1 L).2]) ∧ w = w' := by
 obtain ⟨y0, y1⟩ := h.cells
 have hfew := hg.few
 have HFD := Lib.hid (fun d s (hd : d ≤ a.last) => rfind_any d s w h hd (by omega) (Nat.le_trans (hg.len d) (by omega)))
 have HC := Lib.hid (fun k (hk : k ≤ a.last) => (h.cel k hk).1)
 have HG := Lib.hid hg
 have HL0 := Lib.hid hg.one
 obtain ⟨A, cc, rfl, hl, hm, ht⟩ := hv
 have HT := Lib.hid ht
 have hlm : L.length ≤ maxLen := by omega
 unfold maxLen at hlm
 generalize hn1 : a.last + 1 = n1 at *
 have hn2 : n1 ≤ 1000001 := by omega
 clear h hg hl hm ht
 go_enter Tryz.func43, Tryz.ntmps43
 go_wp2
 go_loop [6, 7] (fun at_ i => ∃ (j k : Nat), k ≤ L.length ∧ at_ = .int .i64 (j : Nat) ∧ i = .int .i64 (k : Nat) ∧ Hid ((a.nd j).kind ≠ 0 ∧ j < n1 ∧ a.walkL 1 L = a.walkL j (L.drop k))) (fun _ i => L.length - (intOf i).toNat)
 case atStart => exact ⟨1, 0, Nat.zero_le _, rfl, rfl, ⟨by rw [HG.out.root]; decide, by have := HL0.out; omega, by simp⟩⟩
 case round =>
  obtain ⟨j, k, hk, rfl, rfl, hJ⟩ := hrel
  obtain ⟨hj1, hj2, hj3⟩ := hJ.out
  by_cases hlt : k < L.length
  ·obtain ⟨u, hu⟩ : ∃ u, L[k]? = some u := ⟨L[k], List.getElem?_eq_getElem hlt⟩
   obtain ⟨g, o, rfl, hB, hgl, hcu⟩ := HT.out k u hu
   have hdr : L.drop k = u :: L.drop (k + 1) := by
    rw [List.drop_eq_getElem_cons hlt]
    have hp : L[k] = u := by rw [List.getElem?_eq_getElem hlt] at hu; exact Option.some.inj hu
    rw [hp]
   rw [hdr] at hj3
   have hjn : ((j : Nat) : Int) < ((n1 : Nat) : Int) := by omega
   have hcj := HC.out j (by omega)
   by_cases hk2 : (a.nd j).kind = 2
   ·rw [hk2] at hcj
    have hst : a.walkL j (u :: L.drop (k + 1)) = if a.find j u = 0 then (0, 40) else a.walkL (a.find j u) (L.drop (k + 1)) := by
     show (if (a.nd j).kind = 2 then _ else _) = _
     rw [if_pos hk2]
    rw [hst] at hj3
    have HF1 := Lib.hid (HFD.out j u (by omega))
    by_cases hz : a.find j u = 0
    ·rw [if_pos hz] at hj3
     have H3 := Lib.hid hj3
     rw [hz] at HF1
     clear hj1 hj3 hst hk2 hz hu hdr
     go_wp2_with (go_at_call 75; refine HF1.out.mono ?_; rintro e w' ⟨rfl, rfl⟩)
     go_ret2
     exact ⟨by rw [H3.out]; rfl, rfl⟩
    ·rw [if_neg hz] at hj3
     have hlive := HG.out.find_live hz
     have hbd := HG.out.in_last hlive
     have HR := Lib.hid (show (a.nd (a.find j u)).kind ≠ 0 ∧ a.find j u < n1 ∧ a.walkL 1 L = a.walkL (a.find j u) (L.drop (k + 1)) from ⟨hlive, by omega, hj3⟩)
     have t1 : (((a.find j u : Nat) : Int) == 0) = false := beq_eq_false_iff_ne.2 (by omega)
     generalize a.find j u = jj at *
     clear hj1 hj3 hst hk2 hz hu hdr hlive hbd
     go_wp2_with (go_at_call 75; refine HF1.out.mono ?_; rintro e w' ⟨rfl, rfl⟩)
     go_round
     case rel => exact ⟨jj, k + 1, by omega, rfl, by go_num, HR⟩
     case measure => simp [intOf]; omega
   ·have hst : a.walkL j (u :: L.drop (k + 1)) = (0, 42) := by
     show (if (a.nd j).kind = 2 then _ else _) = _
     rw [if_neg hk2]
    rw [hst] at hj3
    have H3 := Lib.hid hj3
    have t1 : ((a.nd j).kind != 2) = true := bne_iff_ne.2 hk2
    generalize (a.nd j).kind = kj at *
    clear hj1 hj3 hst hk2 hu hdr
    go_wp2_with fail
    go_ret2
    exact ⟨by rw [H3.out]; rfl, rfl⟩
  ·obtain rfl : k = L.length := by omega
   rw [List.drop_length] at hj3
   have H3 := Lib.hid hj3
   clear hj1 hj3
   go_wp2
   go_ret2
   exact ⟨by rw [H3.out]; rfl, rfl⟩
theorem rWalk_any (p : ByteArray) (w : World) (h : RIs F w y R a) (hg : Good a c) (hc : c ≤ 100000) (hp : p.size ≤ 1000) :
  Calls Tryz.prog 11 #[.pointer (some ⟨y, 0, none⟩), .string p] w fun e w' => e = .returned (.tuple #[.int .i64 ((a.walkP p).1 : Nat), .int .i64 (a.walkP p).2]) ∧ Below w.heap.size w w' := by
 have hS := Lib.hid (rsplit_any p w (by omega))
 by_cases he : (splitN p).2 = 0
 ·have HA := Lib.hid (fun (v : Value) (w1 : World) (hb : Below w.heap.size w w1) (hv : Texts w.heap.size w1 v (splitN p).1) => rwalk_any v (splitN p).1 _ w1 (h.below hb) hg hc hv)
  have HW := Lib.hid (walkP_ok (a := a) he)
  have HE := Lib.hid he
  clear h hg he
  go_enter Tryz.func11, Tryz.ntmps11
  go_wp2_with fail
  refine hS.out.mono ?_
  rintro e w1 ⟨v, rfl, hv, hb⟩
  rw [HE.out]
  obtain ⟨A, cc, rfl, hx⟩ := hv
  have HV := Lib.hid (show Texts w.heap.size w1 (.slice A (splitN p).1.length cc) (splitN p).1 from ⟨A, cc, rfl, hx⟩)
  have HB := Lib.hid hb
  clear hx hb
  go_wp2_with (go_at_call 43; refine (HA.out _ _ HB.out HV.out).mono ?_; rintro e w' ⟨rfl, rfl⟩)
  go_ret2
  exact ⟨by rw [HW.out]; rfl, HB.out⟩
 ·have HW := Lib.hid (walkP_bad (a := a) he)
  have h1 : ((splitN p).2 != 0) = true := bne_iff_ne.2 he
  clear h hg he
  go_enter Tryz.func11, Tryz.ntmps11
  go_wp2_with fail
  refine hS.out.mono ?_
  rintro e w1 ⟨v, rfl, hv, hb⟩
  obtain ⟨A, cc, rfl, hx⟩ := hv
  have HB := Lib.hid hb
  clear hx hb
  go_wp2_with fail
  go_ret2
  exact ⟨by rw [HW.out]; rfl, HB.out⟩

/-- A directory and a last name, or an error. -/
def RParPost (a : TS) (p : ByteArray) (alone : Int) (w : World) (e : Ending) (w' : World) : Prop :=
 (∃ (d : Nat) (s : ByteArray), e = .returned (.tuple #[.int .i64 (d : Nat), .string s, .int .i64 (a.par p alone).2]) ∧ ((a.par p alone).2 = 0 → d = (a.par p alone).1 ∧ s = nameN p)) ∧ Below w.heap.size w w'
theorem rparent_any (p : ByteArray) (alone : Int) (w : World) (h : RIs F w y R a) (hg : Good a c) (hc : c ≤ 100000) (hp : p.size ≤ 1000) (ha : alone ≠ 0) :
  Calls Tryz.prog 74 #[.pointer (some ⟨y, 0, none⟩), .string p, .int .i64 alone] w (RParPost a p alone w) := by
 have hS := Lib.hid (rlast_any p w (by omega))
 have HT := Lib.hid h
 have HG := Lib.hid hg
 have HA := Lib.hid (fun (v : Value) (w1 : World) (hb : Below w.heap.size w w1) (B : Nat) (hv : Texts B w1 v (lastN p).1) => rwalk_any v (lastN p).1 B w1 (h.below hb) hg hc hv)
 have HN := Lib.hid (show nameN p = (lastN p).2.1 from rfl)
 have HCL := Lib.hid (fun W (h : RIs F W y R a) => h.cells)
 have HCE := Lib.hid (fun W (h : RIs F W y R a) => h.cel)
 have hfew := hg.few
 have hcases := par_cases a p alone
 clear h hg
 rcases hcases with ⟨e1, e2⟩ | ⟨e0, e1, e2⟩ | ⟨e0, e1, e2⟩ | ⟨e0, e1, e3, e2⟩ | ⟨e0, e1, e3, e2⟩
 ·have HP := Lib.hid e2
  have HE := Lib.hid e1
  have HAL := Lib.hid ha
  clear e1 e2 ha
  go_enter Tryz.func74, Tryz.ntmps74
  go_wp2_with fail
  refine hS.out.mono ?_
  rintro e w1 ⟨v, rfl, hv, hb⟩
  rw [HE.out]
  obtain ⟨A, cc, rfl, hx⟩ := hv
  have HB := Lib.hid hb
  clear hx hb
  go_wp2_with fail
  go_ret3
  exact ⟨⟨0, _, by rw [HP.out]; rfl, fun x => absurd (by rw [HP.out] at x; exact x) HAL.out⟩, HB.out⟩
 ·have HP := Lib.hid e2
  have H1 := Lib.hid e1
  have t1 : ((lastN p).2.2 == 2) = false := beq_eq_false_iff_ne.2 e0
  have t2 : ((lastN p).2.2 != 0) = true := bne_iff_ne.2 e1
  clear e0 e1 e2 ha
  go_enter Tryz.func74, Tryz.ntmps74
  go_wp2_with fail
  refine hS.out.mono ?_
  rintro e w1 ⟨v, rfl, hv, hb⟩
  obtain ⟨A, cc, rfl, hx⟩ := hv
  have HB := Lib.hid hb
  clear hx hb
  go_wp2_with fail
  go_ret3
  exact ⟨⟨0, _, by rw [HP.out]; rfl, fun x => absurd (by rw [HP.out] at x; exact x) H1.out⟩, HB.out⟩
 ·have HP := Lib.hid e2
  have H1 := Lib.hid e1
  have HE := Lib.hid e0
  have t1 : ((a.walkL 1 (lastN p).1).2 == 0) = false := beq_eq_false_iff_ne.2 e1
  clear e0 e1 e2 ha
  go_enter Tryz.func74, Tryz.ntmps74
  go_wp2_with fail
  refine hS.out.mono ?_
  rintro e w1 ⟨v, rfl, hv, hb⟩
  rw [HE.out]
  obtain ⟨A, cc, rfl, hx⟩ := hv
  have HB := Lib.hid hb
  have HV := Lib.hid (show Texts _ w1 (.slice A (lastN p).1.length cc) (lastN p).1 from ⟨A, cc, rfl, hx⟩)
  clear hx hb
  go_wp2_with fail
  refine (HA.out _ _ HB.out _ HV.out).mono ?_
  rintro e w' ⟨rfl, rfl⟩
  go_wp2_with fail
  go_ret3
  exact ⟨⟨_, _, by rw [HP.out]; rfl, fun x => absurd (by rw [HP.out] at x; exact x) H1.out⟩, HB.out⟩
 ·have HP := Lib.hid e2
  have hlive := HG.out.walk_live (lastN p).1 1 (by rw [HG.out.root]; decide) e1
  have hbd := HG.out.in_last hlive
  have HE := Lib.hid e0
  rw [e1] at HA
  have t3 : ((a.nd (a.walkL 1 (lastN p).1).1).kind != 2) = true := bne_iff_ne.2 e3
  have HBD := Lib.hid hbd
  have hdn : (((a.walkL 1 (lastN p).1).1 : Nat) : Int) < ((a.last + 1 : Nat) : Int) := by omega
  generalize (a.walkL 1 (lastN p).1).1 = d at *
  generalize hkd : (a.nd d).kind = kd at *
  have HKD := Lib.hid hkd
  generalize hn1 : a.last + 1 = n1 at *
  have hn2 : n1 ≤ 1000001 := by omega
  clear e0 e1 e2 ha e3 hlive hbd hkd
  go_enter Tryz.func74, Tryz.ntmps74
  go_wp2_with fail
  refine hS.out.mono ?_
  rintro e w1 ⟨v, rfl, hv, hb⟩
  rw [HE.out]
  obtain ⟨A, cc, rfl, hx⟩ := hv
  have HB := Lib.hid hb
  have HV := Lib.hid (show Texts _ w1 (.slice A (lastN p).1.length cc) (lastN p).1 from ⟨A, cc, rfl, hx⟩)
  clear hx hb
  have hT1 := HT.out.below HB.out
  have y0 := (HCL.out _ hT1).1
  have c0 := (HCE.out _ hT1 d HBD.out.2).1
  rw [HKD.out] at c0
  clear hT1 hn1
  go_wp2_with fail
  refine (HA.out _ _ HB.out _ HV.out).mono ?_
  rintro e w' ⟨rfl, rfl⟩
  go_wp2_with fail
  go_ret3
  exact ⟨⟨_, _, by rw [HP.out]; rfl, fun x => by rw [HP.out] at x; cases x⟩, HB.out⟩
 ·have HP := Lib.hid e2
  have hlive := HG.out.walk_live (lastN p).1 1 (by rw [HG.out.root]; decide) e1
  have hbd := HG.out.in_last hlive
  have HE := Lib.hid e0
  rw [e1] at HA
  have HBD := Lib.hid hbd
  have hdn : (((a.walkL 1 (lastN p).1).1 : Nat) : Int) < ((a.last + 1 : Nat) : Int) := by omega
  generalize (a.walkL 1 (lastN p).1).1 = d at *
  have HKD := Lib.hid e3
  generalize hn1 : a.last + 1 = n1 at *
  have hn2 : n1 ≤ 1000001 := by omega
  clear e0 e1 e2 ha e3 hlive hbd
  go_enter Tryz.func74, Tryz.ntmps74
  go_wp2_with fail
  refine hS.out.mono ?_
  rintro e w1 ⟨v, rfl, hv, hb⟩
  rw [HE.out]
  obtain ⟨A, cc, rfl, hx⟩ := hv
  have HB := Lib.hid hb
  have HV := Lib.hid (show Texts _ w1 (.slice A (lastN p).1.length cc) (lastN p).1 from ⟨A, cc, rfl, hx⟩)
  clear hx hb
  have hT1 := HT.out.below HB.out
  have y0 := (HCL.out _ hT1).1
  have c0 := (HCE.out _ hT1 d HBD.out.2).1
  rw [HKD.out] at c0
  clear hT1 hn1
  go_wp2_with fail
  refine (HA.out _ _ HB.out _ HV.out).mono ?_
  rintro e w' ⟨rfl, rfl⟩
  go_wp2_with fail
  go_ret3
  exact ⟨⟨_, _, by rw [HP.out]; rfl, fun x => ⟨by rw [HP.out], by rw [HN.out]⟩⟩, HB.out⟩
end
end Go.Proofs.YtpkhglfhpggceaaGreatDoor
namespace Go.Proofs.YtpkhglfhpggceaaGreatDoor
set_option maxRecDepth 100000
set_option maxHeartbeats 16000000
open Go.RowKit
set_option linter.unusedVariables false
set_option linter.unusedSimpArgs false

def entsC (l : Names) : List Value := l.flatMap fun p => [.int .i64 (p.2 : Nat), .string p.1]
theorem entsC_len (l : Names) : (entsC l).length = l.length * 2 := by
 unfold entsC
 induction l with
 | nil => rfl
 | cons p r ih => rw [List.flatMap_cons, List.length_append, ih]; simp; omega
theorem entsC_app (l m : Names) : entsC (l ++ m) = entsC l ++ entsC m := by unfold entsC; rw [List.flatMap_append]
theorem entsC_one (p : ByteArray × Nat) : entsC [p] = [.int .i64 (p.2 : Nat), .string p.1] := rfl
theorem entsC_get {l : Names} {i : Nat} {p : ByteArray × Nat} (h : l[i]? = some p) : (entsC l)[i * 2]? = some (.int .i64 (p.2 : Nat)) ∧ (entsC l)[i * 2 + 1]? = some (.string p.1) := by
 induction l generalizing i with
 | nil => simp at h
 | cons q r ih =>
  unfold entsC at ih ⊢
  rw [List.flatMap_cons]
  rcases i with _ | i
  ·simp at h
   subst h
   exact ⟨rfl, rfl⟩
  ·simp at h
   have := ih h
   rw [show (i + 1) * 2 = i * 2 + 1 + 1 by omega]
   simpa using this
theorem less_is (a b : ByteArray) : Op.bytesLess a.toList b.toList = lt a b := by
 rw [bytesLess_eq, ByteArray.toList_eq, ByteArray.toList_eq]
 rfl
/-- Behind the names that lie ahead. -/
theorem putL_at {l : Names} {s : ByteArray} {id k : Nat} (hk : k ≤ l.length) (hlo : ∀ j p, j < k → l[j]? = some p → lt p.1 s = true) (hhi : ∀ p, l[k]? = some p → lt p.1 s = false) :
  putL l s id = l.take k ++ ((if id = 0 then [] else [(s, id)]) ++ (l.drop k).filter fun q => decide (q.1 ≠ s)) := by
 induction k generalizing l with
 | zero =>
  cases l with
  | nil => unfold putL; simp
  | cons p r =>
   have := hhi p rfl
   show (if lt p.1 s = true then p :: putL r s id else (if id = 0 then [] else [(s, id)]) ++ (p :: r).filter fun q => decide (q.1 ≠ s)) = _
   rw [this, if_neg (by decide)]
   simp
 | succ k ih =>
  cases l with
  | nil => simp at hk
  | cons p r =>
   have h0 := hlo 0 p (by omega) rfl
   show (if lt p.1 s = true then p :: putL r s id else (if id = 0 then [] else [(s, id)]) ++ (p :: r).filter fun q => decide (q.1 ≠ s)) = _
   rw [if_pos h0, ih (by simpa using hk) (fun j q hj hq => hlo (j + 1) q (by omega) (by simpa using hq)) (fun q hq => hhi q (by simpa using hq))]
   rfl
def neB (s : ByteArray) (q : ByteArray × Nat) : Bool := decide (q.1 ≠ s)
theorem take_one {l : Names} {k : Nat} {p : ByteArray × Nat} (h : l[k]? = some p) : l.take (k + 1) = l.take k ++ [p] := by
 rw [List.take_add_one, h]
 rfl
theorem filt_one {l : Names} {k m : Nat} {p : ByteArray × Nat} (hkm : k ≤ m) (h : l[m]? = some p) (s : ByteArray) :
  ((l.take (m + 1)).drop k).filter (neB s) = ((l.take m).drop k).filter (neB s) ++ (if p.1 ≠ s then [p] else []) := by
 have hm : m < l.length := (List.getElem?_eq_some_iff.1 h).1
 rw [take_one h, List.drop_append_of_le_length (by rw [List.length_take]; omega), List.filter_append]
 congr 1
 by_cases e : p.1 = s
 ·simp [e, neB]
 ·simp [e, neB]
theorem mid_none {w : World} {b k : Nat} {v : Value} {l mid : Names} (h : w.ownsRow b 52 2 v k (entsC (l.take k))) (hm : mid = []) : ∃ z, z ≤ k + 1 ∧ w.ownsRow b 52 2 v z (entsC (l.take k ++ mid)) :=
 ⟨k, by omega, by rw [hm, List.append_nil]; exact h⟩
section
variable {F : Nat → Prop} {w w' : World} {y c : Nat} {R : RMem} {a : TS}
theorem info52 : (Tryz.prog.info? 52).map (fun i => (i.zero, i.size, i.bytes)) = some (some (.agg #[.int .i64 0, .string ByteArray.empty]), 2, 24) := by kernel_rfl
theorem two_new (w : World) (t : TypeId) (v u : Value) : ∀ (j : Nat) (x : Value), [v, u][j]? = some x → (w.alloc (.cells #[v, u] t)).cell? ((⟨w.heap.size, 0, none⟩ : Addr).add j) = some x := by
 intro j x hj
 rcases j with _ | _ | j
 ·simp at hj
  subst hj
  simp [go_sem, Addr.add]
 ·simp at hj
  subst hj
  simp [go_sem, Addr.add]
 ·simp at hj
theorem ent_own {w : World} {base z : Nat} {v : Value} {l : Names} (h : w.ownsRow base 52 2 v z (entsC l)) : Ent w v l ∧ At (fun j => base ≤ j) v := by
 have hz : l.length = z := by have := h.1; rw [entsC_len] at this; omega
 subst hz
 rcases h.2 with ⟨hv, h0⟩ | ⟨g, cap, cur, hv, hb, hg, hnc, hcm, hcs, ht⟩
 ·rw [hv, List.eq_nil_of_length_eq_zero h0]
  exact ⟨Ent.nil w, At.nil _⟩
 ·have hc : ∀ i u, (entsC l)[i]? = some u → w.cell? ⟨g, i, none⟩ = some u := fun i u hu => by
   have := h.cells (g := g) (by rw [hv]; rfl) i u hu
   rw [← Nat.zero_add i, ← addr_add]
   exact this
  refine ⟨.inr ⟨g, cap, hv, hnc, hcm, (Array.getElem?_eq_some_iff.1 hg).1, fun i p hi => ⟨hc _ _ (entsC_get hi).1, hc _ _ (entsC_get hi).2⟩⟩, fun g' o n c e => ?_⟩
  rw [hv] at e
  injection e with e1
  injection e1 with e1
  injection e1 with e1
  rw [← e1]
  exact hb
theorem rput_end {F : Nat → Prop} {w wr : World} {y d : Nat} {R : RMem} {a : TS} {l l' : Names} {u : Value} (h : RIs F w y R a) (hd : d ≤ a.last) (hl : (a.nd d).names = l) (hb : Below w.heap.size w wr) (hE : Ent wr u l') (hA : At (fun j => w.heap.size ≤ j) u) :
  RSt (grow F w (wr.setCell ⟨R.g, d * 4 + 3, none⟩ u)) (wr.setCell ⟨R.g, d * 4 + 3, none⟩ u) y (a.setNd d { a.nd d with names := l' }) ∧ Turn F w (wr.setCell ⟨R.g, d * 4 + 3, none⟩ u) := by
 have hr := h.below hb
 have hTs : Turn (· = R.g) wr (wr.setCell ⟨R.g, d * 4 + 3, none⟩ u) := (Turn.refl (· = R.g) wr).setCell (p := ⟨R.g, d * 4 + 3, none⟩) (fun _ => rfl) u
 have hs : (wr.setCell ⟨R.g, d * 4 + 3, none⟩ u).heap.size = wr.heap.size := by simp [World.setCell]
 have hgF : F R.g := h.fo _ (.inr (.inl rfl))
 have hsz := hb.size
 have hlt : ∀ j, At (fun i => i = j) u → j < wr.heap.size ∨ True := fun _ _ => .inr trivial
 have hEl : At (fun j => w.heap.size ≤ j ∧ j < wr.heap.size) u := fun g o n c e => ⟨hA g o n c e, by
  rcases hE with ⟨e1, e2⟩ | ⟨g', c', e1, h1, h2, h3, h4⟩
  ·rw [e1] at e; cases e
  ·rw [e1] at e
   injection e with e3
   injection e3 with e3
   injection e3 with e3
   rw [← e3]; exact h3⟩
 have hown : ∀ j, w.heap.size ≤ j → ¬ R.own y j := fun j hj e => by
  have := h.lt j (h.fo j e)
  omega
 refine ⟨⟨_, hr.set1 (F' := grow F w (wr.setCell ⟨R.g, d * 4 + 3, none⟩ u)) (v := { a.nd d with names := l' }) (dvk := R.dv d) (nvk := u) hd (show 3 < 4 by decide) (fun j hj => .inl hj) (fun j hj => ?_) (fun hj => ?_) rfl rfl rfl rfl ⟨(hr.dat d hd).1.turn' hTs ((hr.dat d hd).2.mono fun j hj e => hj.2 (.inr (.inl e))), (hr.dat d hd).2.mono fun j hj => ⟨.inl hj.1, hj.2⟩⟩ ⟨hE.turn hTs (hEl.mono fun j hj e => ?_), hEl.mono fun j hj => ⟨.inr ⟨hj.1, by rw [hs]; exact hj.2⟩, hown j hj.1⟩⟩⟩, (Turn.of_below (S := F) hb).trans hTs fun i hi e => by rw [e]; exact hgF⟩
 ·rcases hj with hj | hj
  ·have := h.lt j hj; omega
  ·have := hj.2; omega
 ·rcases hj with hj | hj
  ·exact h.f0 hj
  ·have := h.w0; omega
 ·have := h.lt _ hgF
  have e2 : j = R.g := e
  omega
def RputPost (F : Nat → Prop) (y : Nat) (a' : TS) (w : World) (e : Ending) (w' : World) : Prop := e = .returned (.tuple #[]) ∧ RSt (grow F w w') w' y a' ∧ Turn F w w'
theorem rput_any (d : Nat) (s : ByteArray) (id : Nat) (w : World) (h : RIs F w y R a) (hg : Good a c) (hc : c ≤ 100000) (hd : d ≤ a.last) :
  Calls Tryz.prog 83 #[.pointer (some ⟨y, 0, none⟩), .int .i64 (d : Nat), .string s, .int .i64 (id : Nat)] w (RputPost F y (a.put d s id) w) := by
 obtain ⟨i0, hi0, hz0, hz1, hz2⟩ := info_parts info52
 obtain ⟨y0, y1⟩ := h.cells
 obtain ⟨c0, c1, c2, c3⟩ := h.cel d hd
 have hn := (h.nam d hd).1
 have hd1 : ((d : Nat) : Int) < ((a.last + 1 : Nat) : Int) := by omega
 have hd0 : (0 : Int) ≤ ((d : Nat) : Int) := by omega
 have hyl := h.blk.lt
 have hgl := h.lt _ (h.fo _ (.inr (.inl rfl)))
 have hfew := hg.few
 have hlen := hg.len d
 obtain ⟨A, cc, hv⟩ := hn.shape
 rw [hv] at c3
 have HN : Hid (∀ W, Below w.heap.size w W → ∀ i p, (a.nd d).names[i]? = some p → ∃ g, A = some ⟨g, 0, none⟩ ∧ W.cell? ⟨g, i * 2, none⟩ = some (.int .i64 (p.2 : Nat)) ∧ W.cell? ⟨g, i * 2 + 1, none⟩ = some (.string p.1) ∧ g < W.heap.size) := Lib.hid (by
  intro W hW i p hi
  have hn2 := hn.turn (S := fun _ => False) (Turn.of_below hW) (fun _ _ _ _ _ => fun x => x)
  rcases hn2 with ⟨e1, e2⟩ | ⟨g, c', e, h1, h2, h3, h4⟩
  ·rw [e2] at hi; simp at hi
  ·rw [hv] at e
   injection e with e1 e2 e3
   exact ⟨g, e1, (h4 i p hi).1, (h4 i p hi).2, h3⟩)
 have HR := Lib.hid h
 have HD := Lib.hid hd
 have HPU := Lib.hid (show a.put d s id = a.setNd d { a.nd d with names := putL (a.nd d).names s id } from rfl)
 have hpl := fun k => @putL_at (a.nd d).names s id k
 have HPL := Lib.hid hpl
 generalize hl0 : (a.nd d).names = l at *
 have HL0 := Lib.hid hl0
 generalize hn1 : a.last + 1 = n1 at *
 have hn2 : n1 ≤ 1000001 := by omega
 have HN1 := Lib.hid hn1
 clear h hg hd hn hv hn1 c0 c1 c2 hpl hl0
 by_cases hid : id = 0
 ·have t0 : (((id : Nat) : Int) != 0) = false := bne_eq_false_iff_eq.2 (by omega)
  rw [if_pos hid] at HPL
  clear hid
  go_enter Tryz.func83, Tryz.ntmps83
  go_wp2
  go_loopw [8, 10] (fun o i wr => ∃ k : Nat, k ≤ l.length ∧ i = .int .i64 (k : Nat) ∧ wr.ownsRow w.heap.size 52 2 o k (entsC (l.take k)) ∧ Hid (∀ j p, j < k → l[j]? = some p → lt p.1 s = true) ∧ Below w.heap.size w wr) (fun _ i _ => l.length - (intOf i).toNat)
  case atStart => exact ⟨0, Nat.zero_le _, rfl, World.ownsRow_made w #[] 0 (Nat.le_refl _) (Nat.zero_le _) rfl, Lib.hid (fun j p hj => by omega), (Below.refl _ _).alloc (Nat.le_refl _) _⟩
  case round =>
   obtain ⟨k, hk, rfl, hown, hJ, hbel⟩ := hrel
   have HO := Lib.hid hown
   have HB := Lib.hid hbel
   clear hown hbel
   by_cases hlt : k < l.length
   ·obtain ⟨p, hp⟩ : ∃ p, l[k]? = some p := ⟨l[k], List.getElem?_eq_getElem hlt⟩
    obtain ⟨g, rfl, hc1, hc2, hgg⟩ := HN.out wr HB.out k p hp
    have hsz := HB.out.size
    by_cases hl : lt p.1 s = true
    ·have t1 : Op.bytesLess p.1.toList s.toList = true := by rw [less_is]; exact hl
     have HTK := Lib.hid (take_one hp)
     have HJ2 := Lib.hid (show ∀ j p, j < k + 1 → l[j]? = some p → lt p.1 s = true from fun j q hj hq => by
      by_cases e : j = k
      ·subst e; rw [hp] at hq; cases hq; exact hl
      ·exact hJ.out j q (by omega) hq)
     clear hl hp
     go_wp2_with (at_builtin; refine wpList_append_own _ rfl (.tmp 33) (.tmp 38) 46 rfl w.heap.size 52 i0 (.agg #[.int .i64 0, .string ByteArray.empty]) 2 24 Tryz.underlying46 hi0 hz0 hz1 hz2 rfl (by decide) _ _ _ rfl (HO.out.alloc _) ⟨wr.heap.size, 0, none⟩ 1 1 [.int .i64 (p.2 : Nat), .string p.1] rfl rfl ?c1 ?c2 ?c3 ?c4 ?c5 ?_)
     case c1 => exact two_new _ _ _ _
     case c2 => simp [Value.oneCell']
     case c3 => simp only [maxLen]; omega
     case c4 => omega
     case c5 => simp; omega
     intro v' w1 hown1 hgrow1 _
     have hbel2 : Below w.heap.size w w1 := (HB.out.alloc HB.out.size _).grown hgrow1 (by simp; omega) (fun j hj => (HO.out.lt j hj).1)
     have hown2 : w1.ownsRow w.heap.size 52 2 v' (k + 1) (entsC (l.take (k + 1))) := by
      rw [HTK.out, entsC_app, entsC_one]
      exact hown1
     clear hgrow1 hown1
     go_wp2
     go_roundw
     case rel => exact ⟨k + 1, by omega, by go_num, hown2, HJ2, hbel2⟩
     case measure => simp [intOf]; omega
    ·have t1 : Op.bytesLess p.1.toList s.toList = false := by rw [less_is]; simpa using hl
     have HPS := Lib.hid hp
     have HLS := Lib.hid (show lt p.1 s = false by simpa using hl)
     clear hl hp
     have HHI := Lib.hid (show ∀ p, l[k]? = some p → lt p.1 s = false from fun q hq => by rw [HPS.out] at hq; cases hq; exact HLS.out)
     obtain ⟨mid, hmid⟩ : ∃ mid : Names, mid = [] := ⟨_, rfl⟩
     have HMID := Lib.hid hmid
     have HPP := Lib.hid (show putL l s id = l.take k ++ ([] ++ (l.drop k).filter (neB s)) from HPL.out k hk hJ.out HHI.out)
     have HLL := Lib.hid (show l.take k ++ (mid ++ ((l.take l.length).drop k).filter (neB s)) = putL l s id by rw [HMID.out, List.take_length, HPP.out])
     clear hmid
     have HST := Lib.hid (mid_none HO.out HMID.out)
     go_wp2
     go_loopw [8, 10] (fun o i wr => ∃ m : Nat, k ≤ m ∧ m ≤ l.length ∧ i = .int .i64 (m : Nat) ∧ (∃ z, z ≤ m + 1 ∧ wr.ownsRow w.heap.size 52 2 o z (entsC (l.take k ++ (mid ++ ((l.take m).drop k).filter (neB s))))) ∧ Below w.heap.size w wr) (fun _ i _ => l.length - (intOf i).toNat)
     case atStart => exact ⟨k, Nat.le_refl _, hk, rfl, by have h := HST.out; rw [List.drop_eq_nil_of_le (by rw [List.length_take]; omega), List.filter_nil, List.append_nil]; exact h, HB.out⟩
     case round =>
      obtain ⟨m, hkm, hm, rfl, hown, hbel⟩ := hrel
      obtain ⟨z, hz, hown⟩ := hown
      have HO := Lib.hid hown
      have HB := Lib.hid hbel
      clear hown hbel
      by_cases hlm : m < l.length
      ·obtain ⟨q, hq⟩ : ∃ q, l[m]? = some q := ⟨l[m], List.getElem?_eq_getElem hlm⟩
       obtain ⟨g2, hA2, hc1, hc2, hgg⟩ := HN.out wr HB.out m q hq
       obtain rfl : g = g2 := by injection hA2 with e; injection e
       clear hA2
       have HFO := Lib.hid (filt_one hkm hq s)
       have hsz := HB.out.size
       by_cases e : q.1 = s
       ·have t1 : (q.1.toList == s.toList) = true := by rw [e]; exact beq_self_eq_true _
        have HE := Lib.hid e
        clear e hq
        go_wp2
        go_roundw
        case rel => exact ⟨m + 1, by omega, by omega, by go_num, ⟨z, by omega, by rw [HFO.out, if_neg (fun x => x HE.out), List.append_nil]; exact HO.out⟩, HB.out⟩
        case measure => simp [intOf]; omega
       ·have t1 : (q.1.toList == s.toList) = false := beq_eq_false_iff_ne.2 fun x => e (toList_inj.1 x)
        have HE := Lib.hid e
        clear e hq
        go_wp2_with (at_builtin; refine wpList_append_own _ rfl (.tmp 61) (.tmp 66) 46 rfl w.heap.size 52 i0 (.agg #[.int .i64 0, .string ByteArray.empty]) 2 24 Tryz.underlying46 hi0 hz0 hz1 hz2 rfl (by decide) _ _ _ rfl (HO.out.alloc _) ⟨wr.heap.size, 0, none⟩ 1 1 [.int .i64 (q.2 : Nat), .string q.1] rfl rfl ?c1 ?c2 ?c3 ?c4 ?c5 ?_)
        case c1 => exact two_new _ _ _ _
        case c2 => simp [Value.oneCell']
        case c3 => simp only [maxLen]; omega
        case c4 => omega
        case c5 => simp; omega
        intro v' w1 hown1 hgrow1 _
        have hbel2 : Below w.heap.size w w1 := (HB.out.alloc HB.out.size _).grown hgrow1 (by simp; omega) (fun j hj => (HO.out.lt j hj).1)
        have hown2 : w1.ownsRow w.heap.size 52 2 v' (z + 1) (entsC (l.take k ++ (mid ++ ((l.take (m + 1)).drop k).filter (neB s)))) := by
         rw [HFO.out, if_pos HE.out, ← List.append_assoc mid, ← List.append_assoc (l.take k), entsC_app (l.take k ++ (mid ++ _)), entsC_one]
         exact hown1
        clear hgrow1 hown1
        go_wp2
        go_roundw
        case rel => exact ⟨m + 1, by omega, by omega, by go_num, ⟨z + 1, by omega, hown2⟩, hbel2⟩
        case measure => simp [intOf]; omega
      ·obtain rfl : m = l.length := by omega
       have hsz := HB.out.size
       have hE := ent_own HO.out
       rw [HLL.out] at hE
       obtain ⟨A8, c8, rfl⟩ := hE.1.shape
       have HE := Lib.hid hE
       have HT := Lib.hid (HR.out.below HB.out)
       obtain ⟨y0', y1'⟩ := HT.out.cells
       rw [HN1.out] at y0'
       have c3' := (HT.out.cel d HD.out).2.2.2
       have q3 := HT.out.frozen (d * 4 + 3)
       clear hE
       go_wp2
       refine bodyPost_ret (v := .tuple #[]) (by simp [results, Tryz.results83]) rfl ⟨rfl, ?_⟩
       rw [HPU.out]
       exact rput_end HR.out HD.out HL0.out HB.out HE.out.1 HE.out.2

   ·have HGE := Lib.hid (show l.length ≤ k by omega)
    have HHI := Lib.hid (show ∀ p, l[k]? = some p → lt p.1 s = false from fun q hq => by rw [List.getElem?_eq_none HGE.out] at hq; cases hq)
    obtain ⟨mid, hmid⟩ : ∃ mid : Names, mid = [] := ⟨_, rfl⟩
    have HMID := Lib.hid hmid
    have HPP := Lib.hid (show putL l s id = l.take k ++ ([] ++ (l.drop k).filter (neB s)) from HPL.out k hk hJ.out HHI.out)
    have HLL := Lib.hid (show l.take k ++ (mid ++ ((l.take l.length).drop k).filter (neB s)) = putL l s id by rw [HMID.out, List.take_length, HPP.out])
    clear hmid
    have HST := Lib.hid (mid_none HO.out HMID.out)
    go_wp2
    go_loopw [8, 10] (fun o i wr => ∃ m : Nat, k ≤ m ∧ m ≤ l.length ∧ i = .int .i64 (m : Nat) ∧ (∃ z, z ≤ m + 1 ∧ wr.ownsRow w.heap.size 52 2 o z (entsC (l.take k ++ (mid ++ ((l.take m).drop k).filter (neB s))))) ∧ Below w.heap.size w wr) (fun _ i _ => l.length - (intOf i).toNat)
    case atStart => exact ⟨k, Nat.le_refl _, hk, rfl, by have h := HST.out; rw [List.drop_eq_nil_of_le (by rw [List.length_take]; omega), List.filter_nil, List.append_nil]; exact h, HB.out⟩
    case round =>
     obtain ⟨m, hkm, hm, rfl, hown, hbel⟩ := hrel
     obtain ⟨z, hz, hown⟩ := hown
     have HO := Lib.hid hown
     have HB := Lib.hid hbel
     clear hown hbel
     by_cases hlm : m < l.length
     ·exact absurd hlm (by have := HGE.out; omega)
     ·obtain rfl : m = l.length := by omega
      have hsz := HB.out.size
      have hE := ent_own HO.out
      rw [HLL.out] at hE
      obtain ⟨A8, c8, rfl⟩ := hE.1.shape
      have HE := Lib.hid hE
      have HT := Lib.hid (HR.out.below HB.out)
      obtain ⟨y0', y1'⟩ := HT.out.cells
      rw [HN1.out] at y0'
      have c3' := (HT.out.cel d HD.out).2.2.2
      have q3 := HT.out.frozen (d * 4 + 3)
      clear hE
      go_wp2
      refine bodyPost_ret (v := .tuple #[]) (by simp [results, Tryz.results83]) rfl ⟨rfl, ?_⟩
      rw [HPU.out]
      exact rput_end HR.out HD.out HL0.out HB.out HE.out.1 HE.out.2

 ·have t0 : (((id : Nat) : Int) != 0) = true := bne_iff_ne.2 (by omega)
  rw [if_neg hid] at HPL
  clear hid
  go_enter Tryz.func83, Tryz.ntmps83
  go_wp2
  go_loopw [8, 10] (fun o i wr => ∃ k : Nat, k ≤ l.length ∧ i = .int .i64 (k : Nat) ∧ wr.ownsRow w.heap.size 52 2 o k (entsC (l.take k)) ∧ Hid (∀ j p, j < k → l[j]? = some p → lt p.1 s = true) ∧ Below w.heap.size w wr) (fun _ i _ => l.length - (intOf i).toNat)
  case atStart => exact ⟨0, Nat.zero_le _, rfl, World.ownsRow_made w #[] 0 (Nat.le_refl _) (Nat.zero_le _) rfl, Lib.hid (fun j p hj => by omega), (Below.refl _ _).alloc (Nat.le_refl _) _⟩
  case round =>
   obtain ⟨k, hk, rfl, hown, hJ, hbel⟩ := hrel
   have HO := Lib.hid hown
   have HB := Lib.hid hbel
   clear hown hbel
   by_cases hlt : k < l.length
   ·obtain ⟨p, hp⟩ : ∃ p, l[k]? = some p := ⟨l[k], List.getElem?_eq_getElem hlt⟩
    obtain ⟨g, rfl, hc1, hc2, hgg⟩ := HN.out wr HB.out k p hp
    have hsz := HB.out.size
    by_cases hl : lt p.1 s = true
    ·have t1 : Op.bytesLess p.1.toList s.toList = true := by rw [less_is]; exact hl
     have HTK := Lib.hid (take_one hp)
     have HJ2 := Lib.hid (show ∀ j p, j < k + 1 → l[j]? = some p → lt p.1 s = true from fun j q hj hq => by
      by_cases e : j = k
      ·subst e; rw [hp] at hq; cases hq; exact hl
      ·exact hJ.out j q (by omega) hq)
     clear hl hp
     go_wp2_with (at_builtin; refine wpList_append_own _ rfl (.tmp 33) (.tmp 38) 46 rfl w.heap.size 52 i0 (.agg #[.int .i64 0, .string ByteArray.empty]) 2 24 Tryz.underlying46 hi0 hz0 hz1 hz2 rfl (by decide) _ _ _ rfl (HO.out.alloc _) ⟨wr.heap.size, 0, none⟩ 1 1 [.int .i64 (p.2 : Nat), .string p.1] rfl rfl ?c1 ?c2 ?c3 ?c4 ?c5 ?_)
     case c1 => exact two_new _ _ _ _
     case c2 => simp [Value.oneCell']
     case c3 => simp only [maxLen]; omega
     case c4 => omega
     case c5 => simp; omega
     intro v' w1 hown1 hgrow1 _
     have hbel2 : Below w.heap.size w w1 := (HB.out.alloc HB.out.size _).grown hgrow1 (by simp; omega) (fun j hj => (HO.out.lt j hj).1)
     have hown2 : w1.ownsRow w.heap.size 52 2 v' (k + 1) (entsC (l.take (k + 1))) := by
      rw [HTK.out, entsC_app, entsC_one]
      exact hown1
     clear hgrow1 hown1
     go_wp2
     go_roundw
     case rel => exact ⟨k + 1, by omega, by go_num, hown2, HJ2, hbel2⟩
     case measure => simp [intOf]; omega
    ·have t1 : Op.bytesLess p.1.toList s.toList = false := by rw [less_is]; simpa using hl
     have HPS := Lib.hid hp
     have HLS := Lib.hid (show lt p.1 s = false by simpa using hl)
     clear hl hp
     have HHI := Lib.hid (show ∀ p, l[k]? = some p → lt p.1 s = false from fun q hq => by rw [HPS.out] at hq; cases hq; exact HLS.out)
     obtain ⟨mid, hmid⟩ : ∃ mid : Names, mid = [(s, id)] := ⟨_, rfl⟩
     have HMID := Lib.hid hmid
     have HPP := Lib.hid (show putL l s id = l.take k ++ ([(s, id)] ++ (l.drop k).filter (neB s)) from HPL.out k hk hJ.out HHI.out)
     have HLL := Lib.hid (show l.take k ++ (mid ++ ((l.take l.length).drop k).filter (neB s)) = putL l s id by rw [HMID.out, List.take_length, HPP.out])
     clear hmid
     have hsz := HB.out.size
     go_wp2_with (at_builtin; refine wpList_append_own _ rfl (.tmp 44) (.tmp 48) 46 rfl w.heap.size 52 i0 (.agg #[.int .i64 0, .string ByteArray.empty]) 2 24 Tryz.underlying46 hi0 hz0 hz1 hz2 rfl (by decide) _ _ _ rfl (HO.out.alloc _) ⟨wr.heap.size, 0, none⟩ 1 1 [.int .i64 (id : Nat), .string s] rfl rfl ?c1 ?c2 ?c3 ?c4 ?c5 ?_)
     case c1 => exact two_new _ _ _ _
     case c2 => simp [Value.oneCell']
     case c3 => simp only [maxLen]; omega
     case c4 => omega
     case c5 => simp; omega
     intro v' w1 hown1 hgrow1 _
     have hbel2 : Below w.heap.size w w1 := (HB.out.alloc HB.out.size _).grown hgrow1 (by simp; omega) (fun j hj => (HO.out.lt j hj).1)
     have HST : Hid (∃ z, z ≤ k + 1 ∧ w1.ownsRow w.heap.size 52 2 v' z (entsC (l.take k ++ mid))) := Lib.hid ⟨k + 1, Nat.le_refl _, by rw [HMID.out, entsC_app, entsC_one]; exact hown1⟩
     have HB := Lib.hid hbel2
     clear hgrow1 hown1 hbel2 hsz
     go_wp2
     go_loopw [8, 10] (fun o i wr => ∃ m : Nat, k ≤ m ∧ m ≤ l.length ∧ i = .int .i64 (m : Nat) ∧ (∃ z, z ≤ m + 1 ∧ wr.ownsRow w.heap.size 52 2 o z (entsC (l.take k ++ (mid ++ ((l.take m).drop k).filter (neB s))))) ∧ Below w.heap.size w wr) (fun _ i _ => l.length - (intOf i).toNat)
     case atStart => exact ⟨k, Nat.le_refl _, hk, rfl, by have h := HST.out; rw [List.drop_eq_nil_of_le (by rw [List.length_take]; omega), List.filter_nil, List.append_nil]; exact h, HB.out⟩
     case round =>
      obtain ⟨m, hkm, hm, rfl, hown, hbel⟩ := hrel
      obtain ⟨z, hz, hown⟩ := hown
      have HO := Lib.hid hown
      have HB := Lib.hid hbel
      clear hown hbel
      by_cases hlm : m < l.length
      ·obtain ⟨q, hq⟩ : ∃ q, l[m]? = some q := ⟨l[m], List.getElem?_eq_getElem hlm⟩
       obtain ⟨g2, hA2, hc1, hc2, hgg⟩ := HN.out wr HB.out m q hq
       obtain rfl : g = g2 := by injection hA2 with e; injection e
       clear hA2
       have HFO := Lib.hid (filt_one hkm hq s)
       have hsz := HB.out.size
       by_cases e : q.1 = s
       ·have t1 : (q.1.toList == s.toList) = true := by rw [e]; exact beq_self_eq_true _
        have HE := Lib.hid e
        clear e hq
        go_wp2
        go_roundw
        case rel => exact ⟨m + 1, by omega, by omega, by go_num, ⟨z, by omega, by rw [HFO.out, if_neg (fun x => x HE.out), List.append_nil]; exact HO.out⟩, HB.out⟩
        case measure => simp [intOf]; omega
       ·have t1 : (q.1.toList == s.toList) = false := beq_eq_false_iff_ne.2 fun x => e (toList_inj.1 x)
        have HE := Lib.hid e
        clear e hq
        go_wp2_with (at_builtin; refine wpList_append_own _ rfl (.tmp 61) (.tmp 66) 46 rfl w.heap.size 52 i0 (.agg #[.int .i64 0, .string ByteArray.empty]) 2 24 Tryz.underlying46 hi0 hz0 hz1 hz2 rfl (by decide) _ _ _ rfl (HO.out.alloc _) ⟨wr.heap.size, 0, none⟩ 1 1 [.int .i64 (q.2 : Nat), .string q.1] rfl rfl ?c1 ?c2 ?c3 ?c4 ?c5 ?_)
        case c1 => exact two_new _ _ _ _
        case c2 => simp [Value.oneCell']
        case c3 => simp only [maxLen]; omega
        case c4 => omega
        case c5 => simp; omega
        intro v' w1 hown1 hgrow1 _
        have hbel2 : Below w.heap.size w w1 := (HB.out.alloc HB.out.size _).grown hgrow1 (by simp; omega) (fun j hj => (HO.out.lt j hj).1)
        have hown2 : w1.ownsRow w.heap.size 52 2 v' (z + 1) (entsC (l.take k ++ (mid ++ ((l.take (m + 1)).drop k).filter (neB s)))) := by
         rw [HFO.out, if_pos HE.out, ← List.append_assoc mid, ← List.append_assoc (l.take k), entsC_app (l.take k ++ (mid ++ _)), entsC_one]
         exact hown1
        clear hgrow1 hown1
        go_wp2
        go_roundw
        case rel => exact ⟨m + 1, by omega, by omega, by go_num, ⟨z + 1, by omega, hown2⟩, hbel2⟩
        case measure => simp [intOf]; omega
      ·obtain rfl : m = l.length := by omega
       have hsz := HB.out.size
       have hE := ent_own HO.out
       rw [HLL.out] at hE
       obtain ⟨A8, c8, rfl⟩ := hE.1.shape
       have HE := Lib.hid hE
       have HT := Lib.hid (HR.out.below HB.out)
       obtain ⟨y0', y1'⟩ := HT.out.cells
       rw [HN1.out] at y0'
       have c3' := (HT.out.cel d HD.out).2.2.2
       have q3 := HT.out.frozen (d * 4 + 3)
       clear hE
       go_wp2
       refine bodyPost_ret (v := .tuple #[]) (by simp [results, Tryz.results83]) rfl ⟨rfl, ?_⟩
       rw [HPU.out]
       exact rput_end HR.out HD.out HL0.out HB.out HE.out.1 HE.out.2

   ·have HGE := Lib.hid (show l.length ≤ k by omega)
    have HHI := Lib.hid (show ∀ p, l[k]? = some p → lt p.1 s = false from fun q hq => by rw [List.getElem?_eq_none HGE.out] at hq; cases hq)
    obtain ⟨mid, hmid⟩ : ∃ mid : Names, mid = [(s, id)] := ⟨_, rfl⟩
    have HMID := Lib.hid hmid
    have HPP := Lib.hid (show putL l s id = l.take k ++ ([(s, id)] ++ (l.drop k).filter (neB s)) from HPL.out k hk hJ.out HHI.out)
    have HLL := Lib.hid (show l.take k ++ (mid ++ ((l.take l.length).drop k).filter (neB s)) = putL l s id by rw [HMID.out, List.take_length, HPP.out])
    clear hmid
    have hsz := HB.out.size
    go_wp2_with (at_builtin; refine wpList_append_own _ rfl (.tmp 44) (.tmp 48) 46 rfl w.heap.size 52 i0 (.agg #[.int .i64 0, .string ByteArray.empty]) 2 24 Tryz.underlying46 hi0 hz0 hz1 hz2 rfl (by decide) _ _ _ rfl (HO.out.alloc _) ⟨wr.heap.size, 0, none⟩ 1 1 [.int .i64 (id : Nat), .string s] rfl rfl ?c1 ?c2 ?c3 ?c4 ?c5 ?_)
    case c1 => exact two_new _ _ _ _
    case c2 => simp [Value.oneCell']
    case c3 => simp only [maxLen]; omega
    case c4 => omega
    case c5 => simp; omega
    intro v' w1 hown1 hgrow1 _
    have hbel2 : Below w.heap.size w w1 := (HB.out.alloc HB.out.size _).grown hgrow1 (by simp; omega) (fun j hj => (HO.out.lt j hj).1)
    have HST : Hid (∃ z, z ≤ k + 1 ∧ w1.ownsRow w.heap.size 52 2 v' z (entsC (l.take k ++ mid))) := Lib.hid ⟨k + 1, Nat.le_refl _, by rw [HMID.out, entsC_app, entsC_one]; exact hown1⟩
    have HB := Lib.hid hbel2
    clear hgrow1 hown1 hbel2 hsz
    go_wp2
    go_loopw [8, 10] (fun o i wr => ∃ m : Nat, k ≤ m ∧ m ≤ l.length ∧ i = .int .i64 (m : Nat) ∧ (∃ z, z ≤ m + 1 ∧ wr.ownsRow w.heap.size 52 2 o z (entsC (l.take k ++ (mid ++ ((l.take m).drop k).filter (neB s))))) ∧ Below w.heap.size w wr) (fun _ i _ => l.length - (intOf i).toNat)
    case atStart => exact ⟨k, Nat.le_refl _, hk, rfl, by have h := HST.out; rw [List.drop_eq_nil_of_le (by rw [List.length_take]; omega), List.filter_nil, List.append_nil]; exact h, HB.out⟩
    case round =>
     obtain ⟨m, hkm, hm, rfl, hown, hbel⟩ := hrel
     obtain ⟨z, hz, hown⟩ := hown
     have HO := Lib.hid hown
     have HB := Lib.hid hbel
     clear hown hbel
     by_cases hlm : m < l.length
     ·exact absurd hlm (by have := HGE.out; omega)
     ·obtain rfl : m = l.length := by omega
      have hsz := HB.out.size
      have hE := ent_own HO.out
      rw [HLL.out] at hE
      obtain ⟨A8, c8, rfl⟩ := hE.1.shape
      have HE := Lib.hid hE
      have HT := Lib.hid (HR.out.below HB.out)
      obtain ⟨y0', y1'⟩ := HT.out.cells
      rw [HN1.out] at y0'
      have c3' := (HT.out.cel d HD.out).2.2.2
      have q3 := HT.out.frozen (d * 4 + 3)
      clear hE
      go_wp2
      refine bodyPost_ret (v := .tuple #[]) (by simp [results, Tryz.results83]) rfl ⟨rfl, ?_⟩
      rw [HPU.out]
      exact rput_end HR.out HD.out HL0.out HB.out HE.out.1 HE.out.2

end
end Go.Proofs.YtpkhglfhpggceaaGreatDoor
namespace Go.Proofs.YtpkhglfhpggceaaGreatDoor
open Go.RowKit
set_option linter.unusedVariables false
set_option linter.unusedSimpArgs false

theorem info75 : (Tryz.prog.info? 75).map (fun i => (i.zero, i.size, i.bytes)) = some (some (.agg #[.int .i64 0, .int .i64 0, .slice none 0 0, .slice none 0 0]), 4, 64) := by kernel_rfl
theorem four_new (w : World) (t : TypeId) (a b c d : Value) : ∀ (j : Nat) (x : Value), [a, b, c, d][j]? = some x → (w.alloc (.cells #[a, b, c, d] t)).cell? ((⟨w.heap.size, 0, none⟩ : Addr).add j) = some x := by
 intro j x hj
 rcases j with _ | _ | _ | _ | j <;> simp at hj
 all_goals
  subst hj
  simp [go_sem, Addr.add]
section
variable {F : Nat → Prop} {w w' : World} {y c : Nat} {R : RMem} {a : TS}
/-- The row, as an append takes it. -/
theorem RIs.owns (h : RIs F w y R a) : ∃ L : List Value, w.ownsRow 0 75 4 (.slice (some ⟨R.g, 0, none⟩) (a.last + 1) R.cap) (a.last + 1) L ∧ L.length = (a.last + 1) * 4 ∧ ∀ i, i < (a.last + 1) * 4 → L[i]? = w.cell? ⟨R.g, i, none⟩ := by
 obtain ⟨cs, hb, hsz⟩ := h.row
 have hfit := h.fit
 have hl : (cs.toList.take ((a.last + 1) * 4)).length = (a.last + 1) * 4 := by rw [List.length_take, Array.length_toList, hsz]; omega
 refine ⟨cs.toList.take ((a.last + 1) * 4), ⟨hl, .inr ⟨R.g, R.cap, cs, rfl, Nat.zero_le _, hb, hfit, h.few, by omega, rfl⟩⟩, hl, fun i hi => ?_⟩
 rw [List.getElem?_take_of_lt hi, hb.cell, Array.getElem?_toList]
def freshT (a : TS) (kind : Int) : TS := ⟨a.last + 1, setF a.nd (a.last + 1) ⟨kind, 1, [], []⟩, a.op⟩
theorem RIs.appended (h : RIs F w y R a) {L : List Value} (hL : ∀ i, i < (a.last + 1) * 4 → L[i]? = w.cell? ⟨R.g, i, none⟩) (hLl : L.length = (a.last + 1) * 4) {w1 : World} {g' cap' : Nat} {kind : Int} {o : Obj}
  (hown : w1.ownsRow 0 75 4 (.slice (some ⟨g', 0, none⟩) (a.last + 1 + 1) cap') (a.last + 1 + 1) (L ++ [.int .i64 kind, .int .i64 1, .slice none 0 0, .slice none 0 0])) (hgr : (w.alloc o).grownBy w1 (some R.g)) (hat : g' = R.g ∨ g' = w.heap.size + 1) :
  RSt (grow F w (w1.setCell ⟨y, 0, none⟩ (.slice (some ⟨g', 0, none⟩) (a.last + 1 + 1) cap'))) (w1.setCell ⟨y, 0, none⟩ (.slice (some ⟨g', 0, none⟩) (a.last + 1 + 1) cap')) y (freshT a kind) ∧
   Turn F w (w1.setCell ⟨y, 0, none⟩ (.slice (some ⟨g', 0, none⟩) (a.last + 1 + 1) cap')) := by
 have hT1 : Turn (fun j => j = R.g) w w1 := ((Turn.refl (fun j => j = R.g) w).alloc o).grown hgr (fun k hk _ => (Option.some.inj hk).symm)
 have hT2 : Turn (fun j => j = R.g ∨ j = y) w (w1.setCell ⟨y, 0, none⟩ (.slice (some ⟨g', 0, none⟩) (a.last + 1 + 1) cap')) := (hT1.mono (S' := fun j => j = R.g ∨ j = y) fun i _ e => .inl e).setCell (p := ⟨y, 0, none⟩) (fun _ => .inr rfl) _
 have hs : (w1.setCell ⟨y, 0, none⟩ (.slice (some ⟨g', 0, none⟩) (a.last + 1 + 1) cap')).heap.size = w1.heap.size := by simp [World.setCell]
 have hsz1 : w.heap.size + 1 ≤ w1.heap.size := by have := hgr.size; simpa using this
 have hyF : F y := h.fo _ (.inl rfl)
 have hgF : F R.g := h.fo _ (.inr (.inl rfl))
 have hfF : F R.fb := h.fo _ (.inr (.inr rfl))
 have hne := h.ne
 have hgy : g' ≠ y := by
  rcases hat with e | e
  ·rw [e]; exact hne.1.symm
  ·have := h.lt _ hyF; omega
 rcases hown.2 with ⟨hv, _⟩ | ⟨g2, cap2, cur, hv, hb0, hg, hnc, hcm, hcs, ht⟩
 ·cases hv
 injection hv with e1 e2 e3
 injection e1 with e1
 injection e1 with e1
 subst e1 e3
 have hrowF : grow F w (w1.setCell ⟨y, 0, none⟩ (.slice (some ⟨g', 0, none⟩) (a.last + 1 + 1) cap')) g' := by
  rcases hat with e | e
  ·rw [e]; exact .inl hgF
  ·have hlt := (Array.getElem?_eq_some_iff.1 hg).1
   exact .inr ⟨by omega, by rw [hs]; exact hlt⟩
 have hcell : ∀ i u, (L ++ [.int .i64 kind, .int .i64 1, .slice none 0 0, .slice none 0 0])[i]? = some u → (w1.setCell ⟨y, 0, none⟩ (.slice (some ⟨g', 0, none⟩) (a.last + 1 + 1) cap')).cell? ⟨g', i, none⟩ = some u := fun i u hu => by
  have h1 := hown.cells (g := g') rfl i u hu
  rw [addr_add, Nat.zero_add] at h1
  exact (World.cell?_of_block (a := ⟨g', i, none⟩) (Below.heap_setCell w1 ⟨y, 0, none⟩ _ g' hgy)).trans h1
 have hold : ∀ i u, i < (a.last + 1) * 4 → w.cell? ⟨R.g, i, none⟩ = some u → (w1.setCell ⟨y, 0, none⟩ (.slice (some ⟨g', 0, none⟩) (a.last + 1 + 1) cap')).cell? ⟨g', i, none⟩ = some u := fun i u hi hu => hcell i u (by rw [List.getElem?_append_left (by omega), hL i hi, hu])
 have hnew : ∀ f u, [Value.int .i64 kind, .int .i64 1, .slice none 0 0, .slice none 0 0][f]? = some u → (w1.setCell ⟨y, 0, none⟩ (.slice (some ⟨g', 0, none⟩) (a.last + 1 + 1) cap')).cell? ⟨g', (a.last + 1) * 4 + f, none⟩ = some u := fun f u hu => hcell _ u (by rw [List.getElem?_append_right (by omega), hLl, Nat.add_sub_cancel_left]; exact hu)
 have hnown : ∀ j, (F j ∧ ¬ R.own y j) → (grow F w (w1.setCell ⟨y, 0, none⟩ (.slice (some ⟨g', 0, none⟩) (a.last + 1 + 1) cap')) j ∧ ¬ ({ R with g := g', cap := cap', dv := setF R.dv (a.last + 1) (.slice none 0 0), nv := setF R.nv (a.last + 1) (.slice none 0 0) } : RMem).own y j) := fun j hj => ⟨.inl hj.1, fun e => by
  rcases e with e | e | e
  ·exact hj.2 (.inl e)
  ·have e : j = g' := e
   rcases hat with e2 | e2
   ·exact hj.2 (.inr (.inl (e.trans e2)))
   ·have := h.lt j hj.1; omega
  ·exact hj.2 (.inr (.inr e))⟩
 have hold2 : ∀ j, (F j ∧ ¬ R.own y j) → ¬ (j = R.g ∨ j = y) := fun j hj e => by
  rcases e with e | e
  ·exact hj.2 (.inr (.inl e))
  ·exact hj.2 (.inl e)
 refine ⟨⟨{ R with g := g', cap := cap', dv := setF R.dv (a.last + 1) (.slice none 0 0), nv := setF R.nv (a.last + 1) (.slice none 0 0) }, ?_, ?_, hnc, hcm, fun k hk => ?_, fun k hk => ?_, fun k hk => ?_, ?_, h.op, fun j hj => ?_, fun j hj => ?_, fun hj => ?_⟩, hT2.mono fun i _ e => ?_⟩
 ·exact (h.blk.turn hT1 hne.1).set_ 0 _
 ·exact ⟨cur, (show Blk w1 g' 75 cur from hg).far (p := ⟨y, 0, none⟩) hgy _, by show cur.size = cap' * 4; omega⟩
 ·have hk : k ≤ a.last + 1 := hk
  by_cases e : k = a.last + 1
  ·subst e
   show _ = some (Value.int .i64 (setF a.nd (a.last + 1) ⟨kind, 1, [], []⟩ (a.last + 1)).kind) ∧ _ = some (Value.int .i64 (setF a.nd (a.last + 1) ⟨kind, 1, [], []⟩ (a.last + 1)).links) ∧ _ = some (setF R.dv (a.last + 1) (.slice none 0 0) (a.last + 1)) ∧ _ = some (setF R.nv (a.last + 1) (.slice none 0 0) (a.last + 1))
   rw [setF_same, setF_same, setF_same]
   exact ⟨hnew 0 _ rfl, hnew 1 _ rfl, hnew 2 _ rfl, hnew 3 _ rfl⟩
  ·show _ = some (Value.int .i64 (setF a.nd (a.last + 1) ⟨kind, 1, [], []⟩ k).kind) ∧ _ = some (Value.int .i64 (setF a.nd (a.last + 1) ⟨kind, 1, [], []⟩ k).links) ∧ _ = some (setF R.dv (a.last + 1) (.slice none 0 0) k) ∧ _ = some (setF R.nv (a.last + 1) (.slice none 0 0) k)
   rw [setF_other _ _ e, setF_other _ _ e, setF_other _ _ e]
   obtain ⟨c0, c1, c2, c3⟩ := h.cel k (by omega)
   exact ⟨hold _ _ (by omega) c0, hold _ _ (by omega) c1, hold _ _ (by omega) c2, hold _ _ (by omega) c3⟩
 ·have hk : k ≤ a.last + 1 := hk
  show Bs _ (setF R.dv (a.last + 1) (.slice none 0 0) k) (setF a.nd (a.last + 1) ⟨kind, 1, [], []⟩ k).data ∧ At _ (setF R.dv (a.last + 1) (.slice none 0 0) k)
  by_cases e : k = a.last + 1
  ·subst e
   rw [setF_same, setF_same]
   exact ⟨.inl ⟨rfl, rfl⟩, At.nil _⟩
  ·rw [setF_other _ _ e, setF_other _ _ e]
   obtain ⟨d1, d2⟩ := h.dat k (by omega)
   exact ⟨d1.turn' hT2 (d2.mono hold2), d2.mono hnown⟩
 ·have hk : k ≤ a.last + 1 := hk
  show Ent _ (setF R.nv (a.last + 1) (.slice none 0 0) k) (setF a.nd (a.last + 1) ⟨kind, 1, [], []⟩ k).names ∧ At _ (setF R.nv (a.last + 1) (.slice none 0 0) k)
  by_cases e : k = a.last + 1
  ·subst e
   rw [setF_same, setF_same]
   exact ⟨Ent.nil _, At.nil _⟩
  ·rw [setF_other _ _ e, setF_other _ _ e]
   obtain ⟨d1, d2⟩ := h.nam k (by omega)
   exact ⟨d1.turn hT2 (d2.mono hold2), d2.mono hnown⟩
 ·exact h.tab.turn hT2 fun e => by
   rcases e with e | e
   ·exact hne.2.2 e.symm
   ·exact hne.2.1 e.symm
 ·rcases hj with e | e | e
  ·exact .inl (by rw [show j = y from e]; exact hyF)
  ·rw [show j = g' from e]; exact hrowF
  ·exact .inl (by rw [show j = R.fb from e]; exact hfF)
 ·rcases hj with hj | hj
  ·have := h.lt j hj; omega
  ·exact hj.2
 ·rcases hj with hj | hj
  ·exact h.f0 hj
  ·have := h.w0; omega
 ·rcases e with e | e
  ·rw [e]; exact hgF
  ·rw [e]; exact hyF
end
end Go.Proofs.YtpkhglfhpggceaaGreatDoor
namespace Go.Proofs.YtpkhglfhpggceaaGreatDoor
set_option maxRecDepth 100000
set_option maxHeartbeats 16000000
open Go.RowKit
set_option linter.unusedVariables false
set_option linter.unusedSimpArgs false
section
variable {F : Nat → Prop} {w w' : World} {y c : Nat} {R : RMem} {a : TS}
theorem own_shape {w : World} {b e s n : Nat} {v : Value} {xs : List Value} (h : w.ownsRow b e s v n xs) (hn : 0 < n) : ∃ g cap, v = .slice (some ⟨g, 0, none⟩) n cap := by
 rcases h.2 with ⟨hv, h0⟩ | ⟨g, cap, cur, hv, _⟩
 ·omega
 ·exact ⟨g, cap, hv⟩
theorem RSt.grow2 {w1 w2 : World} {a' : TS} (h : RSt (grow (grow F w w1) w1 w2) w2 y a') (h1 : w.heap.size ≤ w1.heap.size) (h2 : w1.heap.size ≤ w2.heap.size) : RSt (grow F w w2) w2 y a' := by
 have e : grow (grow F w w1) w1 w2 = grow F w w2 := by
  funext j
  apply propext
  unfold grow
  constructor
  ·rintro ((h | h) | h)
   ·exact .inl h
   ·exact .inr ⟨h.1, by omega⟩
   ·exact .inr ⟨by omega, h.2⟩
  ·rintro (h | h)
   ·exact .inl (.inl h)
   ·rcases Nat.lt_or_ge j w1.heap.size with hl | hl
    ·exact .inl (.inr ⟨h.1, hl⟩)
    ·exact .inr ⟨hl, h.2⟩
 rw [e] at h
 exact h
def RIntPost (F : Nat → Prop) (y : Nat) (a' : TS) (r : Value) (w : World) (e : Ending) (w' : World) : Prop := e = .returned r ∧ RSt (grow F w w') w' y a' ∧ Turn F w w'
theorem rmore_any (d : Nat) (s : ByteArray) (kind : Int) (w : World) (h : RIs F w y R a) (hg : Good a c) (hc : c + 10 ≤ 100000) (hd : (a.nd d).kind = 2) (hkd : kind = 1 ∨ kind = 2) :
  Calls Tryz.prog 76 #[.pointer (some ⟨y, 0, none⟩), .int .i64 (d : Nat), .string s, .int .i64 kind] w (RIntPost F y (a.more d s kind) (.int .i64 ((a.last : Int) + 1)) w) := by
 obtain ⟨i0, hi0, hz0, hz1, hz2⟩ := info_parts info75
 obtain ⟨y0, y1⟩ := h.cells
 obtain ⟨L, hown, hLl, hL⟩ := h.owns
 have hyl := h.blk.lt
 have hfew := hg.few
 have hdl := (hg.in_last (k := d) (by rw [hd]; decide)).2
 have HOW := Lib.hid (hown.alloc (.cells #[.int .i64 kind, .int .i64 1, .slice none 0 0, .slice none 0 0] 75))
 have HAP := Lib.hid (fun w1 g' cap' o h1 h2 h3 => h.appended (w1 := w1) (g' := g') (cap' := cap') (kind := kind) (o := o) hL hLl h1 h2 h3)
 have HPU := Lib.hid (fun F' W R' (h' : RIs F' W y R' (freshT a kind)) => rput_any d s (a.last + 1) W h' (hg.fresh hkd) (by omega) (show d ≤ a.last + 1 by omega))
 have HM := Lib.hid (show (freshT a kind).put d s (a.last + 1) = a.more d s kind from rfl)
 have HNE := Lib.hid h.ne.1
 have HB := Lib.hid h.blk
 have hL1 : L.length ≤ 400040 := by rw [hLl]; omega
 have HF := Lib.hid h.lt
 have HYF := Lib.hid (h.fo _ (.inl rfl))
 have h01 : R.g < w.heap.size := h.lt _ (h.fo _ (.inr (.inl rfl)))
 clear h hg hd hown hL hLl hkd
 generalize hnn : a.last + 1 = n1 at *
 have hnb : n1 ≤ 100001 := by omega
 have HNN := Lib.hid hnn
 clear hnn
 go_enter Tryz.func76, Tryz.ntmps76
 go_wp2_with (at_builtin; refine wpList_append_own_at _ rfl (.tmp 13) (.tmp 16) 54 rfl 0 75 i0 (.agg #[.int .i64 0, .int .i64 0, .slice none 0 0, .slice none 0 0]) 4 64 Tryz.underlying54 hi0 hz0 hz1 hz2 rfl (by decide) _ _ _ rfl HOW.out ⟨w.heap.size, 0, none⟩ 1 1 [.int .i64 kind, .int .i64 1, .slice none 0 0, .slice none 0 0] rfl rfl ?c1 ?c2 ?c3 ?c4 ?c5 ?_)
 case c1 => exact four_new _ _ _ _ _ _
 case c2 => simp [Value.oneCell']
 case c3 => simp only [maxLen]; omega
 case c4 => omega
 case c5 => exact Nat.zero_le _
 intro v' w1 hown1 hgr1 _ hat1
 obtain ⟨g', cap', rfl⟩ := own_shape hown1 (by omega)
 have hat2 : g' = R.g ∨ g' = w.heap.size + 1 := by
  rcases hat1 with e | e
  ·exact .inl (Option.some.inj e)
  ·exact .inr (by have := Option.some.inj e; simpa using this)
 have hT1 : Turn (fun j => j = R.g) w w1 := ((Turn.refl (fun j => j = R.g) w).alloc _).grown hgr1 (fun k hk _ => (Option.some.inj hk).symm)
 have hyb := HB.out.turn hT1 HNE.out
 have z0 := hyb.cell 0
 have zq := hyb.frozen 0
 simp at z0
 have HAD := Lib.hid (HAP.out w1 g' cap' _ hown1 hgr1 hat2)
 clear hown1 hgr1 hat1 hat2 hT1
 have hyl1 := hyb.lt
 have HY2 := Lib.hid (hyb.set_ 0 (.slice (some ⟨g', 0, none⟩) (n1 + 1) cap'))
 clear hyb
 go_upto_region 2 with (fail)
 clear z0 zq
 generalize w1.setCell ⟨y, 0, none⟩ (.slice (some ⟨g', 0, none⟩) (n1 + 1) cap') = w2 at *
 have z0 := HY2.out.cell 0
 simp at z0
 go_wp2_with fail
 obtain ⟨⟨R2, hR2⟩, hTu2⟩ := HAD.out
 have HTu2 := Lib.hid hTu2
 have HR2 := Lib.hid hR2
 clear hR2 hTu2 z0
 refine (HPU.out _ _ _ HR2.out).mono ?_
 rintro e w3 ⟨rfl, hs3, hTu3⟩
 rw [HM.out] at hs3
 have HTu3 := Lib.hid hTu3
 have hs4 : RSt (grow F w w3) w3 y (a.more d s kind) := hs3.grow2 HTu2.out.size hTu3.size
 have HS := Lib.hid hs4
 obtain ⟨R3, h3⟩ := hs4
 have z0 := h3.cells.1
 have z1 : w3.cell? ⟨y, 0, none⟩ = some (.slice (some ⟨R3.g, 0, none⟩) (n1 + 1) R3.cap) := by rw [← HNN.out]; exact z0
 clear z0 h3 hs3 hTu3
 go_wp2
 go_ret
 refine ⟨?_, HS.out, HTu2.out.trans (S' := grow F w w2) HTu3.out fun i hi e => ?_⟩
 ·have : ((n1 : Nat) : Int) = (a.last : Int) + 1 := by have := HNN.out; omega
  rw [← this]
  rfl
 ·rcases e with e | e
  ·exact e
  ·omega

theorem cnt_op (h : RIs F w y R a) (k : Int) : rcountTo R.I R.T k 8 = cntO a.op k := by
 unfold rcountTo cntO
 congr 1
 refine List.filter_congr fun i hi => ?_
 rw [h.op i (List.mem_range.1 hi)]
 unfold opOf
 cases R.I i <;> simp
theorem RIs.zeroed (h : RIs F w y R a) {k : Nat} (hk : k ≤ a.last) :
  RIs F ((((w.setCell ⟨R.g, k * 4, none⟩ (.int .i64 0)).setCell ⟨R.g, k * 4 + 1, none⟩ (.int .i64 0)).setCell ⟨R.g, k * 4 + 2, none⟩ (.slice none 0 0)).setCell ⟨R.g, k * 4 + 3, none⟩ (.slice none 0 0)) y { R with dv := setF R.dv k (.slice none 0 0), nv := setF R.nv k (.slice none 0 0) } (a.setNd k nd0) ∧
  Turn F w ((((w.setCell ⟨R.g, k * 4, none⟩ (.int .i64 0)).setCell ⟨R.g, k * 4 + 1, none⟩ (.int .i64 0)).setCell ⟨R.g, k * 4 + 2, none⟩ (.slice none 0 0)).setCell ⟨R.g, k * 4 + 3, none⟩ (.slice none 0 0)) := by
 obtain ⟨cs, hb, hsz⟩ := h.row
 have hfit := h.fit
 have hT : Turn (· = R.g) w ((((w.setCell ⟨R.g, k * 4, none⟩ (.int .i64 0)).setCell ⟨R.g, k * 4 + 1, none⟩ (.int .i64 0)).setCell ⟨R.g, k * 4 + 2, none⟩ (.slice none 0 0)).setCell ⟨R.g, k * 4 + 3, none⟩ (.slice none 0 0)) :=
  ((((Turn.refl (· = R.g) w).setCell (p := ⟨R.g, k * 4, none⟩) (fun _ => rfl) _).setCell (p := ⟨R.g, k * 4 + 1, none⟩) (fun _ => rfl) _).setCell (p := ⟨R.g, k * 4 + 2, none⟩) (fun _ => rfl) _).setCell (p := ⟨R.g, k * 4 + 3, none⟩) (fun _ => rfl) _
 have b1 := hb.set_ (k * 4) (.int .i64 0)
 have b2 := b1.set_ (k * 4 + 1) (.int .i64 0)
 have b3 := b2.set_ (k * 4 + 2) (.slice none 0 0)
 have b4 := b3.set_ (k * 4 + 3) (.slice none 0 0)
 refine ⟨h.rowed hk hT ⟨_, b4, by simp [hsz]⟩ ⟨?_, ?_, ?_, ?_⟩ (fun i f hi hf => ?_) ⟨.inl ⟨rfl, rfl⟩, At.nil _⟩ ⟨Ent.nil _, At.nil _⟩ (fun j hj => hj) (fun j hj => Nat.lt_of_lt_of_le (h.lt j hj) hT.size) h.f0, hT.mono fun i _ e => by rw [e]; exact h.fo _ (.inr (.inl rfl))⟩
 ·rw [b3.get_set, if_neg (by omega), b2.get_set, if_neg (by omega), b1.get_set, if_neg (by omega), hb.get_set, if_pos ⟨rfl, by omega⟩]; rfl
 ·rw [b3.get_set, if_neg (by omega), b2.get_set, if_neg (by omega), b1.get_set, if_pos ⟨rfl, by simp; omega⟩]; rfl
 ·rw [b3.get_set, if_neg (by omega), b2.get_set, if_pos ⟨rfl, by simp; omega⟩]
 ·rw [b3.get_set, if_pos ⟨rfl, by simp; omega⟩]
 ·rw [b3.get_set, if_neg (by omega), b2.get_set, if_neg (by omega), b1.get_set, if_neg (by omega), hb.get_set, if_neg (by omega)]
theorem rgone_any (k : Nat) (w : World) (h : RIs F w y R a) (hk : k ≤ a.last) (hb : a.last ≤ 1000000) :
  Calls Tryz.prog 80 #[.pointer (some ⟨y, 0, none⟩), .int .i64 (k : Nat)] w (RIntPost F y (a.gone k) (.tuple #[]) w) := by
 obtain ⟨y0, y1⟩ := h.cells
 obtain ⟨c0, c1, c2, c3⟩ := h.cel k hk
 have q0 := h.frozen (k * 4)
 have q1 := h.frozen (k * 4 + 1)
 have q2 := h.frozen (k * 4 + 2)
 have q3 := h.frozen (k * 4 + 3)
 obtain ⟨A2, e2, h2⟩ : ∃ A c, R.dv k = .slice A (a.nd k).data.length c := by
  obtain ⟨A1, c1, e, _⟩ := (h.dat k hk).1.rd
  exact ⟨A1, c1, e⟩
 obtain ⟨A3, e3, h3⟩ := (h.nam k hk).1.shape
 rw [h2] at c2
 rw [h3] at c3
 have HCN := Lib.hid (rcount_any R.I R.T R.fb (k : Int) w h.tab)
 have HCO := Lib.hid (cnt_op h (k : Int))
 have hd1 : ((k : Nat) : Int) < ((a.last + 1 : Nat) : Int) := by omega
 have hd0 : (0 : Int) ≤ ((k : Nat) : Int) := by omega
 have HR := Lib.hid h
 have HK := Lib.hid hk
 have HZ := Lib.hid (h.zeroed hk)
 have hw0 := h.w0
 generalize hnn : a.last + 1 = n1 at *
 have hnb : n1 ≤ 1000001 := by omega
 clear hnn h hk h2 h3
 by_cases hl : (a.nd k).links = 0
 ·rw [hl] at c1
  by_cases hz : cntO a.op (k : Int) = 0
  ·have HG := Lib.hid (gone_now hl hz)
   have HZZ := Lib.hid hz
   clear hl hz
   go_enter Tryz.func80, Tryz.ntmps80
   go_wp2_with fail
   refine HCN.out.mono ?_
   rintro e w1 ⟨rfl, rfl⟩
   rw [HCO.out, HZZ.out]
   go_wp2_with fail
   refine bodyPost_ret (v := .tuple #[]) (by simp [results, Tryz.results80]) rfl ⟨rfl, ?_, ?_⟩
   ·rw [HG.out]
    exact ⟨_, HZ.out.1.grown _ hw0⟩
   ·exact HZ.out.2
  ·have HG := Lib.hid (gone_not fun x => hz x.2)
   have t1 : (((cntO a.op (k : Int) : Nat) : Int) == 0) = false := beq_eq_false_iff_ne.2 (by omega)
   generalize cntO a.op (k : Int) = q at *
   clear hl hz
   go_enter Tryz.func80, Tryz.ntmps80
   go_wp2_with fail
   refine HCN.out.mono ?_
   rintro e w1 ⟨rfl, rfl⟩
   rw [HCO.out]
   go_wp2_with fail
   refine bodyPost_ret (v := .tuple #[]) (by simp [results, Tryz.results80]) rfl ⟨rfl, ?_, Turn.refl _ _⟩
   rw [HG.out]
   exact ⟨_, HR.out.grown _ hw0⟩
 ·have HG := Lib.hid (gone_not fun x => hl x.1)
  have t1 : ((a.nd k).links == 0) = false := beq_eq_false_iff_ne.2 hl
  generalize (a.nd k).links = q at *
  clear hl
  go_enter Tryz.func80, Tryz.ntmps80
  go_wp2_with fail
  refine bodyPost_ret (v := .tuple #[]) (by simp [results, Tryz.results80]) rfl ⟨rfl, ?_, Turn.refl _ _⟩
  rw [HG.out]
  exact ⟨_, HR.out.grown _ hw0⟩
/-- A node's links turn. -/
theorem RIs.linked (h : RIs F w y R a) {k : Nat} (hk : k ≤ a.last) (n : Int) : RSt F (w.setCell ⟨R.g, k * 4 + 1, none⟩ (.int .i64 n)) y (a.setNd k { a.nd k with links := n }) ∧ Turn F w (w.setCell ⟨R.g, k * 4 + 1, none⟩ (.int .i64 n)) := by
 have hT : Turn (· = R.g) w (w.setCell ⟨R.g, k * 4 + 1, none⟩ (.int .i64 n)) := (Turn.refl (· = R.g) w).setCell (p := ⟨R.g, k * 4 + 1, none⟩) (fun _ => rfl) _
 have hne : ∀ j, (F j ∧ ¬ R.own y j) → ¬ (· = R.g) j := fun j hj e => hj.2 (.inr (.inl e))
 exact ⟨⟨_, h.set1 (F' := F) (v := { a.nd k with links := n }) (dvk := R.dv k) (nvk := R.nv k) hk (show 1 < 4 by decide) (fun j hj => hj) h.lt h.f0 rfl rfl rfl rfl ⟨(h.dat k hk).1.turn' hT ((h.dat k hk).2.mono hne), (h.dat k hk).2⟩ ⟨(h.nam k hk).1.turn hT ((h.nam k hk).2.mono hne), (h.nam k hk).2⟩⟩,
  hT.mono fun i _ e => by rw [e]; exact h.fo _ (.inr (.inl rfl))⟩
/-- A node's bytes turn. -/
theorem RIs.dated (h : RIs F w y R a) {F' : Nat → Prop} {k : Nat} (hk : k ≤ a.last) {u : Value} {l : List UInt8} (hu : Bs (w.setCell ⟨R.g, k * 4 + 2, none⟩ u) u l) (hA : At (fun j => F' j ∧ ¬ R.own y j) u) (hF : ∀ j, F j → F' j) (hlt : ∀ j, F' j → j < w.heap.size) (h0 : ¬ F' 0) :
  RSt F' (w.setCell ⟨R.g, k * 4 + 2, none⟩ u) y (a.setData k l) ∧ Turn F w (w.setCell ⟨R.g, k * 4 + 2, none⟩ u) := by
 have hT : Turn (· = R.g) w (w.setCell ⟨R.g, k * 4 + 2, none⟩ u) := (Turn.refl (· = R.g) w).setCell (p := ⟨R.g, k * 4 + 2, none⟩) (fun _ => rfl) _
 have hne : ∀ j, (F j ∧ ¬ R.own y j) → ¬ (· = R.g) j := fun j hj e => hj.2 (.inr (.inl e))
 exact ⟨⟨_, h.set1 (F' := F') (v := { a.nd k with data := l }) (dvk := u) (nvk := R.nv k) hk (show 2 < 4 by decide) hF hlt h0 rfl rfl rfl rfl ⟨hu, hA⟩ ⟨(h.nam k hk).1.turn hT ((h.nam k hk).2.mono hne), (h.nam k hk).2.mono fun j hj => ⟨hF j hj.1, hj.2⟩⟩⟩,
  hT.mono fun i _ e => by rw [e]; exact h.fo _ (.inr (.inl rfl))⟩
theorem rless_any (k : Nat) (w : World) (h : RIs F w y R a) (hk : k ≤ a.last) (hb : a.last ≤ 1000000) (hl : 0 ≤ (a.nd k).links ∧ (a.nd k).links ≤ 200) :
  Calls Tryz.prog 84 #[.pointer (some ⟨y, 0, none⟩), .int .i64 (k : Nat)] w (RIntPost F y (a.less k) (.tuple #[]) w) := by
 obtain ⟨y0, y1⟩ := h.cells
 obtain ⟨c0, c1, c2, c3⟩ := h.cel k hk
 have q1 := h.frozen (k * 4 + 1)
 have hd1 : ((k : Nat) : Int) < ((a.last + 1 : Nat) : Int) := by omega
 have hd0 : (0 : Int) ≤ ((k : Nat) : Int) := by omega
 obtain ⟨hl0, hl1⟩ := hl
 have HLK := Lib.hid (h.linked hk ((a.nd k).links - 1))
 have HGO := Lib.hid (fun W R' (h' : RIs F W y R' (a.setNd k { a.nd k with links := (a.nd k).links - 1 })) => rgone_any k W h' hk hb)
 have HM := Lib.hid (show (a.setNd k { a.nd k with links := (a.nd k).links - 1 }).gone k = a.less k from rfl)
 generalize hnn : a.last + 1 = n1 at *
 generalize (a.nd k).links = q at *
 have hnb : n1 ≤ 1000001 := by omega
 have hs : (w.setCell ⟨R.g, k * 4 + 1, none⟩ (.int .i64 (q - 1))).heap.size = w.heap.size := by simp [World.setCell]
 have HS := Lib.hid hs
 clear hnn h hk c0 c2 c3 hs
 go_enter Tryz.func84, Tryz.ntmps84
 go_wp2_with fail
 obtain ⟨R2, hR2⟩ := HLK.out.1
 refine (HGO.out _ _ hR2).mono ?_
 rintro e w2 ⟨rfl, hs2, hTu2⟩
 have HTu2 := Lib.hid hTu2
 rw [HM.out] at hs2
 have HS2 := Lib.hid hs2
 clear hs2 hTu2 hR2
 go_wp2_with fail
 refine bodyPost_ret (v := .tuple #[]) (by simp [results, Tryz.results84]) rfl ⟨rfl, ?_, HLK.out.2.trans (S' := F) HTu2.out fun _ _ e => e⟩
 have h1 := HS2.out
 unfold grow at h1 ⊢
 rw [HS.out] at h1
 exact h1
end
end Go.Proofs.YtpkhglfhpggceaaGreatDoor
namespace Go.Proofs.YtpkhglfhpggceaaGreatDoor
set_option maxRecDepth 100000
set_option maxHeartbeats 16000000
open Go.RowKit
set_option linter.unusedVariables false
set_option linter.unusedSimpArgs false

/-- append of whatever can be read to a row of the call's own. -/
theorem wpList_append_row {P : Program} {w : World} {ops : Array Oper} {rest : List Oper} {o : Oper} {a : Act} {Q : Exit → Act → World → Prop} (hgd : o.guard = none) (s x : Operand) (t : TypeId)
  (ho : o.op = .call { callee := .builtin .append, args := #[s, x], argTypes := #[t, t] })
  (base : Nat) (e : TypeId) (i : TypeInfo) (z : Value) (size bytes : Nat) (ht : P.underlying t = some (.slice e)) (hi : P.info? e = some i) (hz : i.zero = some z)
  (hsize : i.size = size) (hby : i.bytes = bytes) (hzs : z.cells.size = size) (hsz : 0 < size)
  (v : Value) (n : Nat) (xs : List Value) (hs : a.eval s = v) (hown : w.ownsRow base e size v n xs)
  (A : Option Addr) (m c : Nat) (news : List Value) (hx : a.eval x = .slice A m c) (hl : news.length = m * size) (hA : A = none → c = 0 ∧ m = 0) (hnews : ∀ ad, A = some ad → ∀ j u, news[j]? = some u → w.cell? (ad.add j) = some u) (h1 : ∀ u ∈ news, u.oneCell' = true)
  (h63 : n + m ≤ maxLen) (hbytes : (n + m) * bytes ≤ 140737488355328) (hbase : base ≤ w.heap.size)
  (h : ∀ v' w', w'.ownsRow base e size v' (n + m) (xs ++ news) → w.grownBy w' v.ownBlock → wpList P ops Q rest (a.put o.dst v') w') : wpList P ops Q (o :: rest) a w := by
 rcases A with _ | ad
 ·obtain ⟨rfl, rfl⟩ := hA rfl
  obtain rfl : news = [] := List.eq_nil_of_length_eq_zero (by simpa using hl)
  refine wpList_append_own_none hgd s x t ho base e i size ht hi v n xs hs hown hx (h v w ?_ ⟨rfl, rfl, rfl, Nat.le_refl _, fun _ _ _ => rfl⟩)
  simpa using hown
 ·exact wpList_append_own_at _ hgd s x t ho base e i z size bytes ht hi hz hsize hby hzs hsz v n xs hs hown ad m c news hx hl (hnews ad rfl) h1 h63 hbytes hbase (fun v' w' h2 h3 _ h5 => h v' w' h2 h3)
theorem own_slice {w : World} {b e s n : Nat} {v : Value} {xs : List Value} (h : w.ownsRow b e s v n xs) : ∃ A cap, v = .slice A n cap := by
 rcases h.2 with ⟨hv, h0⟩ | ⟨g, cap, cur, hv, _⟩
 ·exact ⟨none, 0, by rw [hv, h0]⟩
 ·exact ⟨_, cap, hv⟩
def padL (l : List UInt8) (q k : Nat) : List UInt8 := l.take q ++ List.replicate (k - q) 0
theorem padL_start (l : List UInt8) (q : Nat) : padL l q q = l.take q := by unfold padL; simp
theorem padL_step (l : List UInt8) {q k : Nat} (h : q ≤ k) : byts (padL l q (k + 1)) = byts (padL l q k) ++ [.int .u8 0] := by
 unfold padL byts
 rw [show k + 1 - q = (k - q) + 1 by omega, List.replicate_succ', ← List.append_assoc, List.map_append]
 simp
theorem padL_end (l : List UInt8) {q n : Nat} (h : q = min l.length n) : padL l q n = sizeL l n := by
 subst h
 unfold padL sizeL
 congr 1
 ·by_cases h : l.length ≤ n
  ·rw [Nat.min_eq_left h, List.take_length, List.take_of_length_le h]
  ·rw [Nat.min_eq_right (by omega)]
 ·congr 1
  omega
def lenOf (v : Value) : Nat := match v with | .slice _ m _ => m | _ => 0
theorem rcut_any (v : Value) (l : List UInt8) (n : Nat) (w : World) (h : Bs w v l) (hn : n ≤ 1000000) (hl : l.length ≤ 1000000) :
  Calls Tryz.prog 82 #[v, .int .i64 (n : Nat)] w (ClonePost (sizeL l n) w) := by
 obtain ⟨i0, hi0, hz0, hz1, hz2⟩ := info_parts info5
 obtain ⟨q, hq⟩ : ∃ q : Nat, q = min l.length n := ⟨_, rfl⟩
 have hmin : min ((l.length : Nat) : Int) ((n : Nat) : Int) = ((q : Nat) : Int) := by omega
 have hqn : q ≤ n := by omega
 have hql : q ≤ l.length := by omega
 have HE := Lib.hid (padL_end l hq)
 have HS := Lib.hid (fun k (hk : q ≤ k) => padL_step l hk)
 obtain ⟨v2, hv2, hb2⟩ := h.to hql
 obtain ⟨A, c, rfl, _⟩ := h.rd
 obtain ⟨news, hnews⟩ : ∃ news, news = byts (l.take q) := ⟨_, rfl⟩
 have HNW := Lib.hid hnews
 have hv2s : ∃ A2 c2, v2 = .slice A2 q c2 ∧ (A2 = none → c2 = 0 ∧ q = 0) ∧ ∀ W, Below w.heap.size w W → ∀ ad, A2 = some ad → ∀ j u, news[j]? = some u → W.cell? (ad.add j) = some u := by
  have hlq : (l.take q).length = q := by rw [List.length_take, Nat.min_eq_left hql]
  rcases hb2 with ⟨e1, e2⟩ | ⟨g, o, c', e1, h1, h2, h3, h4⟩
  ·have : q = 0 := by rw [← hlq, e2]; rfl
   exact ⟨none, 0, by rw [e1, this], fun _ => ⟨rfl, this⟩, fun W hW ad e => by cases e⟩
  ·rw [hlq] at e1
   refine ⟨_, c', e1, (fun e => by cases e), fun W hW ad e j u hu => ?_⟩
   obtain rfl := Option.some.inj e
   rw [hnews] at hu
   unfold byts at hu
   rw [List.getElem?_map, Option.map_eq_some_iff] at hu
   obtain ⟨b, hb, rfl⟩ := hu
   rw [addr_add]
   exact (World.cell?_of_block (a := ⟨g, o + j, none⟩) (hW.block g h3)).trans (h4 j b hb)
 obtain ⟨A2, c2, rfl, hA2, hr2⟩ := hv2s
 have HR2 := Lib.hid hr2
 have HA2 := Lib.hid hA2
 have H1 : Hid (∀ u ∈ news, u.oneCell' = true) := Lib.hid (by rw [hnews]; exact byts_one _)
 have HLN := Lib.hid (show news.length = q * 1 by rw [hnews, byts_len, List.length_take, Nat.min_eq_left hql, Nat.mul_one])
 have hsl := hv2 (w.alloc (.cells #[] 5))
 have HPS := Lib.hid (padL_start l q)
 generalize l.length = ll at *
 clear h hb2 hq hnews hv2 hA2 hr2
 go_enter Tryz.func82, Tryz.ntmps82
 go_wp2_with (at_builtin; refine wpList_append_row rfl (.tmp 6) (.tmp 12) 28 rfl w.heap.size 5 i0 (.int .u8 0) 1 1 Tryz.underlying28 hi0 hz0 hz1 hz2 rfl (by decide) _ _ _ rfl (World.ownsRow_made w #[] 0 (Nat.le_refl _) (Nat.zero_le _) rfl) A2 q c2 news rfl HLN.out HA2.out ?c1 H1.out ?c3 ?c4 ?c5 ?_)
 case c1 => exact fun ad e => HR2.out _ (below_0 w _) ad e
 case c3 => simp only [maxLen]; omega
 case c4 => omega
 case c5 => simp
 intro v' w1 hown1 hgr1
 have hbel : Below w.heap.size w w1 := ((Below.refl _ _).alloc (Nat.le_refl _) _).grown hgr1 (by simp) (fun j hj => by cases hj; exact Nat.le_refl _)
 have hown2 : w1.ownsRow w.heap.size 5 1 v' q (byts (padL l q q)) := by
  rw [HPS.out, ← HNW.out]
  simpa using hown1
 obtain ⟨A3, c3, rfl⟩ := own_slice hown2
 have HO := Lib.hid hown2
 have HB := Lib.hid hbel
 clear hown1 hgr1 hown2 hbel hsl hmin
 go_wp2_with fail
 go_loopw [5] (fun v wr => ∃ (k : Nat) (A : Option Addr) (cc : Nat), q ≤ k ∧ k ≤ n ∧ v = .slice A k cc ∧ wr.ownsRow w.heap.size 5 1 (.slice A k cc) k (byts (padL l q k)) ∧ Below w.heap.size w wr) (fun v _ => n - lenOf v)
 case atStart => exact ⟨q, A3, c3, Nat.le_refl _, hqn, rfl, HO.out, HB.out⟩
 case round =>
  obtain ⟨k, A4, c4, hqk, hkn, rfl, hown, hbel⟩ := hrel
  have HO := Lib.hid hown
  have HB := Lib.hid hbel
  clear hown hbel
  by_cases hlt : k < n
  ·have hsz := HB.out.size
   have hki : ((k : Nat) : Int) < ((n : Nat) : Int) := by omega
   go_wp2_with (at_builtin; refine wpList_append_own _ rfl (.tmp 18) (.tmp 19) 28 rfl w.heap.size 5 i0 (.int .u8 0) 1 1 Tryz.underlying28 hi0 hz0 hz1 hz2 rfl (by decide) _ _ _ rfl (HO.out.alloc _) ⟨wr.heap.size, 0, none⟩ 1 1 [.int .u8 0] rfl rfl ?c1 ?c2 ?c3 ?c4 ?c5 ?_)
   case c1 => exact one_new _ _ _
   case c2 => simp [Value.oneCell']
   case c3 => simp only [maxLen]; omega
   case c4 => omega
   case c5 => simp; omega
   intro v' w1 hown1 hgrow1 _
   have hown2 : w1.ownsRow w.heap.size 5 1 v' (k + 1) (byts (padL l q (k + 1))) := by
    rw [HS.out k hqk]
    exact hown1
   have hbel2 : Below w.heap.size w w1 := (HB.out.alloc HB.out.size _).grown hgrow1 (by simp; omega) (fun j hj => (HO.out.lt j hj).1)
   obtain ⟨A5, c5, rfl⟩ := own_slice hown2
   clear hgrow1 hown1
   go_wp2
   go_roundw
   case rel => exact ⟨k + 1, A5, c5, by omega, by omega, rfl, hown2, hbel2⟩
   case measure => simp [lenOf]; omega
  ·obtain rfl : k = n := by omega
   have hki : ¬ ((k : Nat) : Int) < ((k : Nat) : Int) := by omega
   go_wp2
   go_ret
   have h1 := HO.out
   rw [HE.out] at h1
   exact ⟨_, rfl, (own_byt h1).1, (own_byt h1).2, HB.out⟩
/-- A failed answer. -/
theorem failed_any (e0 : Int) (w : World) : Calls Tryz.prog 40 #[.int .i64 e0] w fun e w' => e = .returned (.agg #[.int .i64 e0, .int .i64 0, .slice none 0 0, .slice none 0 0, .int .i64 0, .int .i64 0, .int .i64 0]) ∧ Below w.heap.size w w' := by
 go_enter Tryz.func40, Tryz.ntmps40
 go_wp2
 exact bodyPost_ret (v := .agg #[.int .i64 e0, .int .i64 0, .slice none 0 0, .slice none 0 0, .int .i64 0, .int .i64 0, .int .i64 0]) (by simp [results, Tryz.results40, go_sem]) rfl ⟨rfl, (Below.refl _ _).alloc (Nat.le_refl _) _⟩
end Go.Proofs.YtpkhglfhpggceaaGreatDoor
namespace Go.Proofs.YtpkhglfhpggceaaGreatDoor
open Go.RowKit
set_option linter.unusedVariables false
set_option linter.unusedSimpArgs false
section
variable {F : Nat → Prop} {w w' : World} {y c : Nat} {R : RMem} {a : TS}
def RAnsPost (F : Nat → Prop) (y : Nat) (a' : TS) (w : World) (e : Ending) (w' : World) : Prop :=
 ∃ (er n : Int) (A1 : Option Addr) (n1 c1 : Nat) (A2 : Option Addr) (n2 c2 : Nat) (k s l : Int), e = .returned (ansV er n A1 n1 c1 A2 n2 c2 k s l) ∧ RSt (grow F w w') w' y a' ∧ Turn F w w'
theorem rans_same {er n : Int} {A1 : Option Addr} {n1 c1 : Nat} {A2 : Option Addr} {n2 c2 : Nat} {k s l : Int} (h : RIs F w y R a) (hb : Below w.heap.size w w') :
  RAnsPost F y a w (.returned (.agg #[.int .i64 er, .int .i64 n, .slice A1 n1 c1, .slice A2 n2 c2, .int .i64 k, .int .i64 s, .int .i64 l])) w' :=
 ⟨er, n, A1, n1, c1, A2, n2, c2, k, s, l, rfl, ⟨R, (h.below hb).grown w h.w0⟩, Turn.of_below hb⟩
/-- The answer is laid behind a step of the reference. -/
theorem rans_fin {F' : Nat → Prop} {wX w9 : World} {b : Nat} {a' : TS} {v0 v1 v2 v3 v4 v5 v6 : Value} {er n : Int} {A1 : Option Addr} {n1 c1 : Nat} {A2 : Option Addr} {n2 c2 : Nat} {k s l : Int} (h0 : RIs F w y R a) (h : RSt (grow F' wX w9) w9 y a') (hT : Turn F w w9) (hX : w.heap.size ≤ wX.heap.size)
  (hF : ∀ j, F' j → F j ∨ w.heap.size ≤ j) (hb : w.heap.size ≤ b) (hb2 : b < wX.heap.size) (hbF : ¬ F' b) :
  RAnsPost F y a' w (.returned (.agg #[.int .i64 er, .int .i64 n, .slice A1 n1 c1, .slice A2 n2 c2, .int .i64 k, .int .i64 s, .int .i64 l])) (((((((w9.setCell ⟨b, 0, none⟩ v0).setCell ⟨b, 1, none⟩ v1).setCell ⟨b, 2, none⟩ v2).setCell ⟨b, 3, none⟩ v3).setCell ⟨b, 4, none⟩ v4).setCell ⟨b, 5, none⟩ v5).setCell ⟨b, 6, none⟩ v6) := by
 have hTA := ans_turn hT hb v0 v1 v2 v3 v4 v5 v6
 have hsz : (((((((w9.setCell ⟨b, 0, none⟩ v0).setCell ⟨b, 1, none⟩ v1).setCell ⟨b, 2, none⟩ v2).setCell ⟨b, 3, none⟩ v3).setCell ⟨b, 4, none⟩ v4).setCell ⟨b, 5, none⟩ v5).setCell ⟨b, 6, none⟩ v6).heap.size = w9.heap.size := by simp [World.setCell]
 have hw := h0.w0
 refine ⟨er, n, A1, n1, c1, A2, n2, c2, k, s, l, rfl, ?_, hTA⟩
 obtain ⟨R', h⟩ := h
 have q : ∀ i, b < w9.heap.size → (· = b) (⟨b, i, none⟩ : Addr).block := fun _ _ => rfl
 have hT9 : Turn (· = b) w9 (((((((w9.setCell ⟨b, 0, none⟩ v0).setCell ⟨b, 1, none⟩ v1).setCell ⟨b, 2, none⟩ v2).setCell ⟨b, 3, none⟩ v3).setCell ⟨b, 4, none⟩ v4).setCell ⟨b, 5, none⟩ v5).setCell ⟨b, 6, none⟩ v6) :=
  (((((((Turn.refl (· = b) w9).setCell (q 0) v0).setCell (q 1) v1).setCell (q 2) v2).setCell (q 3) v3).setCell (q 4) v4).setCell (q 5) v5).setCell (q 6) v6
 have h2 := h.turn hT9 (fun j hj e => by
  have e : j = b := e
  subst e
  rcases hj with e | e
  ·exact hbF e
  ·omega)
 refine ⟨R', h2.wide (fun j hj => ?_) (fun j hj => ?_) (fun hj => ?_)⟩
 ·have hj2 := h.lt j hj
  rw [← hsz] at hj2
  rcases hj with hj | hj
  ·rcases hF j hj with e | e
   ·exact .inl e
   ·exact .inr ⟨e, hj2⟩
  ·exact .inr ⟨by omega, hj2⟩
 ·rcases hj with hj | hj
  ·exact Nat.lt_of_lt_of_le (h0.lt j hj) hTA.size
  ·exact hj.2
 ·rcases hj with hj | hj
  ·exact h0.f0 hj
  ·omega
/-- The table turns. -/
theorem RIs.tabbed (h : RIs F w y R a) {I' : Nat → Bool} {T' : Nat → Int × Int × Int} {op' : Nat → Option FT} (hT : Turn (· = R.fb) w w') (htab : RTab w' R.fb I' T') (hop : ∀ i, i < 8 → op' i = opOf I' T' i) :
  RIs F w' y { R with I := I', T := T' } ⟨a.last, a.nd, op'⟩ := by
 have hne := h.ne
 have hn : ∀ j, (F j ∧ ¬ R.own y j) → ¬ (· = R.fb) j := fun j hj e => hj.2 (.inr (.inr e))
 exact {
     blk := h.blk.turn hT hne.2.1
     row := by obtain ⟨cs, h1, h2⟩ := h.row; exact ⟨cs, h1.turn hT hne.2.2, h2⟩
     fit := h.fit
     few := h.few
     cel := fun k hk => by
      have hg : w'.heap[R.g]? = w.heap[R.g]? := by obtain ⟨cs, h1, h2⟩ := h.row; exact hT.block _ h1.lt hne.2.2
      obtain ⟨c0, c1, c2, c3⟩ := h.cel k hk
      exact ⟨(World.cell?_of_block (a := ⟨R.g, k * 4, none⟩) hg).trans c0, (World.cell?_of_block (a := ⟨R.g, k * 4 + 1, none⟩) hg).trans c1, (World.cell?_of_block (a := ⟨R.g, k * 4 + 2, none⟩) hg).trans c2, (World.cell?_of_block (a := ⟨R.g, k * 4 + 3, none⟩) hg).trans c3⟩
     dat := fun k hk => ⟨(h.dat k hk).1.turn' hT ((h.dat k hk).2.mono hn), (h.dat k hk).2⟩
     nam := fun k hk => ⟨(h.nam k hk).1.turn hT ((h.nam k hk).2.mono hn), (h.nam k hk).2⟩
     tab := htab
     op := hop
     fo := h.fo
     lt := fun j hj => Nat.lt_of_lt_of_le (h.lt j hj) hT.size
     f0 := h.f0 }
theorem opOf_put {op : Nat → Option FT} {I : Nat → Bool} {T : Nat → Int × Int × Int} (h : ∀ i, i < 8 → op i = opOf I T i) (k : Nat) (f : FT) : ∀ i, i < 8 → setF op k (some f) i = opOf (_root_.Go.Proofs.YtpkhglfhpggceaaGreatDoor.put I k true) (_root_.Go.Proofs.YtpkhglfhpggceaaGreatDoor.put T k f) i := by
 intro i hi
 unfold setF opOf _root_.Go.Proofs.YtpkhglfhpggceaaGreatDoor.put
 by_cases e : i = k
 ·rw [if_pos e, if_pos e, if_pos e]; rfl
 ·rw [if_neg e, if_neg e, if_neg e]; exact h i hi
theorem RIs.opI (h : RIs F w y R a) {i : Nat} (hi : i < 8) : R.I i = (a.op i).isSome := by
 rw [h.op i hi]
 unfold opOf
 cases R.I i <;> rfl
theorem RIs.opT (h : RIs F w y R a) {i : Nat} (hi : i < 8) {f : FT} (hf : a.op i = some f) : R.I i = true ∧ R.T i = f := by
 have h1 := h.opI hi
 rw [hf] at h1
 have h2 := h.op i hi
 rw [hf] at h2
 unfold opOf at h2
 rw [h1] at h2
 exact ⟨h1, (Option.some.inj h2).symm⟩
def RTabPost (F : Nat → Prop) (y : Nat) (a' : TS) (w w' : World) : Prop := ∃ R', RIs F w' y R' a' ∧ Turn F w w' ∧ w'.heap[y]? = w.heap[y]?
def RTOpen (F : Nat → Prop) (y : Nat) (a' : TS) (w : World) (e : Ending) (w' : World) : Prop := (∃ i j : Int, e = .returned (.tuple #[.int .i64 i, .int .i64 j])) ∧ RTabPost F y a' w w'
theorem rtopen_any (ino mode : Int) (w : World) (h : RIs F w y R a) :
  Calls Tryz.prog 77 #[.pointer (some ⟨R.fb, 0, none⟩), .int .i64 ino, .int .i64 mode] w (RTOpen F y (opensT a ino mode) w) := by
 refine (ropen_any R.I R.T R.fb ino mode w h.tab).mono ?_
 rintro e w' (⟨k, hk, hI, hj, rfl, htab, hTu⟩ | ⟨hj, rfl, rfl⟩)
 ·have hf : freeK a.op = some k := freeK_some hk (by have := h.opI hk; rw [hI] at this; cases e : a.op k with | none => rfl | some x => rw [e] at this; cases this) fun j hjk e => by
   have h1 := h.opI (show j < 8 by omega)
   rw [hj j hjk, e] at h1
   cases h1
  have e1 : opensT a ino mode = ⟨a.last, a.nd, setF a.op k (some (ino, 0, mode))⟩ := by unfold opensT; rw [hf]; rfl
  rw [e1]
  exact ⟨⟨_, _, rfl⟩, _, h.tabbed hTu htab (opOf_put h.op k _), hTu.mono fun i _ e => by rw [e]; exact h.fo _ (.inr (.inr rfl)), hTu.block y h.blk.lt h.ne.2.1⟩
 ·have hf : freeK a.op = none := freeK_none fun j hj8 e => by
   have h1 := h.opI hj8
   rw [hj j hj8, e] at h1
   cases h1
  have e1 : opensT a ino mode = a := by unfold opensT; rw [hf]
  rw [e1]
  exact ⟨⟨_, _, rfl⟩, R, h, Turn.refl _ _, rfl⟩
theorem rtget_any (fd : Int) (w : World) (h : RIs F w y R a) :
  Calls Tryz.prog 78 #[.pointer (some ⟨R.fb, 0, none⟩), .int .i64 fd] w fun e w' => e = .returned (.tuple #[getA (lookO a.op fd), .int .i64 (getE (lookO a.op fd))]) ∧ Below w.heap.size w w' := by
 cases hf : lookO a.op fd with
 | none =>
  refine rget_none R.I R.T R.fb fd w h.tab ?_
  unfold lookO at hf
  unfold rlook
  split
  ·rename_i h8
   rw [if_pos h8] at hf
   rw [h.opI (by omega), hf]
   rfl
  ·rfl
 | some f =>
  obtain ⟨k, rfl, hk, hop⟩ := lookO_some hf
  obtain ⟨h1, h2⟩ := h.opT hk hop
  have := rget_some R.I R.T R.fb k w h.tab hk h1
  rw [h2] at this
  exact this
theorem rtclose_any (fd : Int) (f : FT) (w : World) (h : RIs F w y R a) (hf : lookO a.op fd = some f) :
  Calls Tryz.prog 79 #[.pointer (some ⟨R.fb, 0, none⟩), .int .i64 fd] w fun e w' => e = .returned (.tuple #[.agg #[.int .i64 f.1, .int .i64 f.2.1, .int .i64 f.2.2], .int .i64 0]) ∧ RTabPost F y (a.setOp fd.toNat none) w w' := by
 obtain ⟨k, rfl, hk, hop⟩ := lookO_some hf
 obtain ⟨h1, h2⟩ := h.opT hk hop
 refine (rclose_some R.I R.T R.fb k w h.tab hk h1).mono ?_
 rintro e w' ⟨rfl, htab, hTu⟩
 rw [h2]
 refine ⟨rfl, _, h.tabbed hTu htab (op' := setF a.op k none) (fun i hi => ?_), hTu.mono fun i _ e => by rw [e]; exact h.fo _ (.inr (.inr rfl)), hTu.block y h.blk.lt h.ne.2.1⟩
 unfold setF opOf _root_.Go.Proofs.YtpkhglfhpggceaaGreatDoor.put
 by_cases e : i = k
 ·rw [if_pos e, if_pos e]; rfl
 ·rw [if_neg e, if_neg e]; exact h.op i hi
theorem rtseek_any (fd : Int) (f : FT) (pos : Int) (w : World) (h : RIs F w y R a) (hf : lookO a.op fd = some f) (hp : 0 ≤ pos) :
  Calls Tryz.prog 81 #[.pointer (some ⟨R.fb, 0, none⟩), .int .i64 fd, .int .i64 pos] w fun e w' => e = .returned (.int .i64 0) ∧ RTabPost F y (a.seekT fd f pos) w w' := by
 obtain ⟨k, rfl, hk, hop⟩ := lookO_some hf
 obtain ⟨h1, h2⟩ := h.opT hk hop
 refine (rseek_some R.I R.T R.fb k pos w h.tab hk h1 hp).mono ?_
 rintro e w' ⟨rfl, htab, hTu⟩
 rw [h2] at htab
 refine ⟨rfl, _, h.tabbed hTu htab (op' := setF a.op k (some (f.1, pos, f.2.2))) (fun i hi => ?_), hTu.mono fun i _ e => by rw [e]; exact h.fo _ (.inr (.inr rfl)), hTu.block y h.blk.lt h.ne.2.1⟩
 unfold setF opOf _root_.Go.Proofs.YtpkhglfhpggceaaGreatDoor.put
 by_cases e : i = k
 ·rw [if_pos e, if_pos e, e, h1]; rfl
 ·rw [if_neg e, if_neg e]; exact h.op i hi
theorem rtused_any (w : World) (h : RIs F w y R a) :
  Calls Tryz.prog 22 #[.pointer (some ⟨R.fb, 0, none⟩)] w fun e w' => (∃ A c, e = .returned (.slice A (usedN a.op) c)) ∧ Below w.heap.size w w' := by
 refine (rused_any R.I R.T R.fb w h.tab).mono ?_
 rintro e w' ⟨v, rfl, ho, hb⟩
 obtain ⟨A, c, rfl⟩ := own_slice ho
 have e1 : (rusedTo R.I 8).length = usedN a.op := by
  unfold rusedTo usedN
  rw [List.length_map]
  congr 1
  exact List.filter_congr fun i hi => h.opI (List.mem_range.1 hi)
 rw [e1]
 exact ⟨⟨A, c, rfl⟩, hb⟩
end
end Go.Proofs.YtpkhglfhpggceaaGreatDoor
