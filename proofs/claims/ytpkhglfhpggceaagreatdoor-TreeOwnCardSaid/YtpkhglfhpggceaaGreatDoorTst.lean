/- The tree's memory: its block, its map of nodes, each node's block, bytes and names, its table. -/
import Derived.Test.YtpkhglfhpggceaaGreatDoorMps
import Derived.Test.YtpkhglfhpggceaaGreatDoorTkeep
import Derived.Test.YtpkhglfhpggceaaGreatDoorFdsd
import Derived.Deep.OwnRows
import Derived.Laws.OwnMore
namespace Go.Proofs.YtpkhglfhpggceaaGreatDoor
open Go.RowKit Go.Maps
set_option linter.unusedVariables false

def byts (l : List UInt8) : List Value := l.map fun b => .int .u8 (b.toNat : Int)
theorem byts_len (l : List UInt8) : (byts l).length = l.length := by simp [byts]
theorem byts_one (l : List UInt8) : ∀ v ∈ byts l, v.oneCell' = true := by
 intro v hv
 obtain ⟨x, -, rfl⟩ := List.mem_map.1 hv
 rfl
/-- A slice of bytes, a block's first cells, that reads as a list. -/
def Byt (w : World) (v : Value) (l : List UInt8) : Prop := w.ownsRow 0 5 1 v l.length (byts l)
section
variable {w w' : World} {v : Value} {l : List UInt8}
theorem Byt.nil (w : World) : Byt w (.slice none 0 0) [] := World.ownsRow_nil _ _ _ _
theorem Byt.keep (h : Byt w v l) (hk : ∀ j, v.ownBlock = some j → w'.heap[j]? = w.heap[j]?) : Byt w' v l := by
 refine ⟨h.1, ?_⟩
 rcases h.2 with h1 | ⟨g, cap, cur, hv, hb, hg, hr⟩
 ·exact .inl h1
 ·exact .inr ⟨g, cap, cur, hv, hb, (hk g (by rw [hv]; rfl)).trans hg, hr⟩
theorem Byt.lt (h : Byt w v l) : ∀ j, v.ownBlock = some j → j < w.heap.size := fun j hj => (World.ownsRow.lt h j hj).2
theorem Byt.turn {S : Nat → Prop} (h : Byt w v l) (hT : Turn S w w') (hs : ∀ j, v.ownBlock = some j → ¬ S j) : Byt w' v l := h.keep fun j hj => hT.block j (h.lt j hj) (hs j hj)
theorem Byt.below (h : Byt w v l) (hT : Below w.heap.size w w') : Byt w' v l := h.keep fun j hj => hT.block j (h.lt j hj)
theorem Byt.type (h : Byt w v l) : ∀ j, v.ownBlock = some j → ∃ cs, Blk w j 5 cs := by
 intro j hj
 rcases h.2 with ⟨hv, _⟩ | ⟨g, cap, cur, hv, hb, hg, _⟩
 ·rw [hv] at hj; cases hj
 ·rw [hv] at hj
  obtain rfl : g = j := Option.some.inj hj
  exact ⟨cur, hg⟩
theorem Byt.shape (h : Byt w v l) : (v = .slice none 0 0 ∧ l = []) ∨ ∃ g c cur, v = .slice (some ⟨g, 0, none⟩) l.length c ∧ l.length ≤ c ∧ c ≤ maxLen ∧ Blk w g 5 cur ∧ cur.size = c ∧ cur.toList.take l.length = byts l := by
 rcases h.2 with ⟨hv, h0⟩ | ⟨g, cap, cur, hv, hb, hg, hnc, hcm, hcs, ht⟩
 ·exact .inl ⟨hv, List.eq_nil_of_length_eq_zero h0⟩
 ·exact .inr ⟨g, cap, cur, hv, hnc, hcm, hg, by omega, by simpa using ht⟩
theorem Byt.mk {g c : Nat} {cur : Array Value} (hb : Blk w g 5 cur) (hc : cur.size = c) (hl : l.length ≤ c) (hm : c ≤ maxLen) (ht : cur.toList.take l.length = byts l) : Byt w (.slice (some ⟨g, 0, none⟩) l.length c) l :=
 ⟨by rw [byts_len]; omega, .inr ⟨g, c, cur, rfl, Nat.zero_le _, hb, hl, hm, by omega, by simpa using ht⟩⟩
theorem Byt.get {g c : Nat} (h : Byt w (.slice (some ⟨g, 0, none⟩) l.length c) l) {j : Nat} (hj : j < l.length) : w.cell? ⟨g, j, none⟩ = some (.int .u8 ((l.getD j 0).toNat : Int)) := by
 have := World.ownsRow.cellAt h j (by omega)
 rw [this, List.getD_eq_getElem?_getD]
 simp [byts, hj]
end

structure TMem where
 mb : Nat
 tb : Nat
 hp : Nat → Nat
 nb : Nat → Nat
 dv : Nat → Value
 T : Nat → Option FileT
def nodeF (M : TMem) (a : TS) (k : Int) : Option Value := if 0 ≤ k ∧ (a.nd k.toNat).kind ≠ 0 then some (.pointer (some ⟨M.hp k.toNat, 0, none⟩)) else none
theorem nodeF_live {M : TMem} {a : TS} {k : Nat} (h : (a.nd k).kind ≠ 0) : nodeF M a k = some (.pointer (some ⟨M.hp k, 0, none⟩)) := by
 unfold nodeF
 rw [if_pos ⟨by omega, h⟩]
 rfl

structure TreeIs (F : Nat → Prop) (w : World) (t : Nat) (M : TMem) (c : Nat) (a : TS) : Prop where
 blk : Blk w t 70 #[.int .i64 (a.last : Nat), .map (some M.mb), .pointer (some ⟨M.tb, 0, none⟩)]
 map : MapIs w M.mb c (nodeF M a)
 node : ∀ k, (a.nd k).kind ≠ 0 → Blk w (M.hp k) 74 #[.int .i64 (a.nd k).kind, .int .i64 (a.nd k).links, M.dv k, .map (some (M.nb k))] ∧ Byt w (M.dv k) (a.nd k).data ∧
  MapS w (M.nb k) c (a.nd k).names ∧ F (M.hp k) ∧ F (M.nb k) ∧ ∀ j, (M.dv k).ownBlock = some j → F j
 tab : Tab w M.tb M.T
 op : ∀ i, i < 8 → (M.T i).map (·.2) = a.op i
 inj : ∀ k k', (a.nd k).kind ≠ 0 → (a.nd k').kind ≠ 0 → (M.hp k = M.hp k' ∨ M.nb k = M.nb k') → k = k'
 nmb : ∀ k, (a.nd k).kind ≠ 0 → M.nb k ≠ M.mb
 ft : F t
 fm : F M.mb
 ftab : ∀ j, foot M.tb M.T j → F j
 lt : ∀ j, F j → j < w.heap.size
 f0 : ¬ F 0
 mx : ∃ m, w.cell? ⟨0, 0, none⟩ = some (.int .i64 m)
def St (F : Nat → Prop) (w : World) (t c : Nat) (a : TS) : Prop := ∃ M, TreeIs F w t M c a
/-- A footprint grows by what has come. -/
def grow (F : Nat → Prop) (w w' : World) : Nat → Prop := fun j => F j ∨ (w.heap.size ≤ j ∧ j < w'.heap.size)

section
variable {F S : Nat → Prop} {w w' : World} {t c : Nat} {M : TMem} {a : TS}
theorem mx_lt {m : Int} {w : World} (h : w.cell? ⟨0, 0, none⟩ = some (.int .i64 m)) : 0 < w.heap.size := World.block_lt_of_cell? w _ h
theorem mx_turn {w w' : World} (h : ∃ m, w.cell? ⟨0, 0, none⟩ = some (.int .i64 m)) (hT : Turn S w w') (hS : ¬ S 0) : ∃ m, w'.cell? ⟨0, 0, none⟩ = some (.int .i64 m) := by
 obtain ⟨m, hm⟩ := h
 exact ⟨m, (World.cell?_of_block (a := ⟨0, 0, none⟩) (hT.block 0 (mx_lt hm) hS)).trans hm⟩
theorem TreeIs.turn (h : TreeIs F w t M c a) (hT : Turn S w w') (hS : ∀ j, F j → ¬ S j) (h0 : ¬ S 0) : TreeIs F w' t M c a :=
 { h with
  blk := h.blk.turn hT (hS _ h.ft)
  map := h.map.turn hT (hS _ h.fm)
  node := fun k hk => by
   obtain ⟨h1, h2, h3, h4, h5, h6⟩ := h.node k hk
   exact ⟨h1.turn hT (hS _ h4), h2.turn hT fun j hj => hS _ (h6 j hj), h3.turn hT (hS _ h5), h4, h5, h6⟩
  tab := h.tab.turn hT fun j hj => hS _ (h.ftab j hj)
  lt := fun j hj => Nat.lt_of_lt_of_le (h.lt j hj) hT.size
  mx := mx_turn h.mx hT h0 }
theorem TreeIs.below (h : TreeIs F w t M c a) (hb : Below w.heap.size w w') : TreeIs F w' t M c a :=
 h.turn (S := fun _ => False) (Turn.of_below hb) (fun _ _ => id) id
theorem TreeIs.mono {c' : Nat} (h : TreeIs F w t M c a) (hc : c ≤ c') : TreeIs F w t M c' a :=
 { h with
  map := h.map.mono hc
  node := fun k hk => by
   obtain ⟨h1, h2, h3, h4⟩ := h.node k hk
   exact ⟨h1, h2, h3.mono hc, h4⟩ }
theorem TreeIs.wide {F' : Nat → Prop} (h : TreeIs F w t M c a) (hF : ∀ j, F j → F' j) (hlt : ∀ j, F' j → j < w.heap.size) (h0 : ¬ F' 0) : TreeIs F' w t M c a :=
 { h with
  node := fun k hk => by
   obtain ⟨h1, h2, h3, h4, h5, h6⟩ := h.node k hk
   exact ⟨h1, h2, h3, hF _ h4, hF _ h5, fun j hj => hF _ (h6 j hj)⟩
  ft := hF _ h.ft
  fm := hF _ h.fm
  ftab := fun j hj => hF _ (h.ftab j hj)
  lt := hlt
  f0 := h0 }
theorem St.turn (h : St F w t c a) (hT : Turn S w w') (hS : ∀ j, F j → ¬ S j) (h0 : ¬ S 0) : St F w' t c a := by obtain ⟨M, h⟩ := h; exact ⟨M, h.turn hT hS h0⟩
theorem St.below (h : St F w t c a) (hb : Below w.heap.size w w') : St F w' t c a := by obtain ⟨M, h⟩ := h; exact ⟨M, h.below hb⟩
theorem St.mono {c' : Nat} (h : St F w t c a) (hc : c ≤ c') : St F w t c' a := by obtain ⟨M, h⟩ := h; exact ⟨M, h.mono hc⟩
theorem St.lt (h : St F w t c a) : ∀ j, F j → j < w.heap.size := by obtain ⟨M, h⟩ := h; exact h.lt
theorem St.f0 (h : St F w t c a) : ¬ F 0 := by obtain ⟨M, h⟩ := h; exact h.f0
theorem St.mx (h : St F w t c a) : ∃ m, w.cell? ⟨0, 0, none⟩ = some (.int .i64 m) := by obtain ⟨M, h⟩ := h; exact h.mx
theorem TreeIs.grown (h : TreeIs F w t M c a) (w0 : World) (h0 : w0.heap.size ≤ w.heap.size) (hw : 0 < w0.heap.size) : TreeIs (grow F w0 w) w t M c a :=
 h.wide (fun j hj => .inl hj) (fun j hj => by
  rcases hj with hj | hj
  ·exact h.lt j hj
  ·exact hj.2) (fun hj => by
  rcases hj with hj | hj
  ·exact h.f0 hj
  ·omega)
theorem St.grown (h : St F w t c a) (w0 : World) (h0 : w0.heap.size ≤ w.heap.size) (hw : 0 < w0.heap.size) : St (grow F w0 w) w t c a := by obtain ⟨M, h⟩ := h; exact ⟨M, h.grown w0 h0 hw⟩
/-- Behind two steps. -/
theorem St.grow2 {w1 w2 : World} (h : St (grow (grow F w w1) w1 w2) w2 t c a) (h1 : w.heap.size ≤ w1.heap.size) (h2 : w1.heap.size ≤ w2.heap.size) : St (grow F w w2) w2 t c a := by
 have e : grow (grow F w w1) w1 w2 = grow F w w2 := by
  funext j
  apply propext
  unfold grow
  constructor
  ·rintro ((h | h) | h)
   ·exact .inl h
   ·exact .inr ⟨h.1, by omega⟩
   ·exact .inr ⟨by omega, h.2⟩
  ·rintro (h | h)
   ·exact .inl (.inl h)
   ·rcases Nat.lt_or_ge j w1.heap.size with hl | hl
    ·exact .inl (.inr ⟨h.1, hl⟩)
    ·exact .inr ⟨hl, h.2⟩
 rw [e] at h
 exact h
theorem Turn.grow2 {w1 w2 : World} (h : Turn F w w1) (k : Turn (grow F w w1) w1 w2) : Turn F w w2 := h.trans k fun i hi hg => by
 rcases hg with hg | hg
 ·exact hg
 ·omega

/-! What a walk reads. -/
theorem TreeIs.cells (h : TreeIs F w t M c a) : w.cell? ⟨t, 0, none⟩ = some (.int .i64 (a.last : Nat)) ∧ w.cell? ⟨t, 1, none⟩ = some (.map (some M.mb)) ∧ w.cell? ⟨t, 2, none⟩ = some (.pointer (some ⟨M.tb, 0, none⟩)) :=
 ⟨h.blk.cell 0, h.blk.cell 1, h.blk.cell 2⟩
theorem wfNat {k : Nat} (h : k ≤ 1000000) : (key (k : Int)).wf = true := by
 have e1 : IntKind.i64.min = -9223372036854775808 := by decide
 have e2 : IntKind.i64.max = 9223372036854775807 := by decide
 show (decide (IntKind.i64.min ≤ (k : Int)) && decide ((k : Int) ≤ IntKind.i64.max)) = true
 rw [e1, e2, decide_eq_true (by omega), decide_eq_true (by omega)]
 rfl
theorem TreeIs.look (h : TreeIs F w t M c a) {k : Nat} (hk : (a.nd k).kind ≠ 0) (hb : k ≤ 1000000) :
  (Instr.lookup 68 (.map (some M.mb)) (.int .i64 (k : Int)) false).run Tryz.prog w = .ok (.pointer (some ⟨M.hp k, 0, none⟩)) w := by
 have := h.map.look Tryz.underlying68 (z := .pointer none) (Tryz.zeroValue71 w) (wfNat hb)
 rw [this, nodeF_live hk]
 rfl
theorem TreeIs.ncells (h : TreeIs F w t M c a) {k : Nat} (hk : (a.nd k).kind ≠ 0) : w.cell? ⟨M.hp k, 0, none⟩ = some (.int .i64 (a.nd k).kind) ∧ w.cell? ⟨M.hp k, 1, none⟩ = some (.int .i64 (a.nd k).links) ∧ w.cell? ⟨M.hp k, 2, none⟩ = some (M.dv k) ∧ w.cell? ⟨M.hp k, 3, none⟩ = some (.map (some (M.nb k))) := by
 obtain ⟨h1, _⟩ := h.node k hk
 exact ⟨h1.cell 0, h1.cell 1, h1.cell 2, h1.cell 3⟩
end
end Go.Proofs.YtpkhglfhpggceaaGreatDoor
