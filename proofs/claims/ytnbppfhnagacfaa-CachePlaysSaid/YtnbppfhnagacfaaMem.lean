/- Memory words of the cache's seat: a block of 64 bytes, a row of such blocks, a variable that holds one. -/
import Derived.Test.YtnbppfhnagacfaaMap
import Derived.Deep.MidRow
import Derived.Deep.WholeRow
import Derived.Laws.OwnMore
import Derived.Lib.Hide
import Derived.Laws.ResultCell
namespace Go.Proofs.Ytnbppfhnagacfaa
open Go.RowKit
set_option linter.unusedVariables false

def bytes (l : List Int) : List Value := l.map (Value.int .u8)
theorem bytes_len (l : List Int) : (bytes l).length = l.length := by simp [bytes]
theorem bytes_one (l : List Int) : ∀ v ∈ bytes l, v.oneCell' = true := by
  intro v hv
  obtain ⟨x, -, rfl⟩ := List.mem_map.1 hv
  rfl
/-- A block as a value. -/
def blkV (b : List Int) : Value := .agg (bytes b).toArray
def zeroB : List Int := List.replicate 64 0
theorem zero32 : ∀ (w : World), (zeroValue 32).run Try.prog w = .ok (blkV zeroB) w := Try.zeroValue32
def flat (L : List (List Int)) : List Value := L.flatMap bytes
theorem flat_len : ∀ {L : List (List Int)}, (∀ b ∈ L, b.length = 64) → (flat L).length = L.length * 64
  | [], _ => rfl
  | b :: L, h => by
    have e : flat (b :: L) = bytes b ++ flat L := rfl
    rw [e, List.length_append, bytes_len, h b (by simp), flat_len fun q hq => h q (List.mem_cons_of_mem _ hq), List.length_cons]
    omega
theorem flat_at : ∀ {L : List (List Int)}, (∀ b ∈ L, b.length = 64) → ∀ (k : Nat) (b : List Int), L[k]? = some b → ∀ (j : Nat) (v : Value), (bytes b)[j]? = some v → (flat L)[k * 64 + j]? = some v := by
  intro L
  induction L with
  | nil => intro _ k b h; cases h
  | cons a L ih =>
    intro hl k b h j v hv
    have e : flat (a :: L) = bytes a ++ flat L := rfl
    have ha : (bytes a).length = 64 := by rw [bytes_len]; exact hl a (by simp)
    rw [e]
    cases k with
    | zero =>
      obtain rfl : a = b := by simpa using h
      have hj : j < (bytes a).length := (List.getElem?_eq_some_iff.1 hv).1
      rw [List.getElem?_append_left (by omega)]
      rw [Nat.zero_mul, Nat.zero_add]
      exact hv
    | succ k =>
      rw [List.getElem?_append_right (by omega), ha, show (k + 1) * 64 + j - 64 = k * 64 + j by omega]
      exact ih (fun q hq => hl q (List.mem_cons_of_mem _ hq)) k b (by simpa using h) j v hv

/-- A row of blocks of the call's own. -/
def Rows (w : World) (v : Value) (L : List (List Int)) : Prop := w.ownsRow 0 32 64 v L.length (flat L) ∧ ∀ b ∈ L, b.length = 64
theorem Rows.nil (w : World) : Rows w (.slice none 0 0) [] := ⟨World.ownsRow_nil _ _ _ _, fun b h => by cases h⟩
theorem Rows.form {w : World} {v : Value} {L : List (List Int)} (h : Rows w v L) (hl : 0 < L.length) : ∃ g c, v = .slice (some ⟨g, 0, none⟩) L.length c ∧ L.length ≤ c ∧ c ≤ maxLen ∧ g < w.heap.size := by
  rcases h.1.2 with ⟨hv, h0⟩ | ⟨g, cap, cur, hv, hb, hg, hnc, hcm, hcs, ht⟩
  · omega
  · exact ⟨g, cap, hv, hnc, hcm, (Array.getElem?_eq_some_iff.1 hg).1⟩
theorem Rows.shape {w : World} {v : Value} {L : List (List Int)} (h : Rows w v L) : ∃ A c, v = .slice A L.length c ∧ L.length ≤ c ∧ c ≤ maxLen := by
  rcases h.1.2 with ⟨hv, h0⟩ | ⟨g, cap, cur, hv, hb, hg, hnc, hcm, hcs, ht⟩
  · rw [h0]; exact ⟨_, _, hv, Nat.le_refl _, Nat.zero_le _⟩
  · exact ⟨_, _, hv, hnc, hcm⟩
theorem Rows.range {w : World} {g c : Nat} {L : List (List Int)} (h : Rows w (.slice (some ⟨g, 0, none⟩) L.length c) L) {k : Nat} {b : List Int} (hb : L[k]? = some b) : w.rangeAt g (k * 64) (bytes b) := fun j v hv => by
  have hk : k < L.length := (List.getElem?_eq_some_iff.1 hb).1
  have hj : j < (bytes b).length := (List.getElem?_eq_some_iff.1 hv).1
  rw [bytes_len, h.2 b (List.mem_of_getElem? hb)] at hj
  rw [World.ownsRow.cellAt h.1 (k * 64 + j) (by omega)]
  exact flat_at h.2 k b hb j v hv
theorem Rows.keep {w w' : World} {v : Value} {L : List (List Int)} (h : Rows w v L) (hk : ∀ j, v.ownBlock = some j → w'.heap[j]? = w.heap[j]?) : Rows w' v L := by
  refine ⟨⟨h.1.1, ?_⟩, h.2⟩
  rcases h.1.2 with h1 | ⟨g, cap, cur, hv, hb, hg, hr⟩
  · exact .inl h1
  · exact .inr ⟨g, cap, cur, hv, hb, (hk g (by rw [hv]; rfl)).trans hg, hr⟩
theorem Rows.lt {w : World} {v : Value} {L : List (List Int)} (h : Rows w v L) : ∀ j, v.ownBlock = some j → j < w.heap.size := fun j hj => (World.ownsRow.lt h.1 j hj).2
theorem Rows.turn {S : Nat → Prop} {w w' : World} {v : Value} {L : List (List Int)} (h : Rows w v L) (hT : Turn S w w') (hs : ∀ j, v.ownBlock = some j → ¬ S j) : Rows w' v L := h.keep fun j hj => hT.block j (h.lt j hj) (hs j hj)
theorem Rows.below {w w' : World} {v : Value} {L : List (List Int)} (h : Rows w v L) (hT : Below w.heap.size w w') : Rows w' v L := h.keep fun j hj => hT.block j (h.lt j hj)

/-! Loads and stores of a block. -/
theorem load32 {w : World} {g o : Nat} {b : List Int} (h : w.rangeAt g o (bytes b)) (hb : b.length = 64) : (Instr.loadAt 32 (.pointer (some ⟨g, o, none⟩))).run Try.prog w = .ok (blkV b) w :=
  run_loadAt_mid w g o 32 (bytes b) _ h Try.underlying32 rfl (by rw [bytes_len, hb]; kernel_rfl)
theorem store32 {w : World} {g o : Nat} {b : List Int} (h : w.there g o 64) (hb : b.length = 64) : (Instr.storeAt 32 (.pointer (some ⟨g, o, none⟩)) (blkV b)).run Try.prog w = .ok () (w.setCells g o (bytes b)) := by
  have hs : (bytes b).toArray.size = 64 := by simp [bytes, hb]
  have := run_storeAt_mid (P := Try.prog) w g o 32 (bytes b).toArray (by rw [hs]; exact h) (by rw [hs]; kernel_rfl) (all_oneCell_toArray (bytes_one b))
  rw [List.toList_toArray] at this
  exact this
theorem wl_load32 {ops : Array Oper} {rest : List Oper} {op : Oper} {a : Act} {w : World} {Q : Exit → Act → World → Prop} {g o : Nat} {b : List Int} (h : Hid (w.rangeAt g o (bytes b))) (hb : b.length = 64) (x : Operand) (ho : op.op = .load 32 x) (hgd : op.guard = none)
    (hx : a.eval x = .pointer (some ⟨g, o, none⟩)) (hk : wpList Try.prog ops Q rest (a.put op.dst (blkV b)) w) : wpList Try.prog ops Q (op :: rest) a w :=
  wpList_load_mid hgd 32 x ho g o hx (bytes b) _ h.out Try.underlying32 rfl (by rw [bytes_len, hb]; kernel_rfl) hk
theorem wl_store32 {ops : Array Oper} {rest : List Oper} {op : Oper} {a : Act} {w : World} {Q : Exit → Act → World → Prop} {g o : Nat} {b : List Int} (h : Hid (w.there g o 64)) (hb : b.length = 64) (x y : Operand) (ho : op.op = .store 32 x y) (hgd : op.guard = none)
    (hx : a.eval x = .pointer (some ⟨g, o, none⟩)) (hy : a.eval y = blkV b) (hk : wpList Try.prog ops Q rest (a.put op.dst undef) (w.setCells g o (bytes b))) : wpList Try.prog ops Q (op :: rest) a w := by
  have hs : (bytes b).toArray.size = 64 := by simp [bytes, hb]
  refine wpList_store_mid hgd 32 x y ho g o (bytes b).toArray hx hy (by rw [hs]; exact h.out) (by rw [hs]; kernel_rfl) (all_oneCell_toArray (bytes_one b)) ?_
  rw [List.toList_toArray]
  exact hk
theorem step_load32 {ops : Array Oper} {o : Oper} {a : Act} {w : World} {K : Act → World → Prop} {Q : Exit → Act → World → Prop} {E : Prop} {g f : Nat} {b : List Int} (h : w.rangeAt g f (bytes b)) (hb : b.length = 64) (x : Operand) (ho : o.op = .load 32 x) (hgd : o.guard = none)
    (hx : a.eval x = .pointer (some ⟨g, f, none⟩)) (hk : K (a.put o.dst (blkV b)) w) : if Region.wanted o (yielded ops a.tmps) = true then Oper.wp Try.prog o a w K Q else E := by
  have hw : Region.wanted o (yielded ops a.tmps) = true := by simp [Region.wanted, hgd]
  rw [if_pos hw]
  exact wp_load_mid 32 x ho g f hx (bytes b) _ h Try.underlying32 rfl (by rw [bytes_len, hb]; kernel_rfl) hk
theorem step_store32 {ops : Array Oper} {o : Oper} {a : Act} {w : World} {K : Act → World → Prop} {Q : Exit → Act → World → Prop} {E : Prop} {g f : Nat} {b : List Int} (h : w.there g f 64) (hb : b.length = 64) (x y : Operand) (ho : o.op = .store 32 x y) (hgd : o.guard = none)
    (hx : a.eval x = .pointer (some ⟨g, f, none⟩)) (hy : a.eval y = blkV b) (hk : K (a.put o.dst undef) (w.setCells g f (bytes b))) : if Region.wanted o (yielded ops a.tmps) = true then Oper.wp Try.prog o a w K Q else E := by
  have hw : Region.wanted o (yielded ops a.tmps) = true := by simp [Region.wanted, hgd]
  rw [if_pos hw]
  have hs : (bytes b).toArray.size = 64 := by simp [bytes, hb]
  refine wp_store_mid 32 x y ho g f (bytes b).toArray hx hy (by rw [hs]; exact h) (by rw [hs]; kernel_rfl) (all_oneCell_toArray (bytes_one b)) ?_
  rw [List.toList_toArray]
  exact hk
/-- Cells of a block, some of them anew. -/
def patch : Array Value → Nat → List Value → Array Value
  | cs, _, [] => cs
  | cs, o, v :: r => patch (cs.setIfInBounds o v) (o + 1) r
theorem patch_size : ∀ (vs : List Value) (cs : Array Value) (o : Nat), (patch cs o vs).size = cs.size
  | [], _, _ => rfl
  | v :: r, cs, o => by
    show (patch (cs.setIfInBounds o v) (o + 1) r).size = _
    rw [patch_size r]; simp
theorem patch_out : ∀ (vs : List Value) (cs : Array Value) (o i : Nat), (i < o ∨ o + vs.length ≤ i) → (patch cs o vs)[i]? = cs[i]?
  | [], _, _, _, _ => rfl
  | v :: r, cs, o, i, h => by
    show (patch (cs.setIfInBounds o v) (o + 1) r)[i]? = _
    rw [patch_out r _ _ _ (by simp only [List.length_cons] at h; omega)]
    rw [Array.getElem?_setIfInBounds_ne (by simp only [List.length_cons] at h; omega)]
theorem patch_in : ∀ (vs : List Value) (cs : Array Value) (o j : Nat) (v : Value), vs[j]? = some v → o + j < cs.size → (patch cs o vs)[o + j]? = some v
  | [], _, _, _, _, h, _ => by cases h
  | u :: r, cs, o, j, v, h, hs => by
    show (patch (cs.setIfInBounds o u) (o + 1) r)[o + j]? = _
    cases j with
    | zero =>
      obtain rfl : u = v := by simpa using h
      rw [patch_out r _ _ _ (by omega)]
      have hs' : o < cs.size := by omega
      show (cs.setIfInBounds o u)[o]? = some u
      simp [Array.getElem?_setIfInBounds, hs']
    | succ j =>
      rw [show o + (j + 1) = o + 1 + j by omega]
      exact patch_in r _ (o + 1) j v (by simpa using h) (by simp; omega)
theorem Blk.patch {g : Nat} {t : TypeId} : ∀ (vs : List Value) (cs : Array Value) (o : Nat) {w : World}, Blk w g t cs → Blk (w.setCells g o vs) g t (patch cs o vs)
  | [], _, _, _, h => h
  | v :: r, cs, o, w, h => by
    show Blk ((w.setCell ⟨g, o, none⟩ v).setCells g (o + 1) r) g t (Ytnbppfhnagacfaa.patch (cs.setIfInBounds o v) (o + 1) r)
    exact Blk.patch r _ _ (h.set_ o v)
theorem Turn.setCells {S : Nat → Prop} {a : World} {g : Nat} : ∀ (vs : List Value) (o : Nat) {w : World}, Turn S a w → (g < a.heap.size → S g) → Turn S a (w.setCells g o vs)
  | [], _, _, h, _ => h
  | v :: r, o, w, h, hg => Turn.setCells r (o + 1) (h.setCell (p := ⟨g, o, none⟩) hg v) hg
theorem cells_size (g : Nat) : ∀ (vs : List Value) (o : Nat) (w : World), (w.setCells g o vs).heap.size = w.heap.size
  | [], _, _ => rfl
  | v :: r, o, w => by
    show ((w.setCell ⟨g, o, none⟩ v).setCells g (o + 1) r).heap.size = _
    rw [cells_size g r]
    simp [World.setCell]
theorem loadv32 {w : World} {g o : Nat} {b : List Int} (h : w.rangeAt g o (bytes b)) (hb : b.length = 64) : (loadVar 32 ⟨g, o, none⟩).run Try.prog w = .ok (blkV b) w :=
  run_loadVar_mid w g o 32 (bytes b) _ h Try.underlying32 rfl (by rw [bytes_len, hb]; kernel_rfl)
/-- A variable that holds a block. -/
def Var (w : World) (g : Nat) (b : List Int) : Prop := Blk w g 32 (bytes b).toArray ∧ b.length = 64
theorem Var.range {w : World} {g : Nat} {b : List Int} (h : Var w g b) : w.rangeAt g 0 (bytes b) := fun j v hv => by
  rw [Nat.zero_add, h.1.cell j]
  simpa using hv
theorem Var.there {w : World} {g : Nat} {b : List Int} (h : Var w g b) : w.there g 0 64 := fun j hj => by
  rw [Nat.zero_add]
  refine ⟨?_, h.1.frozen j⟩
  rw [h.1.cell j]
  have : j < (bytes b).length := by rw [bytes_len, h.2]; exact hj
  simp [this]
theorem Var.set {w : World} {g : Nat} {b b' : List Int} (h : Var w g b) (hb : b'.length = 64) : Var (w.setCells g 0 (bytes b')) g b' := by
  refine ⟨?_, hb⟩
  have h1 := Blk.patch (w := w) (bytes b') _ 0 h.1
  have e : patch (bytes b).toArray 0 (bytes b') = (bytes b').toArray := by
    have hsz : (bytes b).toArray.size = 64 := by simp only [List.size_toArray, bytes_len]; exact h.2
    apply Array.ext_getElem?
    intro i
    rcases Nat.lt_or_ge i 64 with hi | hi
    · have hi' : i < (bytes b').length := by rw [bytes_len, hb]; exact hi
      have := patch_in (bytes b') (bytes b).toArray 0 i _ (List.getElem?_eq_getElem hi') (by omega)
      rw [Nat.zero_add] at this
      rw [this]
      simp [hi']
    · rw [patch_out _ _ _ _ (by rw [bytes_len, hb]; omega), Array.getElem?_eq_none (by omega), Array.getElem?_eq_none (by simp only [List.size_toArray, bytes_len, hb]; exact hi)]
  rwa [e] at h1
theorem Var.new (w : World) {b : List Int} (hb : b.length = 64) : Var (w.alloc (.cells (bytes b).toArray 32)) w.heap.size b := ⟨Blk.new _ _ _, hb⟩
theorem Var.lt {w : World} {g : Nat} {b : List Int} (h : Var w g b) : g < w.heap.size := h.1.lt
theorem Var.below {B : Nat} {w w' : World} {g : Nat} {b : List Int} (h : Var w g b) (hb : Below B w w') (hg : g < B) : Var w' g b := ⟨h.1.below hb hg, h.2⟩
theorem Var.turn {S : Nat → Prop} {w w' : World} {g : Nat} {b : List Int} (h : Var w g b) (hb : Turn S w w') (hg : ¬ S g) : Var w' g b := ⟨h.1.turn hb hg, h.2⟩
theorem res_blk {fn : Func} {p : Tmp} {tmps : Array Value} {w : World} {g : Nat} {b : List Int} (h : fn.results = #[.cell p 32]) (hv : Var w g b) (ht : tmps.getD p undef = .pointer (some ⟨g, 0, none⟩)) : (results fn tmps).run Try.prog w = .ok (blkV b) w := by
  have hld := loadv32 hv.range hv.2
  simp only [results, h]
  simp [Sem.run_bind, Result.andThen]
  rw [← Array.getD_eq_getD_getElem?, ht]
  simp [asAddr, Result.andThen, hld]
theorem res_blk2 {fn : Func} {p u : Tmp} {tmps : Array Value} {w : World} {g : Nat} {b : List Int} (h : fn.results = #[.cell p 32, .tmp u]) (hv : Var w g b) (ht : tmps.getD p undef = .pointer (some ⟨g, 0, none⟩)) {z : Value} (hz : tmps.getD u undef = z) : (results fn tmps).run Try.prog w = .ok (.tuple #[blkV b, z]) w := by
  have hld := loadv32 hv.range hv.2
  rw [results_cell_tmp h, ht, hz]
  simp [asAddr, Result.andThen, hld]
theorem below_drawnN (w : World) (n : Nat) : Below w.heap.size w (w.drewN n) := ⟨rfl, rfl, rfl, Nat.le_refl _, fun _ _ => rfl⟩
theorem bel_drawn {B : Nat} {a w : World} (h : Below B a w) (n : Nat) : Below B a (w.drewN n) := ⟨h.os, h.tape, h.output, h.size, h.block⟩
theorem zero_len : zeroB.length = 64 := rfl
end Go.Proofs.Ytnbppfhnagacfaa
