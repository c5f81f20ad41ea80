/- CacheShows: what its walk reads and writes besides the cache: the acts that come in, the row of what was put last. -/
import Derived.Test.YtnbppfhnagacfaaLaw
import Derived.Test.YtnbppfhnagacfaaWk
import Derived.Deep.MidRow
namespace Go.Proofs.Ytnbppfhnagacfaa
open Go.RowKit
set_option linter.unusedVariables false

theorem yields_same {ops : Array Oper} {S : World → Prop} {op : Oper} {a : Act} {b : List Int} (hw : Region.wanted op (yielded ops a.tmps) = true) (hb : b.length = 64) (x y : Operand) (ho : op.op = .binOp .neq 32 x y 32)
    (hx : a.eval x = blkV b) (hy : a.eval y = blkV b) : YieldsIf Try.prog ops S op (.bool false) a :=
  .inl ⟨hw, fun w _ => by
    unfold execOp
    simp only [ho, hx, hy]
    have h1 := run_neq32 w hb hb
    rw [decide_eq_true rfl] at h1
    have h2 : (eqGuard .neq 32 x y (blkV b) (blkV b)).run Try.prog w = .ok () w := run_eqGuard_agg w .neq 32 x y _ _ Try.eqGuardType32
    simp only [Sem.run_bind, h2, h1, Result.andThen_ok, Sem.run_pure, Bool.not_true]⟩
structure ActD where
  dn : Int
  at_ : Int
  b : List Int
def ActD.cells (x : ActD) : List Value := [.int .i64 x.dn, .int .i64 x.at_] ++ bytes x.b
theorem ActD.len (x : ActD) (h : x.b.length = 64) : x.cells.length = 66 := by simp [ActD.cells, bytes_len, h]
theorem ActD.one (x : ActD) : ∀ v ∈ x.cells, v.oneCell' = true := by
  intro v hv
  unfold ActD.cells at hv
  rcases List.mem_append.1 hv with hv | hv
  · simp at hv; rcases hv with rfl | rfl <;> rfl
  · exact bytes_one _ v hv
/-- The acts, as they came in. -/
def ActsR (w : World) (A : Option Addr) (n : Nat) (l : List ActD) : Prop :=
  l.length = n ∧ ∀ i x, l[i]? = some x → x.b.length = 64 ∧ (key x.at_).wf = true ∧ ∃ g o, A = some ⟨g, o, none⟩ ∧ g < w.heap.size ∧ w.rangeAt g (o + i * 66) x.cells
theorem wl_load35 {ops : Array Oper} {rest : List Oper} {op : Oper} {a : Act} {w : World} {Q : Exit → Act → World → Prop} {g o : Nat} {x : ActD} (h : Hid (w.rangeAt g o x.cells)) (hb : x.b.length = 64) (y : Operand) (ho : op.op = .load 35 y) (hgd : op.guard = none)
    (hx : a.eval y = .pointer (some ⟨g, o, none⟩)) (hk : wpList Try.prog ops Q rest (a.put op.dst (.agg x.cells.toArray)) w) : wpList Try.prog ops Q (op :: rest) a w :=
  wpList_load_mid hgd 35 y ho g o hx x.cells _ h.out Try.underlying35 rfl (by rw [x.len hb]; kernel_rfl) hk
theorem wl_store35 {ops : Array Oper} {rest : List Oper} {op : Oper} {a : Act} {w : World} {Q : Exit → Act → World → Prop} {g o : Nat} {v : ActD} (h : Hid (w.there g o 66)) (hb : v.b.length = 64) (x y : Operand) (ho : op.op = .store 35 x y) (hgd : op.guard = none)
    (hx : a.eval x = .pointer (some ⟨g, o, none⟩)) (hy : a.eval y = .agg v.cells.toArray) (hk : wpList Try.prog ops Q rest (a.put op.dst undef) (w.setCells g o v.cells)) : wpList Try.prog ops Q (op :: rest) a w := by
  have hs : v.cells.toArray.size = 66 := by rw [List.size_toArray, v.len hb]
  refine wpList_store_mid hgd 35 x y ho g o v.cells.toArray hx hy (by rw [hs]; exact h.out) (by rw [hs]; kernel_rfl) (all_oneCell_toArray v.one) ?_
  rw [List.toList_toArray]
  exact hk
def zeroAct : ActD := ⟨0, 0, zeroB⟩
theorem zero35 : Try.zeroCells35 = zeroAct.cells.toArray := by rfl
theorem there_of {w : World} {g n : Nat} {t : TypeId} {cs : Array Value} (h : Blk w g t cs) (hn : n ≤ cs.size) : Hid (w.there g 0 n) := Lib.hid fun j hj => by
  rw [Nat.zero_add]
  refine ⟨?_, h.frozen j⟩
  rw [h.cell j]
  simp
  omega
theorem there35 (w : World) : Hid ((w.alloc (.cells Try.zeroCells35 35)).there w.heap.size 0 66) := there_of (Blk.new w 35 _) (by rw [zero35]; exact Nat.le_refl _)
theorem new_set (w : World) (cs : Array Value) (t : TypeId) (vs : List Value) : Below w.heap.size w ((w.alloc (.cells cs t)).setCells w.heap.size 0 vs) := by
  have h1 : Below w.heap.size w (w.alloc (.cells cs t)) := (Below.refl _ _).alloc (Nat.le_refl _) _
  exact h1.trans ((Turn.setCells (S := fun j => j = w.heap.size) vs 0 (Turn.refl _ (w.alloc (.cells cs t))) fun _ => rfl).below h1.size fun i hi e => by omega)
theorem act_at (w : World) (x : ActD) (hb : x.b.length = 64) : ∃ W', W' = (w.alloc (.cells Try.zeroCells35 35)).setCells w.heap.size 0 x.cells ∧ Below w.heap.size w W' ∧ Blk W' w.heap.size 35 x.cells.toArray ∧ W'.heap.size = w.heap.size + 1 := by
  refine ⟨_, rfl, new_set _ _ _ _, ?_, by rw [cells_size]; simp⟩
  have := Blk.patch x.cells _ 0 (Blk.new w 35 Try.zeroCells35)
  rw [patch_full (by rw [zero35, List.size_toArray, zeroAct.len zero_len, x.len hb])] at this
  exact this

/-- The row of what was put last. -/
def LastIs (w : World) (lb : Nat) (L : List (List Int)) : Prop := Blk w lb 33 (flat L).toArray ∧ L.length = 6 ∧ ∀ b ∈ L, b.length = 64
def lst (L : List (List Int)) : Int → List Int := fun k => L.getD k.toNat zeroB
def L0 : List (List Int) := List.replicate 6 zeroB
theorem zero33 : Try.zeroCells33 = (flat L0).toArray := by kernel_rfl
theorem L0_ok : L0.length = 6 ∧ ∀ b ∈ L0, b.length = 64 := ⟨rfl, fun b h => by rw [List.eq_of_mem_replicate h]; rfl⟩
theorem lst0 : lst L0 = fun _ => zeroB := by
  funext k
  unfold lst L0
  rw [List.getD_eq_getElem?_getD, List.getElem?_replicate]
  split <;> rfl
theorem LastIs.turn {S : Nat → Prop} {w w' : World} {lb : Nat} {L : List (List Int)} (h : LastIs w lb L) (hT : Turn S w w') (hS : ¬ S lb) : LastIs w' lb L := ⟨h.1.turn hT hS, h.2⟩
theorem LastIs.get {w : World} {lb : Nat} {L : List (List Int)} (h : LastIs w lb L) {k : Nat} (hk : k < 6) : L[k]? = some (lst L k) ∧ (lst L k).length = 64 := by
  have hk' : k < L.length := by rw [h.2.1]; exact hk
  have e : L[k]? = some (lst L k) := by
    unfold lst
    rw [Int.toNat_natCast, List.getD_eq_getElem?_getD, List.getElem?_eq_getElem hk']
    rfl
  exact ⟨e, h.2.2 _ (List.mem_of_getElem? e)⟩
theorem LastIs.range {w : World} {lb : Nat} {L : List (List Int)} (h : LastIs w lb L) {k : Nat} (hk : k < 6) : w.rangeAt lb (k * 64) (bytes (lst L k)) := fun j v hv => by
  rw [h.1.cell, List.getElem?_toArray]
  exact flat_at h.2.2 k _ (h.get hk).1 j v hv
theorem LastIs.there {w : World} {lb : Nat} {L : List (List Int)} (h : LastIs w lb L) {k : Nat} (hk : k < 6) : w.there lb (k * 64) 64 := fun j hj => by
  refine ⟨?_, h.1.frozen _⟩
  have hl := flat_len h.2.2
  rw [h.2.1] at hl
  rw [h.1.cell, List.getElem?_toArray, List.getElem?_eq_getElem (by omega)]
  rfl
theorem LastIs.set {w : World} {lb : Nat} {L : List (List Int)} (h : LastIs w lb L) {k : Nat} (hk : k < 6) {b : List Int} (hb : b.length = 64) : LastIs (w.setCells lb (k * 64) (bytes b)) lb (L.set k b) := by
  have hl : ∀ q ∈ L.set k b, q.length = 64 := fun q hq => by
    rcases List.mem_or_eq_of_mem_set hq with hq | rfl
    · exact h.2.2 q hq
    · exact hb
  refine ⟨?_, by rw [List.length_set]; exact h.2.1, hl⟩
  have hp := Blk.patch (bytes b) _ (k * 64) h.1
  have e : patch (flat L).toArray (k * 64) (bytes b) = (flat (L.set k b)).toArray := by
    have hbl : (bytes b).length = 64 := by rw [bytes_len]; exact hb
    have h6 := h.2.1
    have hf := flat_len h.2.2
    have hf2 := flat_len hl
    rw [List.length_set] at hf2
    apply Array.ext_getElem?
    intro q
    rw [show (flat (L.set k b)).toArray[q]? = (flat (L.set k b))[q]? from List.getElem?_toArray]
    rcases Nat.lt_or_ge q (L.length * 64) with hq | hq
    · rw [flat_get hl (by rw [List.length_set]; exact hq)]
      by_cases e : q / 64 = k
      · have hr : q % 64 < (bytes b).length := by omega
        have := patch_in (bytes b) (flat L).toArray (k * 64) (q % 64) _ (List.getElem?_eq_getElem hr) (by rw [List.size_toArray]; omega)
        rw [show k * 64 + q % 64 = q by omega] at this
        rw [this, e, List.getD_eq_getElem?_getD, List.getElem?_set_self (by omega)]
        simp [hr]
      · rw [patch_out _ _ _ _ (by omega), List.getElem?_toArray, flat_get h.2.2 hq, List.getD_eq_getElem?_getD, List.getD_eq_getElem?_getD, List.getElem?_set_ne (fun h => e h.symm)]
    · rw [patch_out (bytes b) (flat L).toArray (k * 64) q (by omega), List.getElem?_toArray, List.getElem?_eq_none (by omega), List.getElem?_eq_none (by omega)]
  rw [e] at hp
  exact hp
theorem lst_set {L : List (List Int)} (hL : L.length = 6) {i : Nat} (hi : i < 6) (b : List Int) : ∀ k : Int, 0 ≤ k → k < 6 → upl (lst L) i b k = lst (L.set i b) k := by
  intro k k0 k1
  unfold upl lst
  by_cases e : k = i
  · subst e
    rw [if_pos rfl, Int.toNat_natCast, List.getD_eq_getElem?_getD, List.getElem?_set_self (by omega)]
    rfl
  · rw [if_neg e, List.getD_eq_getElem?_getD, List.getD_eq_getElem?_getD, List.getElem?_set_ne (by omega)]
theorem wl_store33 {ops : Array Oper} {rest : List Oper} {op : Oper} {a : Act} {w : World} {Q : Exit → Act → World → Prop} {g : Nat} (h : Hid (w.there g 0 384)) (x y : Operand) (ho : op.op = .store 33 x y) (hgd : op.guard = none)
    (hx : a.eval x = .pointer (some ⟨g, 0, none⟩)) (hy : a.eval y = .agg Try.zeroCells33) (hk : wpList Try.prog ops Q rest (a.put op.dst undef) (w.setCells g 0 (flat L0))) : wpList Try.prog ops Q (op :: rest) a w := by
  have hs : Try.zeroCells33.size = 384 := by rw [zero33, List.size_toArray, flat_len L0_ok.2, L0_ok.1]
  refine wpList_store_mid hgd 33 x y ho g 0 Try.zeroCells33 hx hy (by rw [hs]; exact h.out) (by rw [hs]; kernel_rfl) ?_ ?_
  · rw [zero33]
    refine all_oneCell_toArray fun v hv => ?_
    obtain ⟨b, hb, hv⟩ := List.mem_flatMap.1 hv
    exact bytes_one b v hv
  · rw [zero33, List.toList_toArray]
    exact hk
theorem there33 (w : World) : Hid ((w.alloc (.cells Try.zeroCells33 33)).there w.heap.size 0 384) := there_of (Blk.new w 33 _) (by rw [zero33, List.size_toArray, flat_len L0_ok.2, L0_ok.1]; exact Nat.le_refl _)
theorem last_at (w : World) : ∃ W', W' = (w.alloc (.cells Try.zeroCells33 33)).setCells w.heap.size 0 (flat L0) ∧ Below w.heap.size w W' ∧ LastIs W' w.heap.size L0 ∧ W'.heap.size = w.heap.size + 1 := by
  refine ⟨_, rfl, new_set _ _ _ _, ⟨?_, L0_ok⟩, by rw [cells_size]; simp⟩
  have := Blk.patch (flat L0) _ 0 (Blk.new w 33 Try.zeroCells33)
  rw [patch_full (by rw [zero33, List.size_toArray])] at this
  exact this
end Go.Proofs.Ytnbppfhnagacfaa
