/- package cache: Get; contents. -/
import Derived.Test.YtnbppfhnagacfaaHw
namespace Go.Proofs.Ytnbppfhnagacfaa
open Go.RowKit
set_option linter.unusedVariables false
attribute [local go_sem ↓] Go.wp_at_zero Go.wp_at_succ

theorem run_build79 (w : World) {b : List Int} (hb : b.length = 64) (c : Bool) : (Instr.build 79 #[(0, blkV b), (1, .bool c)]).run Try.prog w = .ok (.agg (bytes b ++ [Value.bool c]).toArray) w := by
  have hv : (blkV b).cells.size = 64 := by show (bytes b).toArray.size = 64; simp [bytes, hb]
  have hz : Try.zeroCells79.size = 65 := Try.zeroCells79_size
  have hf : ∀ place : Nat → Option (Nat × Nat), place 0 = some (0, 64) → place 1 = some (64, 1) → Instr.fill place Try.zeroCells79 [(0, blkV b), (1, .bool c)] = some (bytes b ++ [Value.bool c]).toArray := by
    intro place h0 h1
    rw [fill_cons h0 hv (by omega)]
    rw [fill_cons h1 (by rfl) (by rw [patch_size]; omega)]
    show some (patch (patch Try.zeroCells79 0 (bytes b).toArray.toList) 64 [.bool c]) = _
    rw [List.toList_toArray]
    congr 1
    have hl : (bytes b).length = 64 := by rw [bytes_len]; exact hb
    apply Array.ext_getElem?
    intro j
    rcases Nat.lt_or_ge j 64 with hj | hj
    · have hj' : j < (bytes b).length := by omega
      rw [patch_out _ _ _ _ (.inl hj)]
      have := patch_in (bytes b) Try.zeroCells79 0 j _ (List.getElem?_eq_getElem hj') (by omega)
      rw [Nat.zero_add] at this
      rw [this, List.getElem?_toArray, List.getElem?_append_left hj', List.getElem?_eq_getElem hj']
    · rcases Nat.lt_or_ge j 65 with h6 | h6
      · obtain rfl : j = 64 := by omega
        have := patch_in [Value.bool c] (patch Try.zeroCells79 0 (bytes b)) 64 0 _ rfl (by rw [patch_size]; omega)
        rw [Nat.add_zero] at this
        rw [this, List.getElem?_toArray, List.getElem?_append_right (by omega), hl]
        rfl
      · rw [Array.getElem?_eq_none (by rw [patch_size, patch_size]; omega), Array.getElem?_eq_none (by simp; omega)]
  unfold Instr.build
  simp only [Sem.run_bind, Try.zeroValue79, Result.andThen_ok, run_underlying Try.underlying79]
  simp [Try.sizeOf32, Try.sizeOf4, Sem.run_bind]
  rw [show Instr.fill (fun x => [(0, 64), (64, 1)][x]?) (Value.agg Try.zeroCells79).cells [(0, blkV b), (1, Value.bool c)] = _ from hf _ rfl rfl]
  rfl
theorem zero79 : Try.zeroCells79 = (bytes zeroB ++ [Value.bool false]).toArray := by rfl
theorem run_build79f (w : World) {b : List Int} (hb : b.length = 64) : (Instr.build 79 #[(0, blkV b)]).run Try.prog w = .ok (.agg (bytes b ++ [Value.bool false]).toArray) w := by
  have hv : (blkV b).cells.size = 64 := by show (bytes b).toArray.size = 64; simp [bytes, hb]
  have hz : Try.zeroCells79.size = 65 := Try.zeroCells79_size
  have hf : ∀ place : Nat → Option (Nat × Nat), place 0 = some (0, 64) → Instr.fill place Try.zeroCells79 [(0, blkV b)] = some (bytes b ++ [Value.bool false]).toArray := by
    intro place h0
    rw [fill_cons h0 hv (by omega)]
    show some (patch Try.zeroCells79 0 (bytes b).toArray.toList) = _
    rw [List.toList_toArray]
    congr 1
    have hl : (bytes b).length = 64 := by rw [bytes_len]; exact hb
    apply Array.ext_getElem?
    intro j
    rcases Nat.lt_or_ge j 64 with hj | hj
    · have hj' : j < (bytes b).length := by omega
      have := patch_in (bytes b) Try.zeroCells79 0 j _ (List.getElem?_eq_getElem hj') (by omega)
      rw [Nat.zero_add] at this
      rw [this, List.getElem?_toArray, List.getElem?_append_left hj', List.getElem?_eq_getElem hj']
    · rcases Nat.lt_or_ge j 65 with h6 | h6
      · obtain rfl : j = 64 := by omega
        rw [patch_out _ _ _ _ (.inr (by omega)), zero79, List.getElem?_toArray, List.getElem?_toArray, List.getElem?_append_right (by rw [bytes_len]; decide), List.getElem?_append_right (by omega), hl]
        rfl
      · rw [Array.getElem?_eq_none (by rw [patch_size]; omega), Array.getElem?_eq_none (by simp; omega)]
  unfold Instr.build
  simp only [Sem.run_bind, Try.zeroValue79, Result.andThen_ok, run_underlying Try.underlying79]
  simp [Try.sizeOf32, Try.sizeOf4, Sem.run_bind]
  rw [show Instr.fill (fun x => [(0, 64), (64, 1)][x]?) (Value.agg Try.zeroCells79).cells [(0, blkV b)] = _ from hf _ rfl]
  rfl
theorem wl_build79 {ops : Array Oper} {rest : List Oper} {op : Oper} {a : Act} {w : World} {Q : Exit → Act → World → Prop} {b : List Int} (hb : b.length = 64) (c : Bool) (x y : Operand) (ho : op.op = .build 79 #[(0, x), (1, y)]) (hgd : op.guard = none)
    (hx : a.eval x = blkV b) (hy : a.eval y = .bool c) (hk : wpList Try.prog ops Q rest (a.put op.dst (.agg (bytes b ++ [Value.bool c]).toArray)) w) : wpList Try.prog ops Q (op :: rest) a w :=
  wpList_plain hgd fun _ hK => by
    unfold Oper.wp execOp
    simp only [ho, Sem.run_bind, List.map_toArray, List.map_cons, List.map_nil, hx, hy, run_build79 w hb c, Result.andThen_ok]
    exact hK _ _ hk
theorem wl_build79f {ops : Array Oper} {rest : List Oper} {op : Oper} {a : Act} {w : World} {Q : Exit → Act → World → Prop} {b : List Int} (hb : b.length = 64) (x : Operand) (ho : op.op = .build 79 #[(0, x)]) (hgd : op.guard = none)
    (hx : a.eval x = blkV b) (hk : wpList Try.prog ops Q rest (a.put op.dst (.agg (bytes b ++ [Value.bool false]).toArray)) w) : wpList Try.prog ops Q (op :: rest) a w :=
  wpList_plain hgd fun _ hK => by
    unfold Oper.wp execOp
    simp only [ho, Sem.run_bind, List.map_toArray, List.map_cons, List.map_nil, hx, run_build79f w hb, Result.andThen_ok]
    exact hK _ _ hk
theorem wl_store79 {ops : Array Oper} {rest : List Oper} {op : Oper} {a : Act} {w : World} {Q : Exit → Act → World → Prop} {g : Nat} {b : List Int} {c : Bool} (h : Hid (w.there g 0 65)) (hb : b.length = 64) (x y : Operand) (ho : op.op = .store 79 x y) (hgd : op.guard = none)
    (hx : a.eval x = .pointer (some ⟨g, 0, none⟩)) (hy : a.eval y = .agg (bytes b ++ [Value.bool c]).toArray) (hk : wpList Try.prog ops Q rest (a.put op.dst undef) (w.setCells g 0 (bytes b ++ [Value.bool c]))) : wpList Try.prog ops Q (op :: rest) a w := by
  have hs : (bytes b ++ [Value.bool c]).toArray.size = 65 := by simp [bytes, hb]
  refine wpList_store_mid hgd 79 x y ho g 0 (bytes b ++ [Value.bool c]).toArray hx hy (by rw [hs]; exact h.out) (by rw [hs]; kernel_rfl) (all_oneCell_toArray fun v hv => ?_) ?_
  · rcases List.mem_append.1 hv with hv | hv
    · exact bytes_one b v hv
    · rw [List.mem_singleton.1 hv]; rfl
  · rw [List.toList_toArray]
    exact hk
theorem hd_put {h : Hd} (hb : h.b.length = 64) {b : List Int} (hl : b.length = 64) (c : Bool) : patch h.cells 0 (bytes b ++ [Value.bool c]) = (Hd.mk b c h.pins).cells := by
  have hz : h.cells.size = 66 := Hd.size _ hb
  have hs : (Hd.mk b c h.pins).cells.size = 66 := Hd.size _ hl
  have hbl : (bytes b ++ [Value.bool c]).length = 65 := by simp [bytes_len, hl]
  apply Array.ext_getElem?
  intro j
  rcases Nat.lt_or_ge j 65 with hj | hj
  · have hj' : j < (bytes b ++ [Value.bool c]).length := by omega
    have := patch_in (bytes b ++ [Value.bool c]) h.cells 0 j _ (List.getElem?_eq_getElem hj') (by omega)
    rw [Nat.zero_add] at this
    rw [this]
    unfold Hd.cells
    rw [List.getElem?_toArray, show bytes b ++ [Value.bool c, Value.int .i64 h.pins] = (bytes b ++ [Value.bool c]) ++ [Value.int .i64 h.pins] by simp, List.getElem?_append_left hj', List.getElem?_eq_getElem hj']
  · rw [patch_out _ _ _ _ (by omega)]
    rcases Nat.lt_or_ge j 66 with h6 | h6
    · obtain rfl : j = 65 := by omega
      rw [(h.at64 hb).2, ((Hd.mk b c h.pins).at64 hl).2]
    · rw [Array.getElem?_eq_none (by omega), Array.getElem?_eq_none (by omega)]

theorem St.mono {F F' : Nat → Prop} {w : World} {c d : Nat} {sp : Option Nat} {hp : Int → Nat} {a : CA} (h : St F w c d sp hp a) (hF : ∀ j, F j → F' j) (hl : ∀ j, F' j → j < w.heap.size) (hs : ∀ g, sp = some g → ¬ F' g) : St F' w c d sp hp a := by
  obtain ⟨Fc, Fd, ml, ov, h⟩ := h
  exact ⟨Fc, Fd, ml, ov, { h with sub := fun j hj => hF j (h.sub j hj), flt := hl, spf := hs }⟩
theorem St.held {F : Nat → Prop} {w : World} {c d : Nat} {sp : Option Nat} {hp : Int → Nat} {a : CA} (h : St F w c d sp hp a) {i : Int} {hd : Hd} (hi : a.m i = some hd) : Blk w (hp i) 81 hd.cells ∧ hd.b.length = 64 ∧ F (hp i) := by
  obtain ⟨Fc, Fd, ml, ov, h⟩ := h
  obtain ⟨h1, h2, h3, h4, -⟩ := h.ca.held i hd hi
  exact ⟨h1, h2, h.sub _ (.inl h4)⟩
theorem St.lt {F : Nat → Prop} {w : World} {c d : Nat} {sp : Option Nat} {hp : Int → Nat} {a : CA} (h : St F w c d sp hp a) : (∀ j, F j → j < w.heap.size) ∧ (∀ g, sp = some g → ¬ F g ∧ g < w.heap.size) ∧ F c := by
  obtain ⟨Fc, Fd, ml, ov, h⟩ := h
  exact ⟨h.flt, fun g hg => ⟨h.spf g hg, h.own.splt g hg⟩, h.sub _ (.inl h.ca.fc)⟩
theorem hold_held {a : CA} {i : Int} (h : (holdR a i).1 = 0) (hL : Link a.os a.m) : ∃ hd, (holdR a i).2.m i = some hd := by
  unfold holdR at *
  split at h
  · cases h
  · rename_i hx
    rw [if_neg hx]
    cases hm : a.m i with
    | some hd => exact ⟨hd, hm⟩
    | none =>
      rw [hm] at h
      dsimp only at h ⊢
      split at h
      · rename_i hc
        rw [if_pos hc]
        exact ⟨_, updm_same _ _ _⟩
      · rename_i hc
        exact absurd h hc
end Go.Proofs.Ytnbppfhnagacfaa
