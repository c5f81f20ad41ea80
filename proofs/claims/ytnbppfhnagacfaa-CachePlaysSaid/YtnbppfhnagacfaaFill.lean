/- Literals with a block of 64 bytes in them: slices of one block, the cache's contents. -/
import Derived.Test.YtnbppfhnagacfaaMem
import Derived.Great.BuildSlice
namespace Go.Proofs.Ytnbppfhnagacfaa
open Go.RowKit
set_option linter.unusedVariables false

theorem fold_patch : ∀ (vs : List Value) (off k : Nat) (cs : Array Value), (vs.zipIdx k).foldl (fun cs (p : Value × Nat) => cs.setIfInBounds (off + p.2) p.1) cs = patch cs (off + k) vs
  | [], _, _, _ => rfl
  | v :: r, off, k, cs => by
    rw [List.zipIdx_cons, List.foldl_cons]
    show (r.zipIdx (k + 1)).foldl _ _ = patch (cs.setIfInBounds (off + k) v) (off + k + 1) r
    rw [fold_patch r off (k + 1), Nat.add_assoc]
theorem fold_bytes {b : List Int} (hb : b.length = 64) (cs : Array Value) (h : cs.size = 64) : List.foldl (fun cs (x : Value × Nat) => cs.setIfInBounds x.snd x.fst) cs (bytes b).zipIdx = (bytes b).toArray := by
  have h1 := fold_patch (bytes b) 0 0 cs
  simp only [Nat.zero_add] at h1
  rw [h1]
  apply Array.ext_getElem?
  intro i
  rcases Nat.lt_or_ge i 64 with hi | hi
  · have hi' : i < (bytes b).length := by rw [bytes_len, hb]; exact hi
    have := patch_in (bytes b) cs 0 i _ (List.getElem?_eq_getElem hi') (by omega)
    rw [Nat.zero_add] at this
    rw [this]
    simp [hi']
  · rw [patch_out _ _ _ _ (by rw [bytes_len, hb]; omega), Array.getElem?_eq_none (by omega), Array.getElem?_eq_none (by simp only [List.size_toArray, bytes_len, hb]; exact hi)]
theorem fill_cons {place : Nat → Option (Nat × Nat)} {cells : Array Value} {i off size : Nat} {v : Value} {rest : List (Nat × Value)} (hp : place i = some (off, size)) (hs : v.cells.size = size) (ho : off + size ≤ cells.size) :
    Instr.fill place cells ((i, v) :: rest) = Instr.fill place (patch cells off v.cells.toList) rest := by
  have e : v.cells.zipIdx.foldl (fun cs (x : Value × Nat) => cs.setIfInBounds (off + x.2) x.1) cells = patch cells off v.cells.toList := by
    rw [← Array.foldl_toList, Array.toList_zipIdx]
    exact fold_patch v.cells.toList off 0 cells
  have h1 : (v.cells.size ≠ size || off + v.cells.size > cells.size) = false := by simp [hs]; omega
  conv => lhs; unfold Instr.fill
  simp only [hp]
  rw [if_neg (by simpa using h1)]
  rw [← e]
theorem patch_full {cs : Array Value} {vs : List Value} (h : cs.size = vs.length) : patch cs 0 vs = vs.toArray := by
  apply Array.ext_getElem?
  intro i
  rcases Nat.lt_or_ge i vs.length with hi | hi
  · have := patch_in vs cs 0 i _ (List.getElem?_eq_getElem hi) (by omega)
    rw [Nat.zero_add] at this
    rw [this]
    simp [hi]
  · rw [patch_out _ _ _ _ (by omega), Array.getElem?_eq_none (by omega), Array.getElem?_eq_none (by simpa using hi)]

theorem info_zero (t : TypeId) (h : ((Try.prog.info? t).bind fun i => i.zero).isSome = true) : ∃ i z, Try.prog.info? t = some i ∧ i.zero = some z := by
  cases hi : Try.prog.info? t with
  | none => rw [hi] at h; cases h
  | some i =>
    rw [hi] at h
    obtain ⟨z, hz⟩ := Option.isSome_iff_exists.1 (show i.zero.isSome = true from h)
    exact ⟨i, z, rfl, hz⟩
theorem info32 : ∃ i z, Try.prog.info? 32 = some i ∧ i.zero = some z ∧ i.size = 64 ∧ i.bytes = 64 ∧ z.cells.size = 64 := by
  obtain ⟨i, z, hi, hz⟩ := info_zero 32 (by kernel_rfl)
  have h1 : (Try.prog.info? 32).map (fun i => i.size) = some 64 := by kernel_rfl
  have h2 : (Try.prog.info? 32).map (fun i => i.bytes) = some 64 := by kernel_rfl
  have h3 : ((Try.prog.info? 32).bind fun i => i.zero).map (fun z => z.cells.size) = some 64 := by kernel_rfl
  rw [hi] at h1 h2 h3
  refine ⟨i, z, hi, hz, Option.some.inj h1, Option.some.inj h2, ?_⟩
  have h4 : (i.zero).map (fun z => z.cells.size) = some 64 := h3
  rw [hz] at h4
  exact Option.some.inj h4
theorem run_build67 (w : World) {b : List Int} (hb : b.length = 64) : (Instr.buildSlice 67 1 #[(0, blkV b)]).run Try.prog w = .ok (.slice (some ⟨w.heap.size, 0, none⟩) 1 1) (w.alloc (.cells (bytes b).toArray 32)) := by
  obtain ⟨i, z, hi, hz, hs, -, hzc⟩ := info32
  refine run_buildSlice w 67 32 1 _ _ i z Try.underlying67 hi hz (by rw [hs]; decide) (by rw [hs]; decide) ?_
  rw [hs]
  have hv : (blkV b).cells.size = 64 := by show (bytes b).toArray.size = 64; simp [bytes, hb]
  show Instr.fill _ _ [(0, blkV b)] = _
  rw [fill_cons (off := 0) (size := 64) (by simp) hv (by simp)]
  show some (patch _ 0 (bytes b).toArray.toList) = _
  rw [List.toList_toArray, patch_full (by simp [bytes_len, hb])]
theorem step_build67 {ops : Array Oper} {o : Oper} {a : Act} {w : World} {K : Act → World → Prop} {Q : Exit → Act → World → Prop} {E : Prop} {b : List Int} (hb : b.length = 64) (x : Operand) (ho : o.op = .buildSlice 67 1 #[(0, x)]) (hgd : o.guard = none)
    (hx : a.eval x = blkV b) (hk : K (a.put o.dst (.slice (some ⟨w.heap.size, 0, none⟩) 1 1)) (w.alloc (.cells (bytes b).toArray 32))) : if Region.wanted o (yielded ops a.tmps) = true then Oper.wp Try.prog o a w K Q else E := by
  have hw : Region.wanted o (yielded ops a.tmps) = true := by simp [Region.wanted, hgd]
  rw [if_pos hw]
  unfold Oper.wp execOp
  simp only [ho, Sem.run_bind, List.map_toArray, List.map_cons, List.map_nil, hx, run_build67 w hb, Result.andThen_ok]
  exact hk
end Go.Proofs.Ytnbppfhnagacfaa
