/- CacheVoid answers true for every input, and each argument reads behind the call as it read before. No condition. -/
import Derived.Test.YtnbppfhnagacfaaRows
import Derived.Test.YtnbppfhnagacfaaVoid
import Derived.ProofKit
import Derived.OpenShut
import Derived.ChangeOld
namespace Go.Proofs.Ytnbppfhnagacfaa.cacheVoid
open Go.ChangeShapes Go.WideShapes Go.ChangeAt Go.RowKit
set_option linter.unusedVariables false

theorem laidOut : laidOutB Try.prog = true := by kernel_rfl

theorem cells_u8 : ∀ (l : List Value), (∀ (i : Nat) (v : Value), l[i]? = some v → ∃ n, v = .int .u8 n) → ∃ b : List Int, l = bytes b
  | [], _ => ⟨[], rfl⟩
  | v :: l, h => by
    obtain ⟨n, rfl⟩ := h 0 v rfl
    obtain ⟨b, rfl⟩ := cells_u8 l fun i v hv => h (i + 1) v (by simpa using hv)
    exact ⟨n :: b, rfl⟩

set_option maxRecDepth 100000 in
theorem block_open {W : World} {r : Reach} {base : Nat} {v : Value} (h : Value.okWide Try.prog W r base 32 v) : ∃ b : List Int, v = blkV b ∧ b.length = 64 := by
  simp only [Value.okWide, Try.underlying32] at h
  obtain ⟨cs, rfl, hs, ts, hts, _, hc⟩ := h
  have ht : Try.prog.cellTypes Try.prog.depth 32 = some (List.replicate 64 5) := by kernel_rfl
  rw [ht, Option.some.injEq] at hts
  subst hts
  have hs' : cs.size = 64 := by rw [hs]; kernel_rfl
  obtain ⟨b, hb⟩ := cells_u8 cs.toList fun i v hv => by
    obtain ⟨u, hu, hk⟩ := hc i v (by simpa using hv)
    have hu5 : u = 5 := List.eq_of_mem_replicate (List.mem_of_getElem? hu)
    subst hu5
    simp only [Cell.okWide, Try.underlying5] at hk
    cases v <;> simp_all [Cell.ok, Try.underlying5]
  refine ⟨b, ?_, ?_⟩
  · show Value.agg cs = Value.agg (bytes b).toArray
    rw [← hb, Array.toArray_toList]
  · rw [← bytes_len, ← hb, Array.length_toList, hs']

set_option maxRecDepth 100000 in
theorem lifted (os : Os) (started : os.Started) (H : Type) (enc : TypeId × Value → H) :
    ReturnsInHanded {} Try.checked os 4 .any (Rows.cacheVoidSpec.pre6 enc Try.prog Try.f4 Rows.cacheVoidRow.domain false) (Rows.cacheVoidSpec.post enc Try.prog Try.f4 false true false false) := by
  refine returnsInHanded_of_change (C := Try.checked) (by kernel_rfl) started (by kernel_rfl) Try.func4
    (ChangeSpec.witness6 (enc := enc) (C := Try.checked) false ⟨#[], #[.int .i64 0, blkV zeroB], []⟩ 8 (by kernel_rfl) (by kernel_rfl) (by kernel_rfl) (by kernel_rfl)) ?_
  intro W base args ds gs before hval0 hW hcnd _
  have hval : ∀ (j : Nat) t v, Try.f4.params[j]? = some t → args[j]? = some v → Value.okWide Try.prog W .any base t v := hval0
  have hW' := hW
  obtain ⟨p, q, hA0, hV, rfl, hfz, hnd⟩ := hW
  have hA : DataW.TrodAll enc Try.prog W 0 (fun _ => true) true Try.f4.params.toList args.toList ds p := hA0
  rw [Try.params4] at hA hval
  obtain ⟨v0, vs0, d0, ds0, p0, q0, hargs, rfl, rfl, h0, r0⟩ := trodAll_cons hA
  obtain ⟨v1, vs1, d1, ds1, p1, q1, rfl, rfl, rfl, h1, r1⟩ := trodAll_cons r0
  obtain ⟨rfl, rfl, rfl⟩ := trodAll_nil r1
  obtain rfl : args = #[v0, v1] := by cases args; simp_all
  obtain ⟨rfl, rfl⟩ := trodVars_none hV
  obtain ⟨b, hvb, hb⟩ := block_open (hval 1 32 v1 rfl rfl)
  subst hvb
  have k1 := h1
  have lt1 : ∀ x ∈ p1, x.block < W.heap.size := by obtain ⟨m, hm⟩ := k1; exact DataW.trod_lt m _ _ _ hm
  obtain ⟨a0, rfl, rfl, rfl, w0⟩ := open_int Try.underlying3 (hval 0 3 v0 rfl rfl) h0
  clear hA0 hval0
  refine (void_any a0 b hb W).mono fun e W' ⟨he, bel⟩ => ?_
  subst he
  exact ⟨_, rfl, _, _, _, [], _, [], hW', trodAll_mk1 (shut_bool Try.underlying4 _), (trodAll_cons_mk (shut_int Try.underlying3 w0) (trodAll_cons_mk (Below.trod laidOut (by kernel_rfl) (of_decide_eq_true (by kernel_rfl)) k1 bel lt1) trodAll_mk0)), rfl, bel.frame _, fun h => by cases h⟩

theorem CacheVoid_holds : Rows.CacheVoidSaid :=
  OpenClaim.holds_of_wide 4 Try.f4 rfl rfl rfl rfl rfl rfl rfl ⟨rfl, rfl, rfl, rfl, rfl⟩ rfl rfl rfl rfl rfl (by kernel_rfl) Try.func4 (by kernel_rfl)
    (of_decide_eq_true (by kernel_rfl)) (by unfold Func.isWrapper; first | (rw [if_pos (by decide +kernel)]; kernel_rfl) | (rw [if_neg (by decide +kernel)]; exact ⟨rfl, rfl⟩))
    (fun os started H enc _ => lifted os started H enc)
#print axioms CacheVoid_holds
end Go.Proofs.Ytnbppfhnagacfaa.cacheVoid
