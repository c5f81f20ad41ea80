/- The cache's memory: its own block, its map of held sectors (counted), its order. -/
import Derived.Test.YtnbppfhnagacfaaOrd
namespace Go.Proofs.Ytnbppfhnagacfaa
open Go.RowKit Go.Maps
set_option linter.unusedVariables false

/-- A map that holds just f, of m keys. -/
def MapN (w : World) (b n : Nat) (f : Int → Option Value) (m : Nat) : Prop := ∃ D, w.ownsMap Try.prog 3 raw b n D ∧ Reads D f ∧ Maps.size D = m
theorem MapN.is {w : World} {b n m : Nat} {f : Int → Option Value} (h : MapN w b n f m) : MapIs w b n f := by obtain ⟨D, h1, h2, -⟩ := h; exact ⟨D, h1, h2⟩
theorem MapN.new (w : World) : MapN (w.alloc (.map #[] 0)) w.heap.size 0 (fun _ => none) 0 := ⟨_, World.ownsMap_made w _ _ _, Reads.empty, rfl⟩
theorem MapN.keep {w w' : World} {b n m : Nat} {f : Int → Option Value} (h : MapN w b n f m) (hk : w'.heap[b]? = w.heap[b]?) : MapN w' b n f m := by
  obtain ⟨D, ⟨es, clock, hb, F, hs, hD⟩, hr, hc⟩ := h
  exact ⟨D, ⟨es, clock, hk.trans hb, F, hs, hD⟩, hr, hc⟩
theorem MapN.turn {S : Nat → Prop} {w w' : World} {b n m : Nat} {f : Int → Option Value} (h : MapN w b n f m) (hb : Turn S w w') (hs : ¬ S b) : MapN w' b n f m := h.keep (hb.block b h.is.lt hs)
theorem MapN.mono {w : World} {b n n' m : Nat} {f : Int → Option Value} (h : MapN w b n f m) (hn : n ≤ n') : MapN w b n' f m := by
  obtain ⟨D, h1, h2, h3⟩ := h
  exact ⟨D, h1.mono hn, h2, h3⟩
theorem MapN.len {w : World} {b n m : Nat} {f : Int → Option Value} {t e : TypeId} (h : MapN w b n f m) (ht : Try.prog.underlying t = some (.map 3 e)) (ty : TypeId) : (Builtin.len_ #[t] ty #[.map (some b)]).run Try.prog w = .ok (.int .i64 m) w := by
  obtain ⟨D, h1, h2, h3⟩ := h
  rw [← h3]
  exact h1.len ht ty
theorem MapN.store {w : World} {b n m : Nat} {f : Int → Option Value} {t e : TypeId} (h : MapN w b n f m) (ht : Try.prog.underlying t = some (.map 3 e)) (hn : n < maxLen) {k : Int} (hk : (key k).wf = true) (v : Value) (hf : f k = none) :
    ∃ w', (Instr.mapUpdate t (.map (some b)) (.int .i64 k) v).run Try.prog w = .ok () w' ∧ MapN w' b (n + 1) (upd f k (some v)) (m + 1) ∧ w.grownBy w' (some b) := by
  obtain ⟨D, h, r, hc⟩ := h
  obtain ⟨w', hrun, ho, hg⟩ := h.update keyed ht hn (key_of hk) (d := .held v) (ps := []) rfl
  refine ⟨w', hrun, ⟨_, ho, r.put (isMap_of h) k v, ?_⟩, hg⟩
  have := size_put (k := key k) (h.tidy keyed) (.held v)
  rw [r.has, hf] at this
  rw [this, hc]
  rfl
theorem MapN.drop {w : World} {b n m : Nat} {f : Int → Option Value} {t e : TypeId} (h : MapN w b n f m) (ht : Try.prog.underlying t = some (.map 3 e)) {k : Int} (hk : (key k).wf = true) (hf : (f k).isSome = true) :
    ∃ w', (∀ ty, (Builtin.delete_ #[t, 3] ty #[.map (some b), .int .i64 k]).run Try.prog w = .ok (.tuple #[]) w') ∧ MapN w' b n (upd f k none) (m - 1) ∧ w.grownBy w' (some b) := by
  obtain ⟨D, h, r, hc⟩ := h
  obtain ⟨w', hrun, ho, hg⟩ := h.drop keyed ht (key_of hk) 0
  refine ⟨w', fun ty => hrun, ⟨_, ho, r.del k, ?_⟩, hg.grown⟩
  have := size_del (k := key k) (h.tidy keyed)
  rw [r.has, hf] at this
  simp at this
  omega
/-- clear(m). -/
theorem MapN.clear {w : World} {b n m : Nat} {f : Int → Option Value} {t e : TypeId} (h : MapN w b n f m) (ht : Try.prog.underlying t = some (.map 3 e)) :
    ∃ w', (∀ ty, (Builtin.clear_ #[t] ty #[.map (some b)]).run Try.prog w = .ok (.tuple #[]) w') ∧ MapN w' b n (fun _ => none) 0 ∧ w.grownBy w' (some b) := by
  obtain ⟨D, ⟨es, clock, hb, F, hs, hD⟩, r, hc⟩ := h
  refine ⟨{ w with heap := w.heap.setIfInBounds b (.map #[] clock) }, fun ty => ?_, ⟨.map [], ⟨#[], clock, ?_, ⟨by simp, ⟨by simp, by simp, by simp⟩, by simp⟩, Nat.zero_le _, rfl⟩, Reads.empty, rfl⟩, ⟨rfl, rfl, rfl, by simp, fun k hk hne => ?_⟩⟩
  · have h1 : (getObj b).run Try.prog w = .ok (.map es clock) w := by simp [getObj, Sem.run, hb]
    have h2 : (setObj b (.map #[] clock)).run Try.prog w = .ok () { w with heap := w.heap.setIfInBounds b (.map #[] clock) } := by simp [setObj, Sem.run, hb]
    simp [Builtin.clear_, run_underlying ht, h1, h2, Result.andThen]
  · have hlt : b < w.heap.size := (Array.getElem?_eq_some_iff.1 hb).1
    show (w.heap.setIfInBounds b (.map #[] clock))[b]? = _
    simp [hlt]
  · have hbk : b ≠ k := fun e => hne (by rw [e])
    show (w.heap.setIfInBounds b (.map #[] clock))[k]? = _
    simp [hbk]

structure Hd where
  b : List Int
  ch : Bool
  pins : Int
def Hd.cells (h : Hd) : Array Value := (bytes h.b ++ [Value.bool h.ch, Value.int .i64 h.pins]).toArray

/-- The cache's memory, its blocks in F. -/
structure CacheIs (F : Nat → Prop) (w : World) (c d ml : Nat) (ov : Value) (hp : Int → Nat) (size : Int) (os : List Int) (m : Int → Option Hd) (cnt : Nat) (hits misses : Int) : Prop where
  blk : Blk w c 73 #[.pointer (some ⟨d, 0, none⟩), .int .i64 size, .map (some ml), ov, .int .i64 hits, .int .i64 misses]
  ord : IRow w ov os
  map : MapN w ml misses.toNat (fun k => (m k).map fun _ => .pointer (some ⟨hp k, 0, none⟩)) cnt
  held : ∀ k h, m k = some h → Blk w (hp k) 81 h.cells ∧ h.b.length = 64 ∧ (key k).wf = true ∧ F (hp k) ∧ 0 ≤ h.pins ∧ h.pins ≤ 1000000
  inj : ∀ k k' h h', m k = some h → m k' = some h' → hp k = hp k' → k = k'
  num : 0 ≤ hits ∧ hits ≤ 1000000 ∧ 0 ≤ misses ∧ misses ≤ 1000000 ∧ 1 ≤ size ∧ size ≤ 64
  fc : F c
  fm : F ml
  fo : ∀ j, ov.ownBlock = some j → F j
  lt : ∀ j, F j → j < w.heap.size

theorem CacheIs.turn {F S : Nat → Prop} {w w' : World} {c d ml : Nat} {ov : Value} {hp : Int → Nat} {size : Int} {os : List Int} {m : Int → Option Hd} {cnt : Nat} {hits misses : Int} (h : CacheIs F w c d ml ov hp size os m cnt hits misses) (hT : Turn S w w') (hS : ∀ j, F j → ¬ S j) : CacheIs F w' c d ml ov hp size os m cnt hits misses :=
  { h with
    blk := h.blk.turn hT (hS _ h.fc)
    ord := h.ord.turn hT fun j hj => hS _ (h.fo j hj)
    map := h.map.turn hT (hS _ h.fm)
    held := fun k x hk => by
      obtain ⟨h1, h2, h3, h4, h5⟩ := h.held k x hk
      exact ⟨h1.turn hT (hS _ h4), h2, h3, h4, h5⟩
    lt := fun j hj => Nat.lt_of_lt_of_le (h.lt j hj) hT.size }
end Go.Proofs.Ytnbppfhnagacfaa
