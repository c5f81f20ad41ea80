/- A map with int keys, its elements raw values: what it holds, key by key; under a range too. -/
import Derived.Test.YtpkhglfhpggceaaGreatDoorBase
import Derived.Test.YtpkhglfhpggceaaGreatDoorChecked
import Derived.Maps.Own
import Derived.Maps.OwnOps
import Derived.Maps.OwnSet
import Derived.Maps.Views
import Derived.Maps.RangeWalk
namespace Go.Proofs.YtpkhglfhpggceaaGreatDoor
open Go.RowKit Go.Maps

def raw (v : Value) : Option (DataW Value × List MemPlace) := some (.held v, [])
def key (k : Int) : Lit := .int .i64 k
theorem keyed : Keyed Tryz.prog 3 := int_keyed Tryz.underlying3
theorem key_of {k : Int} (h : (key k).wf = true) : keyOf Tryz.prog 3 (.int .i64 k) = some (key k) := keyOf_int_mk Tryz.underlying3 h
theorem key_is (k : Int) : WideAt.IsKeyLit (key k) := trivial
theorem key_inj {a b : Int} (h : key a = key b) : a = b := by unfold key at h; injection h
theorem key_same (a b : Int) : (key a).sameKey (key b) = decide (a = b) := by
 by_cases h : a = b
 ·subst h
  rw [WideAt.sameKey_self (key_is a)]
  simp
 ·rw [sameKey_ne fun e => h (key_inj e)]
  simp [h]

/-- What a datum of a map says, key by key. -/
def Reads (D : DataW Value) (f : Int → Option Value) : Prop :=
 ∀ k, (∀ v, f k = some v → has D (key k) = true ∧ ∀ z, D.atKey (key k) z = .held v) ∧ (f k = none → has D (key k) = false)

def upd (f : Int → Option Value) (k : Int) (o : Option Value) : Int → Option Value := fun x => if x = k then o else f x
theorem upd_same (f : Int → Option Value) (k : Int) (o : Option Value) : upd f k o k = o := by unfold upd; rw [if_pos rfl]
theorem upd_other (f : Int → Option Value) {k x : Int} (o : Option Value) (h : x ≠ k) : upd f k o x = f x := by unfold upd; rw [if_neg h]

theorem Reads.empty : Reads (.map []) (fun _ => none) := fun k => ⟨fun v h => (by cases h), fun _ => rfl⟩
theorem Reads.put {D : DataW Value} {f : Int → Option Value} (h : Reads D f) (hD : IsMap D) (k : Int) (v : Value) : Reads (D.put (key k) (.held v)) (upd f k (some v)) := by
 intro x
 by_cases hx : x = k
 ·subst hx
  rw [upd_same]
  exact ⟨fun u e => by cases e; exact ⟨has_put_same hD (key_is x) _, fun z => atKey_put_same hD (key_is x) _ z⟩, fun e => by cases e⟩
 ·rw [upd_other _ _ hx]
  have hne : key x ≠ key k := fun e => hx (key_inj e)
  refine ⟨fun u e => ?_, fun e => ?_⟩
  ·rw [has_put_other hne]
   exact ⟨((h x).1 u e).1, fun z => by rw [atKey_put_other hne]; exact ((h x).1 u e).2 z⟩
  ·rw [has_put_other hne]
   exact (h x).2 e
theorem Reads.del {D : DataW Value} {f : Int → Option Value} (h : Reads D f) (k : Int) : Reads (D.del (key k)) (upd f k none) := by
 intro x
 by_cases hx : x = k
 ·subst hx
  rw [upd_same]
  exact ⟨fun u e => (by cases e), fun _ => has_del_same⟩
 ·rw [upd_other _ _ hx]
  have hne : key x ≠ key k := fun e => hx (key_inj e)
  refine ⟨fun u e => ?_, fun e => ?_⟩
  ·rw [has_del_other hne]
   exact ⟨((h x).1 u e).1, fun z => by rw [atKey_del_other hne]; exact ((h x).1 u e).2 z⟩
  ·rw [has_del_other hne]
   exact (h x).2 e
theorem Reads.has {D : DataW Value} {f : Int → Option Value} (h : Reads D f) (k : Int) : Maps.has D (key k) = (f k).isSome := by
 cases hf : f k with
 | none => exact (h k).2 hf
 | some v => exact ((h k).1 v hf).1
theorem Reads.at {D : DataW Value} {f : Int → Option Value} (h : Reads D f) (k : Int) (z : Value) : D.atKey (key k) (.held z) = .held ((f k).getD z) := by
 cases hf : f k with
 | none => exact atKey_of_not_has ((h k).2 hf) _
 | some v => exact ((h k).1 v hf).2 _

/-- Block b is a map of at most n entries that holds just f. -/
def MapIs (w : World) (b n : Nat) (f : Int → Option Value) : Prop := ∃ D, w.ownsMap Tryz.prog 3 raw b n D ∧ Reads D f

section
variable {w w' : World} {b n : Nat} {f : Int → Option Value}
theorem MapIs.lt (h : MapIs w b n f) : b < w.heap.size := by obtain ⟨D, h, _⟩ := h; exact h.lt
theorem MapIs.new (w : World) : MapIs (w.alloc (.map #[] 0)) w.heap.size 0 (fun _ => none) := ⟨_, World.ownsMap_made w _ _ _, Reads.empty⟩
theorem MapIs.keep (h : MapIs w b n f) (hk : w'.heap[b]? = w.heap[b]?) : MapIs w' b n f := by
 obtain ⟨D, ⟨es, clock, hb, F, hs, hD⟩, hr⟩ := h
 exact ⟨D, ⟨es, clock, hk.trans hb, F, hs, hD⟩, hr⟩
theorem MapIs.turn {S : Nat → Prop} (h : MapIs w b n f) (hb : Turn S w w') (hs : ¬ S b) : MapIs w' b n f := h.keep (hb.block b h.lt hs)
theorem MapIs.drewN (h : MapIs w b n f) (k : Nat) : MapIs (w.drewN k) b n f := h
theorem MapIs.drew (h : MapIs w b n f) : MapIs w.drew b n f := h
theorem MapIs.alloc (h : MapIs w b n f) (o : Obj) : MapIs (w.alloc o) b n f := h.keep (Below.heap_alloc w o b h.lt)
theorem MapIs.far (h : MapIs w b n f) {p : Addr} (hp : b ≠ p.block) (u : Value) : MapIs (w.setCell p u) b n f := h.keep (Below.heap_setCell w p u b hp)
theorem MapIs.mono (h : MapIs w b n f) {m : Nat} (hm : n ≤ m) : MapIs w b m f := by obtain ⟨D, h, r⟩ := h; exact ⟨D, h.mono hm, r⟩
theorem MapIs.not_blk (h : MapIs w b n f) {g : Nat} {t : TypeId} {cs : Array Value} (k : Blk w g t cs) : b ≠ g := by
 rintro rfl
 obtain ⟨D, ⟨es, clock, hb, _⟩, _⟩ := h
 unfold Blk at k
 rw [hb] at k
 cases k

/-- m[k], without and with ok. -/
theorem MapIs.look {t e : TypeId} (h : MapIs w b n f) (ht : Tryz.prog.underlying t = some (.map 3 e)) {z : Value} (hz : (zeroValue e).run Tryz.prog w = .ok z w) {k : Int} (hk : (key k).wf = true) :
  (Instr.lookup t (.map (some b)) (.int .i64 k) false).run Tryz.prog w = .ok ((f k).getD z) w := by
 obtain ⟨D, h, r⟩ := h
 obtain ⟨v, ps, hrun, hv⟩ := h.lookup keyed ht hz (zd := .held z) (zp := []) rfl (key_of hk)
 rw [hrun]
 rw [r.at] at hv
 rw [DataW.held.inj (congrArg Prod.fst (Option.some.inj hv))]
theorem MapIs.look_ok {t e : TypeId} (h : MapIs w b n f) (ht : Tryz.prog.underlying t = some (.map 3 e)) {z : Value} (hz : (zeroValue e).run Tryz.prog w = .ok z w) {k : Int} (hk : (key k).wf = true) :
  (Instr.lookup t (.map (some b)) (.int .i64 k) true).run Tryz.prog w = .ok (.tuple #[(f k).getD z, .bool (f k).isSome]) w := by
 obtain ⟨D, h, r⟩ := h
 obtain ⟨v, ps, hrun, hv⟩ := h.look_ok keyed ht hz (zd := .held z) (zp := []) rfl (key_of hk)
 rw [hrun, r.has]
 rw [r.at] at hv
 rw [DataW.held.inj (congrArg Prod.fst (Option.some.inj hv))]

theorem turn_of_grown {w w' : World} (h : w.grownBy w' (some b)) : Turn (· = b) w w' :=
 ⟨h.os, h.tape, h.output, h.size, fun i hi hn => h.block i hi (by intro e; injection e with e; exact hn e)⟩
theorem isMap_of {w : World} {D : DataW Value} (h : w.ownsMap Tryz.prog 3 raw b n D) : IsMap D := by
 obtain ⟨es, clock, _, _, _, rfl⟩ := h; exact ⟨_, rfl⟩

/-- m[k] = v. -/
theorem MapIs.store {t e : TypeId} (h : MapIs w b n f) (ht : Tryz.prog.underlying t = some (.map 3 e)) (hn : n < maxLen) {k : Int} (hk : (key k).wf = true) (v : Value) :
  ∃ w', (Instr.mapUpdate t (.map (some b)) (.int .i64 k) v).run Tryz.prog w = .ok () w' ∧ MapIs w' b (n + 1) (upd f k (some v)) ∧ w.grownBy w' (some b) := by
 obtain ⟨D, h, r⟩ := h
 obtain ⟨w', hrun, ho, hg⟩ := h.update keyed ht hn (key_of hk) (d := .held v) (ps := []) rfl
 exact ⟨w', hrun, ⟨_, ho, r.put (isMap_of h) k v⟩, hg⟩
/-- delete(m, k). -/
theorem MapIs.drop {t e : TypeId} (h : MapIs w b n f) (ht : Tryz.prog.underlying t = some (.map 3 e)) {k : Int} (hk : (key k).wf = true) (ty : TypeId) :
  ∃ w', (Builtin.delete_ #[t, 3] ty #[.map (some b), .int .i64 k]).run Tryz.prog w = .ok (.tuple #[]) w' ∧ MapIs w' b n (upd f k none) ∧ w.grownBy w' (some b) := by
 obtain ⟨D, h, r⟩ := h
 obtain ⟨w', hrun, ho, hg⟩ := h.drop keyed ht (key_of hk) ty
 exact ⟨w', hrun, ⟨_, ho, r.del k⟩, hg.grown⟩

/-- A range under way: which keys are still to come. -/
def RangeIs (w : World) (b r n : Nat) (f : Int → Option Value) (left : Int → Bool) (cnt : Nat) : Prop := ∃ D lf, w.ranges Tryz.prog 3 raw b r n D lf cnt ∧ Reads D f ∧ ∀ k, lf (key k) = left k
theorem RangeIs.map {r : Nat} {left : Int → Bool} {cnt : Nat} (h : RangeIs w b r n f left cnt) : MapIs w b n f := by
 obtain ⟨D, lf, h, rd, _⟩ := h; exact ⟨D, h.owns, rd⟩
theorem RangeIs.left_eq {r : Nat} {left : Int → Bool} {cnt : Nat} (h : RangeIs w b r n f left cnt) : w.rangeLeft b r = cnt := by
 obtain ⟨D, lf, h, _⟩ := h; exact h.left_eq
theorem RangeIs.lt {r : Nat} {left : Int → Bool} {cnt : Nat} (h : RangeIs w b r n f left cnt) : r < w.heap.size := by
 obtain ⟨D, lf, h, _⟩ := h; exact h.lt
theorem RangeIs.ne {r : Nat} {left : Int → Bool} {cnt : Nat} (h : RangeIs w b r n f left cnt) : r ≠ b := by
 obtain ⟨D, lf, h, _⟩ := h; exact h.ne
theorem RangeIs.keep {r : Nat} {left : Int → Bool} {cnt : Nat} (h : RangeIs w b r n f left cnt) (hb : w'.heap[b]? = w.heap[b]?) (hr : w'.heap[r]? = w.heap[r]?) : RangeIs w' b r n f left cnt := by
 obtain ⟨D, lf, ⟨es, clock, since, seen, c0, h1, h2, h3, h4, h5, h6⟩, rd, hl⟩ := h
 exact ⟨D, lf, ⟨es, clock, since, seen, c0, hb.trans h1, h2, h3, h4, hr.trans h5, h6⟩, rd, hl⟩
theorem RangeIs.turn {S : Nat → Prop} {r : Nat} {left : Int → Bool} {cnt : Nat} (h : RangeIs w b r n f left cnt) (ht : Turn S w w') (hb : ¬ S b) (hr : ¬ S r) : RangeIs w' b r n f left cnt :=
 h.keep (ht.block b h.map.lt hb) (ht.block r h.lt hr)
theorem MapIs.range {t e : TypeId} (h : MapIs w b n f) (ht : Tryz.prog.underlying t = some (.map 3 e)) :
  ∃ w' cnt, (Instr.range t (.map (some b))).run Tryz.prog w = .ok (.pointer (some ⟨w.heap.size, 0, none⟩)) w' ∧ RangeIs w' b w.heap.size n f (fun k => (f k).isSome) cnt ∧ w.grownBy w' none ∧ w'.heap.size = w.heap.size + 1 := by
 obtain ⟨D, h, r⟩ := h
 obtain ⟨w', hrun, hr, hg, hsz⟩ := h.range keyed ht
 exact ⟨w', _, hrun, ⟨D, _, hr, r, fun k => r.has k⟩, hg, hsz⟩
theorem RangeIs.next {r : Nat} {left : Int → Bool} {cnt : Nat} (h : RangeIs w b r n f left cnt) (ty : TypeId) :
  ((∀ k, left k = false) ∧ (Instr.next (.pointer (some ⟨r, 0, none⟩)) false ty).run Tryz.prog w = .ok (.tuple #[.bool false]) w) ∨
  ∃ (k : Int) (v : Value) (w' : World) (cnt' : Nat), f k = some v ∧ left k = true ∧ (key k).wf = true ∧ (Instr.next (.pointer (some ⟨r, 0, none⟩)) false ty).run Tryz.prog w = .ok (.tuple #[.bool true, .int .i64 k, v]) w' ∧
   RangeIs w' b r n f (fun x => left x && !decide (x = k)) cnt' ∧ cnt' < cnt ∧ w.grownBy w' (some r) ∧ w'.heap.size = w.heap.size ∧ (Instr.entry (.pointer (some ⟨r, 0, none⟩))).run Tryz.prog w' = .ok (.tuple #[.int .i64 k, v]) w' := by
 obtain ⟨D, lf, h, rd, hl⟩ := h
 rcases h.next keyed ty with ⟨_, h0, hrun⟩ | ⟨kv, v, kl, y, w', cnt', hk, hlf, hv, hat, hrun, hr, hlt, hg, hsz, hen⟩
 ·exact .inl ⟨fun k => by rw [← hl]; exact h0 _, hrun⟩
 ·obtain ⟨x, rfl, rfl, hwf⟩ := keyOf_int_inv Tryz.underlying3 hk
  have hy : y = (.held v, []) := (Option.some.inj hv).symm
  subst hy
  have hfx : f x = some v := by
   cases hf : f x with
   | none =>
    have h1 := hat (.nil)
    rw [show (Lit.int .i64 x) = key x from rfl, atKey_of_not_has ((rd x).2 hf)] at h1
    exact absurd h1 (by intro e; cases e)
   | some u =>
    have h1 := hat (.nil)
    rw [show (Lit.int .i64 x) = key x from rfl, ((rd x).1 u hf).2] at h1
    exact congrArg some (DataW.held.inj h1)
  refine .inr ⟨x, v, w', cnt', hfx, by rw [← hl]; exact hlf, hwf, hrun, ⟨D, _, hr, rd, fun k => ?_⟩, hlt, hg, hsz, hen⟩
  show (lf (key k) && !(key k).sameKey (key x)) = _
  rw [hl, key_same]
end
end Go.Proofs.YtpkhglfhpggceaaGreatDoor
