/- A map with text keys and int elements: which names of a directory it holds; their count; its keys by rising texts. -/
import Derived.Test.YtpkhglfhpggceaaGreatDoorMap
import Derived.Test.YtpkhglfhpggceaaGreatDoorTs
import Derived.Test.YtpkhglfhpggceaaGreatDoorShelf
import Derived.StringKeys
import Derived.Sort.KeysCollected
namespace Go.Proofs.YtpkhglfhpggceaaGreatDoor
open Go.RowKit Go.Maps

def keyS (s : ByteArray) : Lit := .string s.data.toList
theorem keyedS : Keyed Tryz.prog 9 := string_keyed Tryz.underlying9
theorem keyS_of {s : ByteArray} (h : s.size ≤ maxLen) : keyOf Tryz.prog 9 (.string s) = some (keyS s) := WideMaps.keyOf_string_mk Tryz.underlying9 h
theorem keyS_is (s : ByteArray) : WideAt.IsKeyLit (keyS s) := trivial
theorem keyS_inj {a b : ByteArray} (h : keyS a = keyS b) : a = b := by
 unfold keyS at h
 injection h with h
 cases a; cases b
 simp at h
 rw [h]
def ReadsS (D : DataW Value) (f : ByteArray → Option Value) : Prop :=
 ∀ k, (∀ v, f k = some v → has D (keyS k) = true ∧ ∀ z, D.atKey (keyS k) z = .held v) ∧ (f k = none → has D (keyS k) = false)

def updS (f : ByteArray → Option Value) (k : ByteArray) (o : Option Value) : ByteArray → Option Value := fun x => if x = k then o else f x
theorem updS_same (f : ByteArray → Option Value) (k : ByteArray) (o : Option Value) : updS f k o k = o := by unfold updS; rw [if_pos rfl]
theorem updS_other (f : ByteArray → Option Value) {k x : ByteArray} (o : Option Value) (h : x ≠ k) : updS f k o x = f x := by unfold updS; rw [if_neg h]

theorem ReadsS.empty : ReadsS (.map []) (fun _ => none) := fun k => ⟨fun v h => (by cases h), fun _ => rfl⟩
theorem ReadsS.put {D : DataW Value} {f : ByteArray → Option Value} (h : ReadsS D f) (hD : IsMap D) (k : ByteArray) (v : Value) : ReadsS (D.put (keyS k) (.held v)) (updS f k (some v)) := by
 intro x
 by_cases hx : x = k
 ·subst hx
  rw [updS_same]
  exact ⟨fun u e => by cases e; exact ⟨has_put_same hD (keyS_is x) _, fun z => atKey_put_same hD (keyS_is x) _ z⟩, fun e => by cases e⟩
 ·rw [updS_other _ _ hx]
  have hne : keyS x ≠ keyS k := fun e => hx (keyS_inj e)
  refine ⟨fun u e => ?_, fun e => ?_⟩
  ·rw [has_put_other hne]
   exact ⟨((h x).1 u e).1, fun z => by rw [atKey_put_other hne]; exact ((h x).1 u e).2 z⟩
  ·rw [has_put_other hne]
   exact (h x).2 e
theorem ReadsS.del {D : DataW Value} {f : ByteArray → Option Value} (h : ReadsS D f) (k : ByteArray) : ReadsS (D.del (keyS k)) (updS f k none) := by
 intro x
 by_cases hx : x = k
 ·subst hx
  rw [updS_same]
  exact ⟨fun u e => (by cases e), fun _ => has_del_same⟩
 ·rw [updS_other _ _ hx]
  have hne : keyS x ≠ keyS k := fun e => hx (keyS_inj e)
  refine ⟨fun u e => ?_, fun e => ?_⟩
  ·rw [has_del_other hne]
   exact ⟨((h x).1 u e).1, fun z => by rw [atKey_del_other hne]; exact ((h x).1 u e).2 z⟩
  ·rw [has_del_other hne]
   exact (h x).2 e
theorem ReadsS.has {D : DataW Value} {f : ByteArray → Option Value} (h : ReadsS D f) (k : ByteArray) : Maps.has D (keyS k) = (f k).isSome := by
 cases hf : f k with
 | none => exact (h k).2 hf
 | some v => exact ((h k).1 v hf).1
theorem ReadsS.at {D : DataW Value} {f : ByteArray → Option Value} (h : ReadsS D f) (k : ByteArray) (z : Value) : D.atKey (keyS k) (.held z) = .held ((f k).getD z) := by
 cases hf : f k with
 | none => exact atKey_of_not_has ((h k).2 hf) _
 | some v => exact ((h k).1 v hf).2 _

/-- Block b is a map of at most n entries that holds just f. -/
def MapS0 (w : World) (b n : Nat) (f : ByteArray → Option Value) : Prop := ∃ D, w.ownsMap Tryz.prog 9 raw b n D ∧ ReadsS D f

section
variable {w w' : World} {b n : Nat} {f : ByteArray → Option Value}
theorem MapS0.lt (h : MapS0 w b n f) : b < w.heap.size := by obtain ⟨D, h, _⟩ := h; exact h.lt
theorem MapS0.new (w : World) : MapS0 (w.alloc (.map #[] 0)) w.heap.size 0 (fun _ => none) := ⟨_, World.ownsMap_made w _ _ _, ReadsS.empty⟩
theorem MapS0.keep (h : MapS0 w b n f) (hk : w'.heap[b]? = w.heap[b]?) : MapS0 w' b n f := by
 obtain ⟨D, ⟨es, clock, hb, F, hs, hD⟩, hr⟩ := h
 exact ⟨D, ⟨es, clock, hk.trans hb, F, hs, hD⟩, hr⟩
theorem MapS0.turn {S : Nat → Prop} (h : MapS0 w b n f) (hb : Turn S w w') (hs : ¬ S b) : MapS0 w' b n f := h.keep (hb.block b h.lt hs)
theorem MapS0.drewN (h : MapS0 w b n f) (k : Nat) : MapS0 (w.drewN k) b n f := h
theorem MapS0.drew (h : MapS0 w b n f) : MapS0 w.drew b n f := h
theorem MapS0.alloc (h : MapS0 w b n f) (o : Obj) : MapS0 (w.alloc o) b n f := h.keep (Below.heap_alloc w o b h.lt)
theorem MapS0.far (h : MapS0 w b n f) {p : Addr} (hp : b ≠ p.block) (u : Value) : MapS0 (w.setCell p u) b n f := h.keep (Below.heap_setCell w p u b hp)
theorem MapS0.mono (h : MapS0 w b n f) {m : Nat} (hm : n ≤ m) : MapS0 w b m f := by obtain ⟨D, h, r⟩ := h; exact ⟨D, h.mono hm, r⟩
theorem MapS0.not_blk (h : MapS0 w b n f) {g : Nat} {t : TypeId} {cs : Array Value} (k : Blk w g t cs) : b ≠ g := by
 rintro rfl
 obtain ⟨D, ⟨es, clock, hb, _⟩, _⟩ := h
 unfold Blk at k
 rw [hb] at k
 cases k

/-- m[k], without and with ok. -/
theorem MapS0.look {t e : TypeId} (h : MapS0 w b n f) (ht : Tryz.prog.underlying t = some (.map 9 e)) {z : Value} (hz : (zeroValue e).run Tryz.prog w = .ok z w) {k : ByteArray} (hk : k.size ≤ maxLen) :
  (Instr.lookup t (.map (some b)) (.string k) false).run Tryz.prog w = .ok ((f k).getD z) w := by
 obtain ⟨D, h, r⟩ := h
 obtain ⟨v, ps, hrun, hv⟩ := h.lookup keyedS ht hz (zd := .held z) (zp := []) rfl (keyS_of hk)
 rw [hrun]
 rw [r.at] at hv
 rw [DataW.held.inj (congrArg Prod.fst (Option.some.inj hv))]
theorem MapS0.look_ok {t e : TypeId} (h : MapS0 w b n f) (ht : Tryz.prog.underlying t = some (.map 9 e)) {z : Value} (hz : (zeroValue e).run Tryz.prog w = .ok z w) {k : ByteArray} (hk : k.size ≤ maxLen) :
  (Instr.lookup t (.map (some b)) (.string k) true).run Tryz.prog w = .ok (.tuple #[(f k).getD z, .bool (f k).isSome]) w := by
 obtain ⟨D, h, r⟩ := h
 obtain ⟨v, ps, hrun, hv⟩ := h.look_ok keyedS ht hz (zd := .held z) (zp := []) rfl (keyS_of hk)
 rw [hrun, r.has]
 rw [r.at] at hv
 rw [DataW.held.inj (congrArg Prod.fst (Option.some.inj hv))]

theorem isMap_ofX {w : World} {D : DataW Value} (h : w.ownsMap Tryz.prog 9 raw b n D) : IsMap D := by
 obtain ⟨es, clock, _, _, _, rfl⟩ := h; exact ⟨_, rfl⟩

/-- m[k] = v. -/
theorem MapS0.store {t e : TypeId} (h : MapS0 w b n f) (ht : Tryz.prog.underlying t = some (.map 9 e)) (hn : n < maxLen) {k : ByteArray} (hk : k.size ≤ maxLen) (v : Value) :
  ∃ w', (Instr.mapUpdate t (.map (some b)) (.string k) v).run Tryz.prog w = .ok () w' ∧ MapS0 w' b (n + 1) (updS f k (some v)) ∧ w.grownBy w' (some b) := by
 obtain ⟨D, h, r⟩ := h
 obtain ⟨w', hrun, ho, hg⟩ := h.update keyedS ht hn (keyS_of hk) (d := .held v) (ps := []) rfl
 exact ⟨w', hrun, ⟨_, ho, r.put (isMap_ofX h) k v⟩, hg⟩
/-- delete(m, k). -/
theorem MapS0.drop {t e : TypeId} (h : MapS0 w b n f) (ht : Tryz.prog.underlying t = some (.map 9 e)) {k : ByteArray} (hk : k.size ≤ maxLen) (ty : TypeId) :
  ∃ w', (Builtin.delete_ #[t, 9] ty #[.map (some b), .string k]).run Tryz.prog w = .ok (.tuple #[]) w' ∧ MapS0 w' b n (updS f k none) ∧ w.grownBy w' (some b) := by
 obtain ⟨D, h, r⟩ := h
 obtain ⟨w', hrun, ho, hg⟩ := h.drop keyedS ht (keyS_of hk) ty
 exact ⟨w', hrun, ⟨_, ho, r.del k⟩, hg.grown⟩

end

def namesF (l : Names) (s : ByteArray) : Option Value := if findL l s = 0 then none else some (.int .i64 (findL l s))
theorem namesF_put {l : Names} (s : ByteArray) (id : Nat) : namesF (putL l s id) = updS (namesF l) s (if id = 0 then none else some (.int .i64 (id : Nat))) := by
 funext k
 unfold namesF updS
 by_cases h : k = s
 ·subst h
  rw [findL_put_same, if_pos rfl]
 ·rw [findL_put_other _ _ h, if_neg h]

/-- Block b is a map that holds just the names of l, of which there have been at most n. -/
def MapS (w : World) (b n : Nat) (l : Names) : Prop := Rising l ∧ (∀ p ∈ l, p.2 ≠ 0) ∧ (∀ p ∈ l, p.1.size ≤ 1000) ∧ ∃ D, w.ownsMap Tryz.prog 9 raw b n D ∧ ReadsS D (namesF l) ∧ Maps.size D = l.length
section
variable {w w' : World} {b n : Nat} {l : Names}
theorem MapS.is (h : MapS w b n l) : MapS0 w b n (namesF l) := by obtain ⟨_, _, _, D, h1, h2, _⟩ := h; exact ⟨D, h1, h2⟩
theorem MapS.lt (h : MapS w b n l) : b < w.heap.size := h.is.lt
theorem MapS.new (w : World) : MapS (w.alloc (.map #[] 0)) w.heap.size 0 [] :=
 ⟨List.Pairwise.nil, fun p hp => (by cases hp), fun p hp => (by cases hp), _, World.ownsMap_made w _ _ _, ReadsS.empty, rfl⟩
theorem MapS.keep (h : MapS w b n l) (hk : w'.heap[b]? = w.heap[b]?) : MapS w' b n l := by
 obtain ⟨h1, h2, h3, D, ⟨es, clock, hb, F, hs, hD⟩, hr, hc⟩ := h
 exact ⟨h1, h2, h3, D, ⟨es, clock, hk.trans hb, F, hs, hD⟩, hr, hc⟩
theorem MapS.turn {S : Nat → Prop} (h : MapS w b n l) (hb : Turn S w w') (hs : ¬ S b) : MapS w' b n l := h.keep (hb.block b h.lt hs)
theorem MapS.mono (h : MapS w b n l) {m : Nat} (hm : n ≤ m) : MapS w b m l := by
 obtain ⟨h0, h1, h2, D, h3, h4, h5⟩ := h
 exact ⟨h0, h1, h2, D, h3.mono hm, h4, h5⟩
theorem MapS.len {t e : TypeId} (h : MapS w b n l) (ht : Tryz.prog.underlying t = some (.map 9 e)) (ty : TypeId) : (Builtin.len_ #[t] ty #[.map (some b)]).run Tryz.prog w = .ok (.int .i64 (l.length : Nat)) w := by
 obtain ⟨_, _, _, D, h1, h2, h3⟩ := h
 rw [← h3]
 exact h1.len ht ty
theorem len_put_eq {D : DataW Value} (hT : Tidy D) (r : ReadsS D (namesF l)) (hc : Maps.size D = l.length) (hr : Rising l) (hz : ∀ p ∈ l, p.2 ≠ 0) (s : ByteArray) (id : Nat) (d : DataW Value) :
  Maps.size (if id = 0 then D.del (keyS s) else D.put (keyS s) d) = (putL l s id).length := by
 have h1 := len_put hr hz s id
 have hh := r.has s
 unfold namesF at hh
 split
 ·rename_i h0
  have h2 := size_del (k := keyS s) hT
  rw [hh] at h2
  rw [h0] at h1 ⊢
  by_cases e : findL l s = 0
  ·simp [e] at h1 h2; omega
  ·simp [e] at h1 h2; omega
 ·rename_i h0
  have h2 := size_put (k := keyS s) hT d
  rw [hh] at h2
  rw [h2]
  by_cases e : findL l s = 0
  ·simp [e, h0] at h1 ⊢; omega
  ·simp [e, h0] at h1 ⊢; omega
theorem MapS.store {t e : TypeId} (h : MapS w b n l) (ht : Tryz.prog.underlying t = some (.map 9 e)) (hn : n < maxLen) {s : ByteArray} (hs : s.size ≤ 1000) {id : Nat} (hid : id ≠ 0) :
  ∃ w', (Instr.mapUpdate t (.map (some b)) (.string s) (.int .i64 (id : Nat))).run Tryz.prog w = .ok () w' ∧ MapS w' b (n + 1) (putL l s id) ∧ w.grownBy w' (some b) := by
 obtain ⟨hr, hz, hsh, D, h, r, hc⟩ := h
 obtain ⟨w', hrun, ho, hg⟩ := h.update keyedS ht hn (keyS_of (show s.size ≤ maxLen by unfold maxLen; omega)) (d := .held (.int .i64 (id : Nat))) (ps := []) rfl
 refine ⟨w', hrun, ⟨rising_put hr s id, fun p hp => ?_, fun p hp => ?_, _, ho, ?_, ?_⟩, hg⟩
 ·rcases mem_putL hp with ⟨h1, _⟩ | ⟨h1, h2⟩
  ·exact hz p h1
  ·rw [h1]; exact h2
 ·rcases mem_putL hp with ⟨h1, _⟩ | ⟨h1, h2⟩
  ·exact hsh p h1
  ·rw [h1]; exact hs
 ·rw [namesF_put, if_neg hid]
  exact r.put (isMap_ofX h) s _
 ·have := len_put_eq (h.tidy keyedS) r hc hr hz s id (.held (.int .i64 (id : Nat)))
  rw [if_neg hid] at this
  exact this
theorem MapS.drop {t e : TypeId} (h : MapS w b n l) (ht : Tryz.prog.underlying t = some (.map 9 e)) {s : ByteArray} (hs : s.size ≤ 1000) :
  ∃ w', (∀ ty, (Builtin.delete_ #[t, 9] ty #[.map (some b), .string s]).run Tryz.prog w = .ok (.tuple #[]) w') ∧ MapS w' b n (putL l s 0) ∧ w.grownBy w' (some b) := by
 obtain ⟨hr, hz, hsh, D, h, r, hc⟩ := h
 obtain ⟨w', hrun, ho, hg⟩ := h.drop keyedS ht (keyS_of (show s.size ≤ maxLen by unfold maxLen; omega)) 0
 refine ⟨w', fun ty => hrun, ⟨rising_put hr s 0, fun p hp => ?_, fun p hp => ?_, _, ho, ?_, ?_⟩, hg.grown⟩
 ·rcases mem_putL hp with ⟨h1, _⟩ | ⟨h1, h2⟩
  ·exact hz p h1
  ·exact absurd rfl h2
 ·rcases mem_putL hp with ⟨h1, _⟩ | ⟨h1, h2⟩
  ·exact hsh p h1
  ·exact absurd rfl h2
 ·rw [namesF_put, if_pos rfl]
  exact r.del s
 ·have := len_put_eq (h.tidy keyedS) r hc hr hz s 0 .nil
  rw [if_pos rfl] at this
  exact this
/-- m[s]. -/
theorem MapS.look {t : TypeId} (h : MapS w b n l) (ht : Tryz.prog.underlying t = some (.map 9 3)) {s : ByteArray} (hs : s.size ≤ 1000) :
  (Instr.lookup t (.map (some b)) (.string s) false).run Tryz.prog w = .ok (.int .i64 (findL l s : Nat)) w := by
 have := h.is.look ht (z := .int .i64 0) (Tryz.zeroValue3 w) (k := s) (show s.size ≤ maxLen by unfold maxLen; omega)
 rw [this]
 unfold namesF
 by_cases e : findL l s = 0
 ·rw [if_pos e, e]; rfl
 ·rw [if_neg e]; rfl
theorem MapS.look_ok {t : TypeId} (h : MapS w b n l) (ht : Tryz.prog.underlying t = some (.map 9 3)) {s : ByteArray} (hs : s.size ≤ 1000) :
  (Instr.lookup t (.map (some b)) (.string s) true).run Tryz.prog w = .ok (.tuple #[.int .i64 (findL l s : Nat), .bool (!decide (findL l s = 0))]) w := by
 have := h.is.look_ok ht (z := .int .i64 0) (Tryz.zeroValue3 w) (k := s) (show s.size ≤ maxLen by unfold maxLen; omega)
 rw [this]
 unfold namesF
 by_cases e : findL l s = 0
 ·rw [if_pos e, e]; rfl
 ·rw [if_neg e]; simp [e]
/-- The keys by rising texts are the names. -/
theorem MapS.keys {D : DataW Value} (hr : Rising l) (hz : ∀ p ∈ l, p.2 ≠ 0) (h : w.ownsMap Tryz.prog 9 raw b n D) (r : ReadsS D (namesF l)) {ss : List (List UInt8)} (hss : ss.Perm (strKeys D)) :
  (ss.mergeSort fun x y => decide (x ≤ y)) = l.map fun p => p.1.data.toList := by
 obtain ⟨es, rfl, hp⟩ := h.tidy keyedS
 obtain ⟨es', he, hk⟩ := h.keysOf
 have hes : es = es' := by injection he
 subst hes
 have hlt : (l.map fun p => p.1.data.toList).Pairwise (· < ·) := by
  rw [List.pairwise_map]
  exact hr.imp fun h => by unfold YtpkhglfhpggceaaGreatDoor.lt at h; simpa using h
 have hnd : (l.map fun p => p.1.data.toList).Nodup := hlt.imp fun h e => by rw [e] at h; exact absurd h (List.lt_irrefl _)
 have hperm : (l.map fun p => p.1.data.toList).Perm (strKeys (.map es)) := perm_strKeys hp (fun p hp => by
   obtain ⟨v, hv⟩ := hk p hp
   obtain ⟨x, _, h2, _⟩ := Maps.keyOf_str Tryz.underlying9 hv
   exact ⟨x, h2⟩) hnd fun x => by
  have hx : keyS ⟨x.toArray⟩ = .string x := by simp [keyS]
  rw [← hx, r.has]
  unfold namesF
  rw [List.mem_map]
  constructor
  ·rintro ⟨p, hp, rfl⟩
   have h1 : (⟨p.1.data.toList.toArray⟩ : ByteArray) = p.1 := by cases p.1; simp
   rw [h1, if_neg (by rw [findL_mem hr hp]; exact hz p hp)]
   rfl
  ·intro h
   split at h
   ·cases h
   ·rename_i h0
    exact ⟨_, findL_pos h0, by simp⟩
 have := mergeSort_of_perm (hss.trans hperm.symm)
 show ss.mergeSort leB = _
 rw [this]
 exact List.mergeSort_of_pairwise (hlt.imp fun h => by simpa [leB] using List.le_of_lt h)
end
end Go.Proofs.YtpkhglfhpggceaaGreatDoor
