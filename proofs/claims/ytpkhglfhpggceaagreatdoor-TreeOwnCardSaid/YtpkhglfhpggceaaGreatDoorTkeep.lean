/- A tree of directories and files, plain: each act keeps what a tree keeps. No program in sight. -/
import Derived.Test.YtpkhglfhpggceaaGreatDoorTinv
namespace Go.Proofs.YtpkhglfhpggceaaGreatDoor

section
variable {a : TS} {c : Nat}
theorem refsTo_zero {nd : Nat → Nd} {k : Nat} (h : ∀ d p, p ∈ (nd d).names → p.2 ≠ k) (n : Nat) : refsTo nd k n = 0 := by
 have hc : ∀ d, cntBy (fun p => decide (p.2 = k)) (nd d).names = 0 := fun d => by
  unfold cntBy
  rw [List.length_eq_zero_iff, List.filter_eq_nil_iff]
  intro p hp
  simpa using h d p hp
 induction n with
 | zero => unfold refsTo; exact hc 0
 | succ n ih => unfold refsTo; rw [ih, hc]
def OpOk (a : TS) (f : FT) : Prop := ∃ k : Nat, f.1 = k ∧ (a.nd k).kind = 1 ∧ 0 ≤ f.2.1 ∧ f.2.1 ≤ 48640 ∧ 1 ≤ f.2.2 ∧ f.2.2 ≤ 3
theorem Good.setOp (h : Good a c) (k : Nat) (v : Option FT) (hv : ∀ f, v = some f → OpOk a f) : Good (a.setOp k v) c :=
 ⟨h.root, h.one, h.few, h.past, h.zero, h.kinds, h.rise, h.live, h.short, h.len, h.links, h.data, fun i hi f hf => by
  have hf : setF a.op k v i = some f := hf
  by_cases e : i = k
  ·subst e
   rw [setF_same] at hf
   exact hv f hf
  ·rw [setF_other _ _ e] at hf
   exact h.ops i hi f hf⟩
theorem Tied.setOp {q : Nat → Int} (h : Tied a q) (k : Nat) (v : Option FT) : Tied (a.setOp k v) q := h
theorem Inv.setOp (h : Inv a c) (k : Nat) (v : Option FT) (hv : ∀ f, v = some f → OpOk a f) : Inv (a.setOp k v) c := ⟨h.1.setOp k v hv, h.2.setOp k v⟩
theorem Tied.same {q q' : Nat → Int} (h : Tied a q) (e : ∀ k, q k = q' k) : Tied a q' := fun k => by rw [h k, e k]
theorem Inv.setData (h : Inv a c) {k : Nat} (hk : (a.nd k).kind ≠ 0) {d : List UInt8} (hd : d.length ≤ 48640) : Inv (a.setData k d) c := by
 refine ⟨h.1.turn hk rfl rfl (h.1.links k) hd, (Tied.turn h.2 (k := k) (v := { a.nd k with data := d }) rfl).same fun i => ?_⟩
 show (if i = k then (0 : Int) + ((a.nd k).links - (a.nd k).links) else 0) = 0
 split <;> omega
theorem Good.fresh (h : Good a c) {kind : Int} (hkd : kind = 1 ∨ kind = 2) : Good ⟨a.last + 1, setF a.nd (a.last + 1) ⟨kind, 1, [], []⟩, a.op⟩ (c + 1) := by
 have h1 := h.one
 have hne : ∀ k, (a.nd k).kind ≠ 0 → k ≠ a.last + 1 := fun k hk => by have := h.in_last hk; omega
 have hmem : ∀ i p, p ∈ (setF a.nd (a.last + 1) ⟨kind, 1, [], []⟩ i).names → p ∈ (a.nd i).names := fun i p hp => by
  by_cases e : i = a.last + 1
  ·rw [e, setF_same] at hp; cases hp
  ·rwa [setF_other _ _ e] at hp
 refine ⟨?_, by show 1 ≤ a.last + 1; omega, by have := h.few; show a.last + 1 ≤ _; omega, fun i hlt => ?_, ?_, fun i => ?_, fun i => ?_, fun i p hp => ?_, fun i p hp => h.short i p (hmem i p hp), fun i => ?_, fun i => ?_, fun i => ?_, fun i hi f hf => ?_⟩
 ·show (setF a.nd (a.last + 1) ⟨kind, 1, [], []⟩ 1).kind = 2
  rw [setF_other _ _ (by omega)]; exact h.root
 ·have hlt : a.last + 1 < i := hlt
  show setF a.nd (a.last + 1) ⟨kind, 1, [], []⟩ i = nd0
  rw [setF_other _ _ (by omega)]; exact h.past i (by omega)
 ·show setF a.nd (a.last + 1) ⟨kind, 1, [], []⟩ 0 = nd0
  rw [setF_other _ _ (by omega)]; exact h.zero
 ·show ((setF a.nd (a.last + 1) ⟨kind, 1, [], []⟩ i).kind = 0 ∧ setF a.nd (a.last + 1) ⟨kind, 1, [], []⟩ i = nd0) ∨ ((setF a.nd (a.last + 1) ⟨kind, 1, [], []⟩ i).kind = 1 ∧ (setF a.nd (a.last + 1) ⟨kind, 1, [], []⟩ i).names = []) ∨ (setF a.nd (a.last + 1) ⟨kind, 1, [], []⟩ i).kind = 2
  by_cases e : i = a.last + 1
  ·rw [e, setF_same]
   rcases hkd with e | e
   ·exact .inr (.inl ⟨e, rfl⟩)
   ·exact .inr (.inr e)
  ·rw [setF_other _ _ e]; exact h.kinds i
 ·show Rising (setF a.nd (a.last + 1) ⟨kind, 1, [], []⟩ i).names
  by_cases e : i = a.last + 1
  ·rw [e, setF_same]; exact List.Pairwise.nil
  ·rw [setF_other _ _ e]; exact h.rise i
 ·have hp2 := h.live i p (hmem i p hp)
  show (setF a.nd (a.last + 1) ⟨kind, 1, [], []⟩ p.2).kind ≠ 0
  rw [setF_other _ _ (hne _ hp2)]; exact hp2
 ·show (setF a.nd (a.last + 1) ⟨kind, 1, [], []⟩ i).names.length ≤ _
  by_cases e : i = a.last + 1
  ·rw [e, setF_same]; exact Nat.zero_le _
  ·rw [setF_other _ _ e]; exact Nat.le_trans (h.len i) (by omega)
 ·show 0 ≤ (setF a.nd (a.last + 1) ⟨kind, 1, [], []⟩ i).links ∧ (setF a.nd (a.last + 1) ⟨kind, 1, [], []⟩ i).links ≤ 200
  by_cases e : i = a.last + 1
  ·rw [e, setF_same]; exact ⟨show (0 : Int) ≤ 1 by decide, show (1 : Int) ≤ 200 by decide⟩
  ·rw [setF_other _ _ e]; exact h.links i
 ·show (setF a.nd (a.last + 1) ⟨kind, 1, [], []⟩ i).data.length ≤ _
  by_cases e : i = a.last + 1
  ·rw [e, setF_same]; exact Nat.zero_le _
  ·rw [setF_other _ _ e]; exact h.data i
 ·obtain ⟨k, g1, g2, g3⟩ := h.ops i hi f hf
  refine ⟨k, g1, ?_, g3⟩
  show (setF a.nd (a.last + 1) ⟨kind, 1, [], []⟩ k).kind = 1
  rw [setF_other _ _ (hne k (by rw [g2]; decide))]; exact g2
theorem Tied.fresh (h : Good a c) {q : Nat → Int} (ht : Tied a q) {kind : Int} : Tied ⟨a.last + 1, setF a.nd (a.last + 1) ⟨kind, 1, [], []⟩, a.op⟩ fun i => if i = a.last + 1 then 1 else q i := by
 intro i
 have hone := h.one
 have h1 : refsTo (setF a.nd (a.last + 1) ⟨kind, 1, [], []⟩) i (a.last + 1) = refsTo a.nd i a.last := by
  show refsTo (setF a.nd (a.last + 1) _) i a.last + cntBy _ (setF a.nd (a.last + 1) _ (a.last + 1)).names = _
  rw [refsTo_far (by omega), setF_same]
  rfl
 show (setF a.nd (a.last + 1) ⟨kind, 1, [], []⟩ i).links = refsTo (setF a.nd (a.last + 1) ⟨kind, 1, [], []⟩) i (a.last + 1) + (if i = 1 then 1 else 0) + (if i = a.last + 1 then 1 else q i)
 rw [h1]
 by_cases e : i = a.last + 1
 ·rw [e, setF_same, refsTo_zero (fun d p hp e2 => by
   have := h.live d p hp
   rw [e2, h.past _ (by omega)] at this
   exact this rfl)]
  simp only [if_true]
  rw [if_neg (by omega)]
  rfl
 ·rw [setF_other _ _ e, if_neg e]
  exact ht i
theorem Inv.more (h : Inv a c) {d : Nat} (hd : (a.nd d).kind = 2) {s : ByteArray} (hs : s.size ≤ 1000) (hf : a.find d s = 0) {kind : Int} (hkd : kind = 1 ∨ kind = 2) : Inv (a.more d s kind) (c + 2) := by
 have hl := h.1.in_last (k := d) (by rw [hd]; decide)
 have g := h.1.fresh hkd
 have hd2 : ((TS.mk (a.last + 1) (setF a.nd (a.last + 1) ⟨kind, 1, [], []⟩) a.op).nd d) = a.nd d := setF_other _ _ (by omega)
 have hn : ((TS.mk (a.last + 1) (setF a.nd (a.last + 1) ⟨kind, 1, [], []⟩) a.op).nd (a.last + 1)) = ⟨kind, 1, [], []⟩ := setF_same _ _ _
 refine ⟨g.put (d := d) (by rw [hd2]; exact hd) hs (.inr (by rw [hn]; rcases hkd with e | e <;> rw [e] <;> decide)), (Tied.put g (Tied.fresh h.1 h.2) (d := d) (by rw [hd2, hd]; decide) s (a.last + 1)).same fun i => ?_⟩
 have hf2 : (TS.mk (a.last + 1) (setF a.nd (a.last + 1) ⟨kind, 1, [], []⟩) a.op).find d s = 0 := by
  unfold TS.find at hf ⊢
  rw [hd2]; exact hf
 rw [hf2]
 simp only [ne_eq, not_true_eq_false, false_and, if_false]
 have : a.last + 1 ≠ 0 := by omega
 simp only [this, not_false_eq_true, true_and]
 by_cases e : i = a.last + 1
 ·rw [if_pos e, if_pos e.symm]; omega
 ·rw [if_neg e, if_neg fun e2 => e e2.symm]; omega
theorem find_names {d : Nat} {s : ByteArray} (h : a.find d s ≠ 0) : (a.nd d).names ≠ [] := by
 intro e
 unfold TS.find at h
 rw [e] at h
 exact h rfl
theorem refs_find (h : Good a c) {d : Nat} {s : ByteArray} (hf : a.find d s ≠ 0) : 1 ≤ refsTo a.nd (a.find d s) a.last := by
 have hp := findL_pos (l := (a.nd d).names) hf
 refine refsTo_pos (d := d) ?_ hp rfl
 rcases Nat.lt_or_ge a.last d with e | e
 ·rw [h.past d e] at hp; cases hp
 ·exact e
/-- A node has a name less, of which one was owed. -/
theorem Good.less (h : Good a c) {q : Nat → Int} (ht : Tied a q) {k : Nat} (hk : (a.nd k).kind ≠ 0) (hq : q k = 1) (hn : (a.nd k).names = []) : Good (a.less k) c ∧ Tied (a.less k) fun i => if i = k then 0 else q i := by
 have h1 := ht k
 have hl := h.links k
 have hpos : 1 ≤ (a.nd k).links := by rw [hq] at h1; split at h1 <;> omega
 have g := h.turn (k := k) (v := { a.nd k with links := (a.nd k).links - 1 }) hk rfl rfl ⟨by show 0 ≤ (a.nd k).links - 1; omega, by show (a.nd k).links - 1 ≤ 200; omega⟩ (h.data k)
 have t := Tied.turn ht (k := k) (v := { a.nd k with links := (a.nd k).links - 1 }) rfl
 have e1 : (a.setNd k { a.nd k with links := (a.nd k).links - 1 }).nd k = { a.nd k with links := (a.nd k).links - 1 } := setF_same _ _ _
 have hqk : (if k = k then q k + ((a.nd k).links - 1 - (a.nd k).links) else q k) = 0 := by rw [if_pos rfl, hq]; omega
 have hg := Good.gone g t (k := k) (by rw [e1]; exact hk) (by
  show 0 ≤ (if k = k then q k + ((a.nd k).links - 1 - (a.nd k).links) else q k)
  rw [hqk]; omega) (by rw [e1]; exact hn)
 refine ⟨hg.1, hg.2.same fun i => ?_⟩
 show (if i = k ∧ _ ∧ _ then (0 : Int) else (if i = k then q k + ((a.nd k).links - 1 - (a.nd k).links) else q i)) = _
 by_cases e : i = k
 ·rw [if_pos e, if_pos e]
  split
  ·rfl
  ·rw [hq]; omega
 ·rw [if_neg e, if_neg e, if_neg fun x => e x.1]
theorem Inv.remove (h : Inv a c) {d : Nat} (hd : (a.nd d).kind = 2) {s : ByteArray} (hs : s.size ≤ 1000) (hf : a.find d s ≠ 0) (hn : (a.nd (a.find d s)).names = []) : Inv (a.removeS d s) c := by
 have g := h.1.drop hd hs
 have t := Tied.put h.1 h.2 (d := d) (by rw [hd]; decide) s 0
 have hne : a.find d s ≠ d := fun e => find_names hf (by rw [e] at hn; exact hn)
 have e1 : (a.put d s 0).nd (a.find d s) = a.nd (a.find d s) := setF_other _ _ hne
 have hg := g.less t (k := a.find d s) (by rw [e1]; exact h.1.find_live hf) (by simp [hf]) (by rw [e1]; exact hn)
 refine ⟨hg.1, hg.2.same fun i => ?_⟩
 by_cases e : i = a.find d s
 ·rw [if_pos e]
 ·rw [if_neg e]
  have : ¬ (a.find d s ≠ 0 ∧ a.find d s = i) := fun x => e x.2.symm
  rw [if_neg this]
  simp
theorem Inv.link (h : Inv a c) {id d : Nat} (hid : (a.nd id).kind ≠ 0) (hid2 : (a.nd id).kind ≠ 2) (hl : (a.nd id).links ≠ 200) (hd : (a.nd d).kind = 2) {s : ByteArray} (hs : s.size ≤ 1000) (hf : a.find d s = 0) : Inv (a.linkS id d s) (c + 2) := by
 have hb := h.1.links id
 have g := h.1.turn (k := id) (v := { a.nd id with links := (a.nd id).links + 1 }) hid rfl rfl ⟨by show 0 ≤ (a.nd id).links + 1; omega, by show (a.nd id).links + 1 ≤ 200; omega⟩ (h.1.data id)
 have t := Tied.turn h.2 (k := id) (v := { a.nd id with links := (a.nd id).links + 1 }) rfl
 have hne : d ≠ id := fun e => hid2 (by rw [← e]; exact hd)
 have e1 : (a.setNd id { a.nd id with links := (a.nd id).links + 1 }).nd d = a.nd d := setF_other _ _ hne
 have e2 : (a.setNd id { a.nd id with links := (a.nd id).links + 1 }).nd id = { a.nd id with links := (a.nd id).links + 1 } := setF_same _ _ _
 have hf2 : (a.setNd id { a.nd id with links := (a.nd id).links + 1 }).find d s = 0 := by
  unfold TS.find at hf ⊢
  rw [e1]; exact hf
 have hpos := (h.1.in_last hid).1
 refine ⟨(g.put (d := d) (by rw [e1]; exact hd) hs (id := id) (.inr (by rw [e2]; exact hid))).mono (by omega), (Tied.put g t (d := d) (by rw [e1, hd]; decide) s id).same fun i => ?_⟩
 rw [hf2]
 show (if i = id then (0 : Int) + ((a.nd id).links + 1 - (a.nd id).links) else 0) + (if (0 : Nat) ≠ 0 ∧ 0 = i then 1 else 0) - (if id ≠ 0 ∧ id = i then 1 else 0) = 0
 rw [if_neg (show ¬ ((0 : Nat) ≠ 0 ∧ 0 = i) from fun x => x.1 rfl)]
 by_cases e : i = id
 ·rw [if_pos e, if_pos ⟨by omega, e.symm⟩]; omega
 ·rw [if_neg e, if_neg fun x => e x.2.symm]; omega
theorem find_put_far {d d2 : Nat} {s s2 : ByteArray} {id : Nat} (h : d2 ≠ d ∨ s2 ≠ s) : (a.put d s id).find d2 s2 = a.find d2 s2 := by
 show findL (setF a.nd d _ d2).names s2 = _
 by_cases e : d2 = d
 ·subst e
  rw [setF_same]
  exact findL_put_other _ _ (h.resolve_left fun x => x rfl)
 ·rw [setF_other _ _ e]; rfl
theorem kind_put {d : Nat} {s : ByteArray} {id : Nat} (k : Nat) : ((a.put d s id).nd k).kind = (a.nd k).kind := by
 show (setF a.nd d _ k).kind = _
 by_cases e : k = d
 ·subst e; rw [setF_same]
 ·rw [setF_other _ _ e]
theorem Inv.ren (h : Inv a c) {d d2 : Nat} {s s2 : ByteArray} (hd : (a.nd d).kind = 2) (hd2 : (a.nd d2).kind = 2) (hs : s.size ≤ 1000) (hs2 : s2.size ≤ 1000) (hf : a.find d s ≠ 0) : Inv (a.ren d s d2 s2) (c + 2) := by
 unfold TS.ren
 split
 ·exact h.mono (by omega)
 ·rename_i hne
  split
  ·rename_i he
   have hdiff : d2 ≠ d ∨ s2 ≠ s := by
    by_cases e : d2 = d
    ·refine .inr fun e2 => hne ?_
     rw [e, e2]
    ·exact .inl e
   have g1 := h.1.drop hd hs
   have t1 := Tied.put h.1 h.2 (d := d) (by rw [hd]; decide) s 0
   have g2 := g1.put (d := d2) (by rw [kind_put]; exact hd2) hs2 (id := a.find d s) (.inr (by rw [kind_put]; exact h.1.find_live hf))
   have t2 := Tied.put g1 t1 (d := d2) (by rw [kind_put, hd2]; decide) s2 (a.find d s)
   rw [find_put_far hdiff] at t2
   have hq : ∀ i, (fun i => (fun i => (fun _ => (0 : Int)) i + (if a.find d s ≠ 0 ∧ a.find d s = i then 1 else 0) - (if (0 : Nat) ≠ 0 ∧ 0 = i then 1 else 0)) i + (if a.find d2 s2 ≠ 0 ∧ a.find d2 s2 = i then 1 else 0) - (if a.find d s ≠ 0 ∧ a.find d s = i then 1 else 0)) i = if a.find d2 s2 ≠ 0 ∧ a.find d2 s2 = i then 1 else 0 := by
    intro i
    show ((0 : Int) + (if a.find d s ≠ 0 ∧ a.find d s = i then 1 else 0) - (if (0 : Nat) ≠ 0 ∧ 0 = i then 1 else 0)) + (if a.find d2 s2 ≠ 0 ∧ a.find d2 s2 = i then 1 else 0) - (if a.find d s ≠ 0 ∧ a.find d s = i then 1 else 0) = _
    rw [if_neg (show ¬ ((0 : Nat) ≠ 0 ∧ 0 = i) from fun x => x.1 rfl)]
    omega
   have t3 := t2.same hq
   unfold TS.renS
   split
   ·rename_i hw
    have hn : (a.nd (a.find d2 s2)).names = [] := by
     unfold TS.renE at he
     split at he
     ·rename_i x; exact absurd he x.2
     ·rename_i x
      have ho : a.overE (a.find d s) (a.find d2 s2) = 0 := Decidable.byContradiction fun y => x ⟨hw, y⟩
      unfold TS.overE at ho
      split at ho
      ·cases ho
      ·split at ho
       ·cases ho
       ·split at ho
        ·cases ho
        ·rename_i z
         exact List.eq_nil_of_length_eq_zero (Decidable.byContradiction z)
    have n1 : a.find d2 s2 ≠ d := fun e => find_names hf (by rw [e] at hn; exact hn)
    have n2 : a.find d2 s2 ≠ d2 := fun e => find_names hw (by rw [e] at hn; exact hn)
    have e1 : ((a.put d s 0).put d2 s2 (a.find d s)).nd (a.find d2 s2) = a.nd (a.find d2 s2) := (setF_other _ _ n2).trans (setF_other _ _ n1)
    have hg := g2.less t3 (k := a.find d2 s2) (by rw [e1]; exact h.1.find_live hw) (by simp [hw]) (by rw [e1]; exact hn)
    refine ⟨hg.1.mono (by omega), hg.2.same fun i => ?_⟩
    by_cases e : i = a.find d2 s2
    ·rw [if_pos e]
    ·rw [if_neg e, if_neg fun x => e x.2.symm]
   ·rename_i hw
    refine ⟨g2.mono (by omega), t3.same fun i => ?_⟩
    rw [if_neg fun x => hw x.1]
  ·exact h.mono (by omega)
theorem splitN_ok {p u : ByteArray} (hu : u ∈ (splitN p).1) : u.size ≤ 10 := by
 have hok : nameOk u = true := by
  unfold splitN at hu
  split at hu
  ·cases hu
  ·split at hu
   ·split at hu
    ·rename_i hc
     unfold checkL at hc
     split at hc
     ·rename_i hall
      exact List.all_eq_true.1 hall u hu
     ·cases hc
    ·cases hu
   ·cases hu
 unfold nameOk at hok
 simp only [Bool.and_eq_true, decide_eq_true_eq] at hok
 exact hok.1.1.1.2
theorem nameN_size (p : ByteArray) : (nameN p).size ≤ 10 := by
 have hn : ∀ l : List ByteArray, (∀ u ∈ l, u.size ≤ 10) → (l.getLastD ⟨#[]⟩).size ≤ 10 := by
  intro l hl
  cases hr : l.getLast? with
  | none => rw [List.getLastD_eq_getLast?, hr]; exact Nat.zero_le _
  | some y => rw [List.getLastD_eq_getLast?, hr]; exact hl y (List.mem_of_getLast? hr)
 unfold nameN lastN
 split
 ·split
  ·exact Nat.zero_le _
  ·exact hn _ fun u hu => splitN_ok hu
 ·exact Nat.zero_le _
end
end Go.Proofs.YtpkhglfhpggceaaGreatDoor
