/- A tree of directories and files, plain: what it keeps. No program in sight. -/
import Derived.Test.YtpkhglfhpggceaaGreatDoorTs
namespace Go.Proofs.YtpkhglfhpggceaaGreatDoor

/-- How many names a node has. -/
def refsTo (nd : Nat → Nd) (k : Nat) : Nat → Nat
 | 0 => cntBy (fun p => decide (p.2 = k)) (nd 0).names
 | n + 1 => refsTo nd k n + cntBy (fun p => decide (p.2 = k)) (nd (n + 1)).names
theorem refsTo_far {nd : Nat → Nd} {k n d : Nat} {v : Nd} (h : n < d) : refsTo (setF nd d v) k n = refsTo nd k n := by
 induction n with
 | zero => unfold refsTo; rw [setF_other _ _ (by omega)]
 | succ n ih => unfold refsTo; rw [ih (by omega), setF_other _ _ (by omega)]
theorem refsTo_set {nd : Nat → Nd} {k n d : Nat} {v : Nd} (h : d ≤ n) : refsTo (setF nd d v) k n + cntBy (fun p => decide (p.2 = k)) (nd d).names = refsTo nd k n + cntBy (fun p => decide (p.2 = k)) v.names := by
 induction n with
 | zero =>
  obtain rfl : d = 0 := by omega
  unfold refsTo
  rw [setF_same]
  omega
 | succ n ih =>
  unfold refsTo
  by_cases e : d = n + 1
  ·subst e
   rw [setF_same, refsTo_far (by omega)]
   omega
  ·rw [setF_other _ _ (by omega)]
   have := ih (by omega)
   omega
theorem refsTo_pos {nd : Nat → Nd} {k n d : Nat} {p : ByteArray × Nat} (hd : d ≤ n) (hp : p ∈ (nd d).names) (hk : p.2 = k) : 1 ≤ refsTo nd k n := by
 have hc : 1 ≤ cntBy (fun p => decide (p.2 = k)) (nd d).names := by
  unfold cntBy
  exact List.length_pos_of_mem (List.mem_filter.2 ⟨hp, by simpa using hk⟩)
 induction n with
 | zero =>
  obtain rfl : d = 0 := by omega
  unfold refsTo
  omega
 | succ n ih =>
  unfold refsTo
  by_cases e : d = n + 1
  ·subst e; omega
  ·have := ih (by omega)
   omega

/-- What a tree keeps behind c acts, but for the count of names. -/
structure Good (a : TS) (c : Nat) : Prop where
 root : (a.nd 1).kind = 2
 one : 1 ≤ a.last
 few : a.last ≤ c + 1
 past : ∀ k, a.last < k → a.nd k = nd0
 zero : a.nd 0 = nd0
 kinds : ∀ k, ((a.nd k).kind = 0 ∧ a.nd k = nd0) ∨ ((a.nd k).kind = 1 ∧ (a.nd k).names = []) ∨ (a.nd k).kind = 2
 rise : ∀ k, Rising (a.nd k).names
 live : ∀ k p, p ∈ (a.nd k).names → (a.nd p.2).kind ≠ 0
 short : ∀ k p, p ∈ (a.nd k).names → p.1.size ≤ 1000
 len : ∀ k, (a.nd k).names.length ≤ c
 links : ∀ k, 0 ≤ (a.nd k).links ∧ (a.nd k).links ≤ 200
 data : ∀ k, (a.nd k).data.length ≤ 48640
 ops : ∀ i, i < 8 → ∀ f, a.op i = some f → ∃ k : Nat, f.1 = k ∧ (a.nd k).kind = 1 ∧ 0 ≤ f.2.1 ∧ f.2.1 ≤ 48640 ∧ 1 ≤ f.2.2 ∧ f.2.2 ≤ 3
/-- The links are the names, but for q. -/
def Tied (a : TS) (q : Nat → Int) : Prop := ∀ k, (a.nd k).links = refsTo a.nd k a.last + (if k = 1 then 1 else 0) + q k
def Inv (a : TS) (c : Nat) : Prop := Good a c ∧ Tied a fun _ => 0

section
variable {a : TS} {c : Nat}
theorem Good.mono {c' : Nat} (h : Good a c) (hc : c ≤ c') : Good a c' :=
 { h with few := Nat.le_trans h.few (by omega), len := fun k => Nat.le_trans (h.len k) hc }
theorem Inv.mono {c' : Nat} (h : Inv a c) (hc : c ≤ c') : Inv a c' := ⟨h.1.mono hc, h.2⟩
theorem Good.nz (h : Good a c) (k : Nat) : ∀ p ∈ (a.nd k).names, p.2 ≠ 0 := fun p hp e => by
 have := h.live k p hp
 rw [e, h.zero] at this
 exact this rfl
theorem Good.in_last (h : Good a c) {k : Nat} (hk : (a.nd k).kind ≠ 0) : 1 ≤ k ∧ k ≤ a.last := by
 constructor
 ·rcases Nat.eq_zero_or_pos k with e | e
  ·rw [e, h.zero] at hk; exact absurd rfl hk
  ·exact e
 ·rcases Nat.lt_or_ge a.last k with e | e
  ·rw [h.past k e] at hk; exact absurd rfl hk
  ·exact e
theorem Good.find_live (h : Good a c) {d : Nat} {s : ByteArray} (hf : a.find d s ≠ 0) : (a.nd (a.find d s)).kind ≠ 0 :=
 h.live d _ (findL_pos hf)
theorem Good.walk_live (h : Good a c) : ∀ (l : List ByteArray) (k : Nat), (a.nd k).kind ≠ 0 → (a.walkL k l).2 = 0 → (a.nd (a.walkL k l).1).kind ≠ 0 := by
 intro l
 induction l with
 | nil => intro k hk _; exact hk
 | cons s l ih =>
  intro k hk
  unfold TS.walkL
  split
  ·split
   ·intro h2; cases h2
   ·rename_i hf
    exact ih _ (h.find_live hf)
  ·intro h2; cases h2
theorem Good.walkP_live (h : Good a c) {p : ByteArray} (h2 : (a.walkP p).2 = 0) : (a.nd (a.walkP p).1).kind ≠ 0 := by
 unfold TS.walkP at h2 ⊢
 by_cases he : (splitN p).2 = 0
 ·rw [if_pos he] at h2 ⊢
  exact h.walk_live _ 1 (by rw [h.root]; decide) h2
 ·rw [if_neg he] at h2
  exact absurd h2 he
theorem par_dir {a : TS} {p : ByteArray} {alone : Int} (ha : alone ≠ 0) (h2 : (a.par p alone).2 = 0) : (a.nd (a.par p alone).1).kind = 2 := by
 unfold TS.par at h2 ⊢
 by_cases e2 : (lastN p).2.2 = 2
 ·rw [if_pos e2] at h2; exact absurd h2 ha
 ·rw [if_neg e2] at h2 ⊢
  by_cases e0 : (lastN p).2.2 = 0
  ·rw [if_pos e0] at h2 ⊢
   by_cases ew : (a.walkL 1 (lastN p).1).2 = 0
   ·rw [if_pos ew] at h2 ⊢
    by_cases ek : (a.nd (a.walkL 1 (lastN p).1).1).kind = 2
    ·rw [if_pos ek]; exact ek
    ·rw [if_neg ek] at h2; exact absurd h2 (by decide)
   ·rw [if_neg ew] at h2; exact absurd h2 ew
  ·rw [if_neg e0] at h2; exact absurd h2 e0

/-- A name comes or goes. -/
theorem Good.put (h : Good a c) {d : Nat} (hd : (a.nd d).kind = 2) {s : ByteArray} (hs : s.size ≤ 1000) {id : Nat} (hid : id = 0 ∨ (a.nd id).kind ≠ 0) : Good (a.put d s id) (c + 1) := by
 have hk : ∀ k, ((a.put d s id).nd k).kind = (a.nd k).kind := fun k => by
  show (setF a.nd d _ k).kind = _
  by_cases e : k = d
  ·subst e; rw [setF_same]
  ·rw [setF_other _ _ e]
 have hn : ∀ k p, p ∈ ((a.put d s id).nd k).names → (p ∈ (a.nd k).names) ∨ (p = (s, id) ∧ id ≠ 0) := fun k p hp => by
  have hp : p ∈ (setF a.nd d { a.nd d with names := putL (a.nd d).names s id } k).names := hp
  by_cases e : k = d
  ·subst e
   rw [setF_same] at hp
   rcases mem_putL hp with h1 | h1
   ·exact .inl h1.1
   ·exact .inr h1
  ·rw [setF_other _ _ e] at hp
   exact .inl hp
 have hl := h.in_last (k := d) (by rw [hd]; decide)
 refine ⟨(hk 1).trans h.root, h.one, Nat.le_trans h.few (by omega), fun k hlt => ?_, ?_, fun k => ?_, fun k => ?_, fun k p hp => ?_, fun k p hp => ?_, fun k => ?_, fun k => ?_, fun k => ?_, fun i hi f hf => ?_⟩
 ·show setF a.nd d _ k = nd0
  rw [setF_other _ _ (show k ≠ d by intro e; subst e; exact absurd hl.2 (Nat.not_le.2 hlt))]
  exact h.past k hlt
 ·show setF a.nd d _ 0 = nd0
  rw [setF_other _ _ (by omega)]
  exact h.zero
 ·by_cases e : k = d
  ·exact .inr (.inr (by rw [hk, e, hd]))
  ·have e2 : (a.put d s id).nd k = a.nd k := setF_other _ _ e
   rw [e2]; exact h.kinds k
 ·by_cases e : k = d
  ·subst e
   show Rising (setF a.nd k _ k).names
   rw [setF_same]
   exact rising_put (h.rise k) s id
  ·have e2 : (a.put d s id).nd k = a.nd k := setF_other _ _ e
   rw [e2]; exact h.rise k
 ·rw [hk]
  rcases hn k p hp with h1 | ⟨h1, h2⟩
  ·exact h.live k p h1
  ·rw [h1]; exact hid.resolve_left h2
 ·rcases hn k p hp with h1 | ⟨h1, h2⟩
  ·exact h.short k p h1
  ·rw [h1]; exact hs
 ·by_cases e : k = d
  ·subst e
   show (setF a.nd k _ k).names.length ≤ _
   rw [setF_same]
   have h1 := len_put (h.rise k) (h.nz k) s id
   have h2 := h.len k
   simp only at h1 ⊢
   split at h1 <;> split at h1 <;> omega
  ·have e2 : (a.put d s id).nd k = a.nd k := setF_other _ _ e
   rw [e2]; exact Nat.le_trans (h.len k) (by omega)
 ·by_cases e : k = d
  ·subst e
   show 0 ≤ (setF a.nd k _ k).links ∧ (setF a.nd k _ k).links ≤ 200
   rw [setF_same]; exact h.links k
  ·have e2 : (a.put d s id).nd k = a.nd k := setF_other _ _ e
   rw [e2]; exact h.links k
 ·by_cases e : k = d
  ·subst e
   show (setF a.nd k _ k).data.length ≤ _
   rw [setF_same]; exact h.data k
  ·have e2 : (a.put d s id).nd k = a.nd k := setF_other _ _ e
   rw [e2]; exact h.data k
 ·obtain ⟨k, h1, h2, h3⟩ := h.ops i hi f hf
  exact ⟨k, h1, (hk k).trans h2, h3⟩
/-- A name goes: there are no more of them. -/
theorem Good.drop (h : Good a c) {d : Nat} (hd : (a.nd d).kind = 2) {s : ByteArray} (hs : s.size ≤ 1000) : Good (a.put d s 0) c := by
 have g := h.put hd hs (id := 0) (.inl rfl)
 refine { g with few := h.few, len := fun k => ?_ }
 by_cases e : k = d
 ·subst e
  show (setF a.nd k _ k).names.length ≤ _
  rw [setF_same]
  have h1 := len_put (h.rise k) (h.nz k) s 0
  have h2 := h.len k
  simp only at h1 ⊢
  split at h1 <;> simp at h1 <;> omega
 ·have e2 : (a.put d s 0).nd k = a.nd k := setF_other _ _ e
  rw [e2]; exact h.len k

/-- A node's links or bytes turn. -/
theorem Good.turn (h : Good a c) {k : Nat} {v : Nd} (hk : (a.nd k).kind ≠ 0) (h1 : v.kind = (a.nd k).kind) (h2 : v.names = (a.nd k).names) (h3 : 0 ≤ v.links ∧ v.links ≤ 200) (h4 : v.data.length ≤ 48640) : Good (a.setNd k v) c := by
 have hkk : ∀ i, ((a.setNd k v).nd i).kind = (a.nd i).kind := fun i => by
  show (setF a.nd k v i).kind = _
  by_cases e : i = k
  ·subst e; rw [setF_same, h1]
  ·rw [setF_other _ _ e]
 have hnn : ∀ i, ((a.setNd k v).nd i).names = (a.nd i).names := fun i => by
  show (setF a.nd k v i).names = _
  by_cases e : i = k
  ·subst e; rw [setF_same, h2]
  ·rw [setF_other _ _ e]
 have hl := h.in_last hk
 refine ⟨(hkk 1).trans h.root, h.one, h.few, fun i hlt => ?_, ?_, fun i => ?_, fun i => ?_, fun i p hp => ?_, fun i p hp => ?_, fun i => ?_, fun i => ?_, fun i => ?_, fun i hi f hf => ?_⟩
 ·show setF a.nd k v i = nd0
  rw [setF_other _ _ (show i ≠ k by intro e; subst e; exact absurd hl.2 (Nat.not_le.2 hlt))]
  exact h.past i hlt
 ·show setF a.nd k v 0 = nd0
  rw [setF_other _ _ (by omega)]
  exact h.zero
 ·rw [hkk, hnn]
  rcases h.kinds i with ⟨e1, e2⟩ | h'
  ·by_cases e : i = k
   ·subst e; exact absurd e1 hk
   ·exact .inl ⟨e1, (setF_other _ _ e).trans e2⟩
  ·exact .inr h'
 ·rw [hnn]; exact h.rise i
 ·rw [hkk]; rw [hnn] at hp; exact h.live i p hp
 ·rw [hnn] at hp; exact h.short i p hp
 ·rw [hnn]; exact h.len i
 ·by_cases e : i = k
  ·subst e
   show 0 ≤ (setF a.nd i v i).links ∧ (setF a.nd i v i).links ≤ 200
   rw [setF_same]; exact h3
  ·have e2 : (a.setNd k v).nd i = a.nd i := setF_other _ _ e
   rw [e2]; exact h.links i
 ·by_cases e : i = k
  ·subst e
   show (setF a.nd i v i).data.length ≤ _
   rw [setF_same]; exact h4
  ·have e2 : (a.setNd k v).nd i = a.nd i := setF_other _ _ e
   rw [e2]; exact h.data i
 ·obtain ⟨x, g1, g2, g3⟩ := h.ops i hi f hf
  exact ⟨x, g1, (hkk x).trans g2, g3⟩
theorem Tied.turn {q : Nat → Int} (h : Tied a q) {k : Nat} {v : Nd} (h2 : v.names = (a.nd k).names) : Tied (a.setNd k v) fun i => if i = k then q k + (v.links - (a.nd k).links) else q i := by
 have hr : ∀ i n, refsTo (setF a.nd k v) i n = refsTo a.nd i n := fun i n => by
  rcases Nat.lt_or_ge n k with hn | hn
  ·exact refsTo_far hn
  ·have := refsTo_set (nd := a.nd) (k := i) (v := v) hn
   rw [h2] at this
   omega
 intro i
 show (setF a.nd k v i).links = refsTo (setF a.nd k v) i a.last + _ + _
 rw [hr]
 have := h i
 by_cases e : i = k
 ·subst e
  rw [setF_same]
  simp only [if_true]
  omega
 ·rw [setF_other _ _ e]
  simp only [e, if_false]
  exact this
theorem Tied.put (h : Good a c) {q : Nat → Int} (ht : Tied a q) {d : Nat} (hd : (a.nd d).kind ≠ 0) (s : ByteArray) (id : Nat) :
  Tied (a.put d s id) fun i => q i + (if a.find d s ≠ 0 ∧ a.find d s = i then 1 else 0) - (if id ≠ 0 ∧ id = i then 1 else 0) := by
 intro i
 have hl := h.in_last hd
 show (setF a.nd d _ i).links = refsTo (setF a.nd d _) i a.last + _ + _
 have h1 := refsTo_set (nd := a.nd) (k := i) (v := { a.nd d with names := putL (a.nd d).names s id }) hl.2
 have h2 := cntBy_put (h.rise d) (h.nz d) (fun p => decide (p.2 = i)) s id
 have h3 : (setF a.nd d { a.nd d with names := putL (a.nd d).names s id } i).links = (a.nd i).links := by
  by_cases e : i = d
  ·subst e; rw [setF_same]
  ·rw [setF_other _ _ e]
 rw [h3, ht i]
 unfold TS.find
 simp only [decide_eq_true_eq] at h1 h2
 show _ = _ + _ + (q i + (if findL (a.nd d).names s ≠ 0 ∧ findL (a.nd d).names s = i then 1 else 0) - (if id ≠ 0 ∧ id = i then 1 else 0))
 by_cases hA : findL (a.nd d).names s ≠ 0 ∧ findL (a.nd d).names s = i <;> by_cases hB : id ≠ 0 ∧ id = i
 ·rw [if_pos hA, if_pos hB] at h2 ⊢; omega
 ·rw [if_pos hA, if_neg hB] at h2 ⊢; omega
 ·rw [if_neg hA, if_pos hB] at h2 ⊢; omega
 ·rw [if_neg hA, if_neg hB] at h2 ⊢; omega
/-- A node goes that has no names. -/
theorem Good.goneNow (h : Good a c) {k : Nat} (hk : (a.nd k).kind ≠ 0) (hk1 : k ≠ 1) (hn : (a.nd k).names = []) (hr : ∀ d p, p ∈ (a.nd d).names → p.2 ≠ k) (ho : ∀ i, i < 8 → ∀ f, a.op i = some f → f.1 ≠ (k : Int)) : Good (a.setNd k nd0) c := by
 have hl := h.in_last hk
 have hmem : ∀ i p, p ∈ ((a.setNd k nd0).nd i).names → p ∈ (a.nd i).names := fun i p hp => by
  have hp : p ∈ (setF a.nd k nd0 i).names := hp
  by_cases e : i = k
  ·subst e; rw [setF_same] at hp; cases hp
  ·rwa [setF_other _ _ e] at hp
 refine ⟨?_, h.one, h.few, fun i hlt => ?_, ?_, fun i => ?_, fun i => ?_, fun i p hp => ?_, fun i p hp => h.short i p (hmem i p hp), fun i => ?_, fun i => ?_, fun i => ?_, fun i hi f hf => ?_⟩
 ·show (setF a.nd k nd0 1).kind = 2
  rw [setF_other _ _ (by omega)]; exact h.root
 ·show setF a.nd k nd0 i = nd0
  by_cases e : i = k
  ·subst e; exact setF_same _ _ _
  ·rw [setF_other _ _ e]; exact h.past i hlt
 ·show setF a.nd k nd0 0 = nd0
  rw [setF_other _ _ (by omega)]; exact h.zero
 all_goals by_cases e : i = k
 ·subst e
  have e2 : (a.setNd i nd0).nd i = nd0 := setF_same _ _ _
  rw [e2]; exact .inl ⟨rfl, rfl⟩
 ·have e2 : (a.setNd k nd0).nd i = a.nd i := setF_other _ _ e
  rw [e2]; exact h.kinds i
 ·subst e
  have e2 : (a.setNd i nd0).nd i = nd0 := setF_same _ _ _
  rw [e2]; exact List.Pairwise.nil
 ·have e2 : (a.setNd k nd0).nd i = a.nd i := setF_other _ _ e
  rw [e2]; exact h.rise i
 ·subst e
  have e2 : (a.setNd i nd0).nd i = nd0 := setF_same _ _ _
  rw [e2] at hp; cases hp
 ·have hp2 := hmem i p hp
  have e2 : (a.setNd k nd0).nd p.2 = a.nd p.2 := setF_other _ _ (hr i p hp2)
  rw [e2]; exact h.live i p hp2
 ·subst e
  have e2 : (a.setNd i nd0).nd i = nd0 := setF_same _ _ _
  rw [e2]; exact Nat.zero_le _
 ·have e2 : (a.setNd k nd0).nd i = a.nd i := setF_other _ _ e
  rw [e2]; exact h.len i
 ·subst e
  have e2 : (a.setNd i nd0).nd i = nd0 := setF_same _ _ _
  rw [e2]; exact ⟨by decide, by decide⟩
 ·have e2 : (a.setNd k nd0).nd i = a.nd i := setF_other _ _ e
  rw [e2]; exact h.links i
 ·subst e
  have e2 : (a.setNd i nd0).nd i = nd0 := setF_same _ _ _
  rw [e2]; exact Nat.zero_le _
 ·have e2 : (a.setNd k nd0).nd i = a.nd i := setF_other _ _ e
  rw [e2]; exact h.data i
 all_goals
  obtain ⟨x, g1, g2, g3⟩ := h.ops i hi f hf
  have hx : x ≠ k := by
   intro e3
   exact ho i hi f hf (by rw [g1, e3])
  exact ⟨x, g1, by rw [show (a.setNd k nd0).nd x = a.nd x from setF_other _ _ hx]; exact g2, g3⟩
theorem cntO_zero {op : Nat → Option FT} {k : Int} (h : cntO op k = 0) : ∀ i, i < 8 → ∀ f, op i = some f → f.1 ≠ k := by
 intro i hi f hf e
 unfold cntO at h
 have := List.eq_nil_of_length_eq_zero h
 rw [List.filter_eq_nil_iff] at this
 have h1 := this i (List.mem_range.2 hi)
 rw [hf] at h1
 exact h1 (by simpa using e)
/-- A node is let go, if it has no name, and is not open. -/
theorem Good.gone (h : Good a c) {q : Nat → Int} (ht : Tied a q) {k : Nat} (hk : (a.nd k).kind ≠ 0) (hq : 0 ≤ q k) (hn : (a.nd k).names = []) : Good (a.gone k) c ∧ Tied (a.gone k) fun i => if i = k ∧ (a.nd k).links = 0 ∧ cntO a.op k = 0 then 0 else q i := by
 unfold TS.gone
 split
 ·rename_i h0
  have h1 := ht k
  rw [h0.1] at h1
  have hr0 : refsTo a.nd k a.last = 0 := by split at h1 <;> omega
  have hk1 : k ≠ 1 := by intro e; subst e; simp at h1; omega
  have hnr : ∀ d p, p ∈ (a.nd d).names → p.2 ≠ k := by
   intro d p hp e
   have hdl : d ≤ a.last := by
    rcases Nat.lt_or_ge a.last d with hlt | hge
    ·rw [h.past d hlt] at hp; cases hp
    ·exact hge
   have := refsTo_pos hdl hp e
   omega
  refine ⟨h.goneNow hk hk1 hn hnr (cntO_zero h0.2), fun i => ?_⟩
  have h2 := Tied.turn ht (k := k) (v := nd0) hn.symm i
  rw [h2]
  simp only [h0, and_self, and_true]
  by_cases e : i = k
  ·subst e
   simp only [if_true]
   have : nd0.links = 0 := rfl
   rw [this]
   split at h1 <;> omega
  ·simp only [e, if_false]
 ·rename_i h0
  refine ⟨h, fun i => ?_⟩
  rw [ht i]
  simp only [h0, and_false, if_false]
end
end Go.Proofs.YtpkhglfhpggceaaGreatDoor
