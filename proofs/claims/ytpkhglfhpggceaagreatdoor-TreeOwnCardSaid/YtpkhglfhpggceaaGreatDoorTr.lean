/- A tree of directories and files, plain: names by rising texts, what each act comes to. No program in sight. -/
import Derived.Test.YtpkhglfhpggceaaGreatDoorPlain
namespace Go.Proofs.YtpkhglfhpggceaaGreatDoor

abbrev Names := List (ByteArray × Nat)
def lt (a b : ByteArray) : Bool := decide (a.data.toList < b.data.toList)
theorem lt_irrefl (a : ByteArray) : lt a a = false := by
 unfold lt
 rw [decide_eq_false_iff_not]
 exact List.lt_irrefl _
theorem lt_trans {a b c : ByteArray} (h : lt a b = true) (k : lt b c = true) : lt a c = true := by
 unfold lt at *
 rw [decide_eq_true_eq] at *
 exact List.lt_trans h k
theorem lt_ne {a b : ByteArray} (h : lt a b = true) : a ≠ b := by
 rintro rfl
 rw [lt_irrefl] at h
 cases h
theorem lt_tri {a b : ByteArray} (h : lt a b = false) (hn : a ≠ b) : lt b a = true := by
 unfold lt at *
 rw [decide_eq_false_iff_not] at h
 rw [decide_eq_true_eq]
 refine Decidable.byContradiction fun h2 => hn ?_
 have h1 := List.le_antisymm (List.not_lt.1 h2) (List.not_lt.1 h)
 cases a; cases b
 simp at h1
 rw [h1]

/-- A name's node; 0: none. -/
def findL : Names → ByteArray → Nat
 | [], _ => 0
 | p :: r, s => if p.1 = s then p.2 else findL r s
/-- A name comes, by its place, for a node; 0: it goes. -/
def putL : Names → ByteArray → Nat → Names
 | [], s, id => if id = 0 then [] else [(s, id)]
 | p :: r, s, id => if lt p.1 s = true then p :: putL r s id else (if id = 0 then [] else [(s, id)]) ++ (p :: r).filter fun q => decide (q.1 ≠ s)
def Rising (l : Names) : Prop := l.Pairwise fun p q => lt p.1 q.1 = true

theorem findL_filter (l : Names) (s : ByteArray) : findL (l.filter fun q => decide (q.1 ≠ s)) s = 0 := by
 induction l with
 | nil => rfl
 | cons p r ih =>
  rw [List.filter_cons]
  split
  ·rename_i h
   have h1 : p.1 ≠ s := by simpa using h
   unfold findL
   rw [if_neg h1, ih]
  ·exact ih
theorem findL_filter_other (l : Names) {s k : ByteArray} (h : k ≠ s) : findL (l.filter fun q => decide (q.1 ≠ s)) k = findL l k := by
 induction l with
 | nil => rfl
 | cons p r ih =>
  rw [List.filter_cons]
  split
  ·unfold findL
   rw [ih]
  ·rename_i h1
   have h2 : p.1 = s := by simpa using h1
   have h3 : ¬ p.1 = k := fun e => h (e.symm.trans h2)
   rw [ih]
   show _ = (if p.1 = k then p.2 else findL r k)
   rw [if_neg h3]
theorem findL_put_same (l : Names) (s : ByteArray) (id : Nat) : findL (putL l s id) s = id := by
 induction l with
 | nil =>
  unfold putL
  split
  ·rename_i h; subst h; rfl
  ·show (if s = s then id else _) = id
   rw [if_pos rfl]
 | cons p r ih =>
  unfold putL
  split
  ·rename_i h
   show (if p.1 = s then p.2 else findL (putL r s id) s) = id
   rw [if_neg (lt_ne h), ih]
  ·split
   ·rename_i h
    subst h
    exact findL_filter _ _
   ·show (if s = s then id else _) = id
    rw [if_pos rfl]
theorem findL_put_other (l : Names) {s k : ByteArray} (id : Nat) (h : k ≠ s) : findL (putL l s id) k = findL l k := by
 induction l with
 | nil =>
  unfold putL
  split
  ·rfl
  ·show (if s = k then id else 0) = 0
   rw [if_neg fun e => h e.symm]
 | cons p r ih =>
  unfold putL
  split
  ·show (if p.1 = k then p.2 else findL (putL r s id) k) = (if p.1 = k then p.2 else findL r k)
   rw [ih]
  ·split
   ·exact findL_filter_other _ h
   ·show (if s = k then id else findL ((p :: r).filter fun q => decide (q.1 ≠ s)) k) = _
    rw [if_neg fun e => h e.symm]
    exact findL_filter_other _ h
theorem mem_putL {l : Names} {s : ByteArray} {id : Nat} {p : ByteArray × Nat} (h : p ∈ putL l s id) : (p ∈ l ∧ p.1 ≠ s) ∨ (p = (s, id) ∧ id ≠ 0) := by
 induction l with
 | nil =>
  unfold putL at h
  split at h
  ·cases h
  ·rename_i h0
   exact .inr ⟨by simpa using h, h0⟩
 | cons q r ih =>
  unfold putL at h
  split at h
  ·rename_i hq
   rcases List.mem_cons.1 h with rfl | h
   ·exact .inl ⟨List.mem_cons_self, lt_ne hq⟩
   ·rcases ih h with ⟨h1, h2⟩ | h1
    ·exact .inl ⟨List.mem_cons_of_mem _ h1, h2⟩
    ·exact .inr h1
  ·rcases List.mem_append.1 h with h | h
   ·split at h
    ·cases h
    ·rename_i h0
     exact .inr ⟨by simpa using h, h0⟩
   ·rw [List.mem_filter] at h
    exact .inl ⟨h.1, by simpa using h.2⟩
theorem rising_put {l : Names} (h : Rising l) (s : ByteArray) (id : Nat) : Rising (putL l s id) := by
 induction l with
 | nil =>
  unfold putL
  split
  ·exact h
  ·exact List.pairwise_singleton _ _
 | cons p r ih =>
  have hp := List.pairwise_cons.1 h
  unfold putL
  split
  ·rename_i hl
   refine List.pairwise_cons.2 ⟨fun q hq => ?_, ih hp.2⟩
   rcases mem_putL hq with ⟨h1, _⟩ | ⟨h1, _⟩
   ·exact hp.1 q h1
   ·rw [h1]; exact hl
  ·rename_i hl
   have hl' : lt p.1 s = false := by simpa using hl
   have hf : Rising ((p :: r).filter fun q => decide (q.1 ≠ s)) := List.Pairwise.filter _ h
   split
   ·exact hf
   ·refine List.pairwise_cons.2 ⟨fun q hq => ?_, hf⟩
    have hq : q ∈ (p :: r).filter fun q => decide (q.1 ≠ s) := hq
    rw [List.mem_filter] at hq
    have hq2 : q.1 ≠ s := by simpa using hq.2
    rcases List.mem_cons.1 hq.1 with h1 | h1
    ·subst h1
     exact lt_tri hl' hq2
    ·have h2 := hp.1 q h1
     by_cases hps : p.1 = s
     ·rw [← hps]; exact h2
     ·exact lt_trans (lt_tri hl' hps) h2
theorem findL_pos {l : Names} {s : ByteArray} (h : findL l s ≠ 0) : (s, findL l s) ∈ l := by
 induction l with
 | nil => exact absurd rfl h
 | cons p r ih =>
  unfold findL at h ⊢
  split
  ·rename_i e
   subst e
   exact List.mem_cons_self
  ·rename_i e
   rw [if_neg e] at h
   exact List.mem_cons_of_mem _ (ih h)
theorem findL_mem {l : Names} (hr : Rising l) {p : ByteArray × Nat} (h : p ∈ l) : findL l p.1 = p.2 := by
 induction l with
 | nil => cases h
 | cons q r ih =>
  have hp := List.pairwise_cons.1 hr
  unfold findL
  rcases List.mem_cons.1 h with h1 | h1
  ·rw [h1, if_pos rfl]
  ·rw [if_neg (lt_ne (hp.1 p h1)), ih hp.2 h1]
theorem findL_none {l : Names} (hz : ∀ p ∈ l, p.2 ≠ 0) {s : ByteArray} (h : findL l s = 0) : ∀ p ∈ l, p.1 ≠ s := by
 induction l with
 | nil => intro p hp; cases hp
 | cons q r ih =>
  intro p hp e
  unfold findL at h
  by_cases hq : q.1 = s
  ·rw [if_pos hq] at h
   exact hz q List.mem_cons_self h
  ·rw [if_neg hq] at h
   rcases List.mem_cons.1 hp with h1 | h1
   ·exact hq (by rw [← h1]; exact e)
   ·exact ih (fun p hp => hz p (List.mem_cons_of_mem _ hp)) h p h1 e

theorem filter_none {l : Names} {s : ByteArray} (h : ∀ p ∈ l, p.1 ≠ s) : l.filter (fun q => decide (q.1 ≠ s)) = l := by
 rw [List.filter_eq_self]
 intro p hp
 simpa using h p hp
/-- Whatever is counted of the entries: one goes, if the name was there; one comes. -/
def cntBy (f : ByteArray × Nat → Bool) (l : Names) : Nat := (l.filter f).length
theorem cntBy_cons (f : ByteArray × Nat → Bool) (p : ByteArray × Nat) (l : Names) : cntBy f (p :: l) = (if f p then 1 else 0) + cntBy f l := by
 unfold cntBy
 rw [List.filter_cons]
 split
 ·simp; omega
 ·simp
theorem cntBy_filter {l : Names} (hr : Rising l) (hz : ∀ p ∈ l, p.2 ≠ 0) (f : ByteArray × Nat → Bool) (s : ByteArray) :
  cntBy f (l.filter fun q => decide (q.1 ≠ s)) + (if findL l s ≠ 0 ∧ f (s, findL l s) = true then 1 else 0) = cntBy f l := by
 induction l with
 | nil => simp [cntBy, findL]
 | cons p r ih =>
  have hp := List.pairwise_cons.1 hr
  have ih := ih hp.2 (fun q hq => hz q (List.mem_cons_of_mem _ hq))
  by_cases e : p.1 = s
  ·have hn : ∀ q ∈ r, q.1 ≠ s := fun q hq h1 => lt_ne (hp.1 q hq) (e.trans h1.symm)
   rw [List.filter_cons, if_neg (by simp [e]), filter_none hn, cntBy_cons]
   have h2 : findL (p :: r) s = p.2 := by unfold findL; rw [if_pos e]
   rw [h2]
   have h3 : (s, p.2) = p := by rw [← e]
   rw [h3]
   have h4 := hz p List.mem_cons_self
   simp only [h4, ne_eq, not_false_eq_true, true_and]
   omega
  ·rw [List.filter_cons, if_pos (by simpa using e), cntBy_cons, cntBy_cons]
   have h2 : findL (p :: r) s = findL r s := by show (if p.1 = s then p.2 else findL r s) = _; rw [if_neg e]
   rw [h2]
   omega
theorem cntBy_put {l : Names} (hr : Rising l) (hz : ∀ p ∈ l, p.2 ≠ 0) (f : ByteArray × Nat → Bool) (s : ByteArray) (id : Nat) :
  cntBy f (putL l s id) + (if findL l s ≠ 0 ∧ f (s, findL l s) = true then 1 else 0) = cntBy f l + (if id ≠ 0 ∧ f (s, id) = true then 1 else 0) := by
 induction l with
 | nil =>
  unfold putL
  by_cases h : id = 0
  ·simp [h, cntBy, findL]
  ·rw [if_neg h, cntBy_cons]
   simp [findL, h, cntBy]
 | cons p r ih =>
  have hp := List.pairwise_cons.1 hr
  have ih := ih hp.2 (fun q hq => hz q (List.mem_cons_of_mem _ hq))
  unfold putL
  split
  ·rename_i hl
   have h2 : findL (p :: r) s = findL r s := by show (if p.1 = s then p.2 else findL r s) = _; rw [if_neg (lt_ne hl)]
   rw [h2, cntBy_cons, cntBy_cons]
   omega
  ·have h3 := cntBy_filter hr hz f s
   split
   ·rename_i h0
    simp only [h0, ne_eq, not_true_eq_false, false_and, if_false, List.nil_append]
    omega
   ·rename_i h0
    rw [List.cons_append, List.nil_append, cntBy_cons]
    simp only [ne_eq, h0, not_false_eq_true, true_and]
    simp only [ne_eq] at h3
    omega
theorem len_put {l : Names} (hr : Rising l) (hz : ∀ p ∈ l, p.2 ≠ 0) (s : ByteArray) (id : Nat) :
  (putL l s id).length + (if findL l s ≠ 0 then 1 else 0) = l.length + (if id ≠ 0 then 1 else 0) := by
 have h := cntBy_put hr hz (fun _ => true) s id
 have e : ∀ m : Names, cntBy (fun _ => true) m = m.length := fun m => by unfold cntBy; rw [List.filter_eq_self.2 (fun _ _ => rfl)]
 rw [e, e] at h
 simpa using h
theorem putL_putL {l : Names} (hr : Rising l) (s : ByteArray) (id : Nat) : putL (putL l s 0) s id = putL l s id := by
 induction l with
 | nil => rfl
 | cons p r ih =>
  have hp := List.pairwise_cons.1 hr
  show putL (if lt p.1 s = true then p :: putL r s 0 else _) s id = (if lt p.1 s = true then p :: putL r s id else _)
  by_cases hl : lt p.1 s = true
  ·rw [if_pos hl, if_pos hl]
   show (if lt p.1 s = true then p :: putL (putL r s 0) s id else _) = _
   rw [if_pos hl, ih hp.2]
  ·rw [if_neg hl, if_neg hl, if_pos rfl, List.nil_append]
   have hl' : lt p.1 s = false := by simpa using hl
   have hno : ∀ q ∈ (p :: r).filter (fun q => decide (q.1 ≠ s)), lt q.1 s = false := by
    intro q hq
    rw [List.mem_filter] at hq
    have hq2 : q.1 ≠ s := by simpa using hq.2
    cases hqs : lt q.1 s with
    | false => rfl
    | true =>
     rcases List.mem_cons.1 hq.1 with h1 | h1
     ·rw [← h1, hqs] at hl'; cases hl'
     ·rw [lt_trans (hp.1 q h1) hqs] at hl'; cases hl'
   have hff : ((p :: r).filter (fun q => decide (q.1 ≠ s))).filter (fun q => decide (q.1 ≠ s)) = (p :: r).filter (fun q => decide (q.1 ≠ s)) := by
    rw [List.filter_filter]; simp
   revert hno hff
   generalize (p :: r).filter (fun q => decide (q.1 ≠ s)) = M
   intro hno hff
   cases M with
   | nil => unfold putL; split <;> rfl
   | cons q t =>
    unfold putL
    rw [if_neg (by rw [hno q List.mem_cons_self]; simp), hff]
end Go.Proofs.YtpkhglfhpggceaaGreatDoor
