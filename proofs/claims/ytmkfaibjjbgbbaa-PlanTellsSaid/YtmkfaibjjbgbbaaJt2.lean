/- Sectors by insertion, what is needed by marks: as package graph has them. No program in sight. Needed of package scupperref14. Sectors of package scupperref14. -/
import Derived.Test.YtmkfaibjjbgbbaaRwLaw
import Derived.Test.YtmkfaibjjbgbbaaJt1
namespace Go.Proofs.Ytmkfaibjjbgbbaa
set_option linter.unusedVariables false

/-! Insertion. -/
def posS (L : List Int) (a : Int) : Nat := (L.takeWhile fun y => decide (y < a)).length
def insS (L : List Int) (a : Int) : List Int := if L[posS L a]? = some a then L else L.take (posS L a) ++ a :: L.drop (posS L a)
theorem pos_is {a : Int} : ∀ (L : List Int) (k : Nat), (∀ (j : Nat) (y : Int), j < k → L[j]? = some y → y < a) → k ≤ L.length → (∀ y, L[k]? = some y → ¬ y < a) → posS L a = k := by
  intro L
  induction L with
  | nil => intro k _ hk _; simp at hk; rw [hk]; rfl
  | cons y L ih =>
    intro k h1 hk h2
    unfold posS
    cases k with
    | zero =>
      have := h2 y rfl
      rw [List.takeWhile_cons, if_neg (by simpa using this)]
      rfl
    | succ k =>
      have := h1 0 y (by omega) rfl
      rw [List.takeWhile_cons, if_pos (by simpa using this), List.length_cons]
      have := ih k (fun j z hj hz => h1 (j + 1) z (by omega) (by simpa using hz)) (by simpa using hk) (fun z hz => h2 z (by simpa using hz))
      unfold posS at this
      rw [this]
theorem insS_nil (a : Int) : insS [] a = [a] := rfl
theorem insS_cons (y : Int) (L : List Int) (a : Int) : insS (y :: L) a = if y < a then y :: insS L a else if y = a then y :: L else a :: y :: L := by
  by_cases h : y < a
  · have hp : posS (y :: L) a = posS L a + 1 := by unfold posS; rw [List.takeWhile_cons, if_pos (by simpa using h), List.length_cons]
    rw [if_pos h]
    unfold insS
    rw [hp]
    simp only [List.getElem?_cons_succ, List.take_succ_cons, List.drop_succ_cons]
    split <;> rfl
  · have hp : posS (y :: L) a = 0 := by unfold posS; rw [List.takeWhile_cons, if_neg (by simpa using h)]; rfl
    rw [if_neg h]
    unfold insS
    rw [hp]
    simp
theorem insS_spec (a : Int) : ∀ L : List Int, L.Pairwise (· < ·) → (insS L a).Pairwise (· < ·) ∧ ∀ y, y ∈ insS L a ↔ y ∈ L ∨ y = a := by
  intro L
  induction L with
  | nil => intro _; rw [insS_nil]; simp
  | cons z L ih =>
    intro hL
    obtain ⟨hz, hL'⟩ := List.pairwise_cons.1 hL
    obtain ⟨h1, h2⟩ := ih hL'
    rw [insS_cons]
    split
    · rename_i h
      refine ⟨List.pairwise_cons.2 ⟨fun y hy => ?_, h1⟩, fun y => ?_⟩
      · rcases (h2 y).1 hy with h3 | h3
        · exact hz y h3
        · rw [h3]; exact h
      · rw [List.mem_cons, h2 y, List.mem_cons, or_assoc]
    · split
      · rename_i h1' h
        refine ⟨hL, fun y => ?_⟩
        rw [List.mem_cons, h]
        constructor
        · exact fun h => .inl h
        · rintro (h | h)
          · exact h
          · exact .inl h
      · rename_i ha hb
        refine ⟨List.pairwise_cons.2 ⟨fun y hy => ?_, hL⟩, fun y => ?_⟩
        · rcases List.mem_cons.1 hy with h3 | h3
          · omega
          · have := hz y h3; omega
        · simp only [List.mem_cons]
          constructor
          · rintro (h | h)
            · exact .inr h
            · exact .inl h
          · rintro (h | h)
            · exact .inr h
            · exact .inl h
theorem insS_len (L : List Int) (a : Int) : (insS L a).length ≤ L.length + 1 := by
  unfold insS
  split
  · omega
  · rw [List.length_append, List.length_cons, List.length_take, List.length_drop]; omega
def secsK (l : List Pt) (k : Nat) : List Int := ((l.take k).filter fun p => !p.written).foldl (fun L p => insS L p.sec) []
theorem secsK_on {l : List Pt} {k : Nat} {p : Pt} (h : l[k]? = some p) (hw : p.written = false) : secsK l (k + 1) = insS (secsK l k) p.sec := by
  unfold secsK
  rw [List.take_add_one, h, List.filter_append]
  simp [hw]
theorem secsK_off {l : List Pt} {k : Nat} {p : Pt} (h : l[k]? = some p) (hw : p.written = true) : secsK l (k + 1) = secsK l k := by
  unfold secsK
  rw [List.take_add_one, h, List.filter_append]
  simp [hw]
theorem secsF_spec : ∀ (P : List Pt) (L : List Int), L.Pairwise (· < ·) → (P.foldl (fun L p => insS L p.sec) L).Pairwise (· < ·) ∧ (P.foldl (fun L p => insS L p.sec) L).length ≤ L.length + P.length ∧ ∀ b, b ∈ P.foldl (fun L p => insS L p.sec) L ↔ b ∈ L ∨ ∃ p ∈ P, p.sec = b := by
  intro P
  induction P with
  | nil => intro L h; exact ⟨h, by simp, by simp⟩
  | cons p P ih =>
    intro L h
    obtain ⟨h1, h2⟩ := insS_spec p.sec L h
    obtain ⟨h3, h4, h5⟩ := ih _ h1
    refine ⟨h3, ?_, fun b => ?_⟩
    · have := insS_len L p.sec
      rw [List.foldl_cons, List.length_cons]
      omega
    · rw [List.foldl_cons, h5 b, h2 b]
      simp only [List.mem_cons, exists_eq_or_imp]
      constructor
      · rintro ((h | h) | h)
        · exact .inl h
        · exact .inr (.inl h.symm)
        · exact .inr (.inr h)
      · rintro (h | h | h)
        · exact .inl (.inl h)
        · exact .inl (.inr h.symm)
        · exact .inr h
theorem secsK_len (l : List Pt) (k : Nat) : (secsK l k).length ≤ l.length := by
  have h1 := (secsF_spec ((l.take k).filter fun p => !p.written) [] List.Pairwise.nil).2.1
  have h2 := List.length_filter_le (fun p : Pt => !p.written) (l.take k)
  rw [List.length_take] at h2
  unfold secsK
  simp at h1
  omega
theorem secsK_all (x : G) : secsK x.l x.l.length = secsG x := by
  obtain ⟨h1, h2, h3⟩ := secsF_spec (liveL x) [] List.Pairwise.nil
  obtain ⟨h4, h5⟩ := secsRaw_spec (liveL x) [] List.nodup_nil
  unfold secsK secsG
  rw [List.take_length]
  exact (sort_is h4 h1 (fun k => by rw [h3, ← h5])).symm

/-! Marks. -/
def orId (f : Pt → Bool) (id : Int) (q : Pt) : Bool := f q || decide (q.id = id)
theorem set_mark {l : List Pt} (hl : Rise l) (f : Pt → Bool) {k : Nat} {p : Pt} (hk : l[k]? = some p) : (l.map f).set k true = l.map (orId f p.id) := by
  apply List.ext_getElem?
  intro i
  rw [List.getElem?_set, List.getElem?_map, List.getElem?_map, List.length_map]
  split
  · rename_i h
    subst h
    rw [if_pos (idx_lt hk), hk]
    simp [orId]
  · rename_i h
    cases hi : l[i]? with
    | none => rfl
    | some q =>
      have : q.id ≠ p.id := fun e => by
        rcases Nat.lt_trichotomy i k with h1 | h1 | h1
        · have := rise_lt hl hi hk h1; omega
        · exact h h1.symm
        · have := rise_lt hl hk hi h1; omega
      simp [orId, this]
theorem mark_id (x : G) (hx : Rise x.l) (f : Pt → Bool) (id : Int) : (findI x.l id = -1 ∧ x.l.map (orId f id) = x.l.map f) ∨ ∃ k : Nat, k < x.l.length ∧ findI x.l id = k ∧ (x.l.map f).set k true = x.l.map (orId f id) := by
  rcases findI_ref x id with ⟨h1, h2⟩ | ⟨k, p, h1, h2, h3, h4⟩
  · left
    refine ⟨h2, List.map_congr_left fun q hq => ?_⟩
    have : ¬ q.id = id := find_none h1 q hq
    simp [orId, this]
  · right
    exact ⟨k, idx_lt h2, h4, by rw [← h3]; exact set_mark hx f h2⟩
def firstF (ids : List Int) (j : Nat) (p : Pt) : Bool := (ids.take j).contains p.id
theorem firstF_on {ids : List Int} {j : Nat} {id : Int} (h : ids[j]? = some id) : firstF ids (j + 1) = orId (firstF ids j) id := by
  funext p
  unfold firstF orId
  rw [List.take_add_one, h, Bool.eq_iff_iff]
  simp
/-- What is marked when the patches from place m on have been looked at. -/
def markF (l : List Pt) (ids : List Int) (m : Nat) (p : Pt) : Bool := ids.contains p.id || (neededL (l.drop m) ids).any fun q => depB q p
theorem markF_all (l : List Pt) (ids : List Int) : markF l ids l.length = firstF ids ids.length := by
  funext p
  unfold markF firstF
  rw [List.drop_length, List.take_length]
  show (ids.contains p.id || false) = _
  simp
def needF (f : Pt → Bool) (needs : List Int) (i : Nat) (p : Pt) : Bool := f p || (needs.take i).contains p.id
theorem needF_zero (f : Pt → Bool) (needs : List Int) : needF f needs 0 = f := by funext p; simp [needF]
theorem needF_on {f : Pt → Bool} {needs : List Int} {j : Nat} {id : Int} (h : needs[j]? = some id) : needF f needs (j + 1) = orId (needF f needs j) id := by
  funext p
  unfold needF orId
  rw [List.take_add_one, h, Bool.eq_iff_iff]
  simp [or_assoc]
def inT (l : List Pt) (i : Nat) (p : Pt) : Bool := (l.take i).any fun r => decide (r.id = p.id)
def hitF (g : Pt → Bool) (l : List Pt) (p : Pt) (i : Nat) (q : Pt) : Bool := g q || (inT l i q && (!q.written && meetR q p))
theorem hitF_zero (g : Pt → Bool) (l : List Pt) (p : Pt) : hitF g l p 0 = g := by funext q; simp [hitF, inT]
theorem inT_on {l : List Pt} {i : Nat} {r : Pt} (h : l[i]? = some r) (q : Pt) : inT l (i + 1) q = (inT l i q || decide (r.id = q.id)) := by
  unfold inT
  rw [List.take_add_one, h, List.any_append]
  simp
theorem hitF_on {l : List Pt} (hl : Rise l) (g : Pt → Bool) (p : Pt) {i : Nat} {r : Pt} (h : l[i]? = some r) (hc : (!r.written && meetR r p) = true) : (l.map (hitF g l p i)).set i true = l.map (hitF g l p (i + 1)) := by
  rw [set_mark hl _ h]
  refine List.map_congr_left fun q hq => ?_
  unfold orId hitF
  rw [inT_on h]
  by_cases e : q.id = r.id
  · have := rise_eq hl (List.mem_of_getElem? h) hq e
    subst this
    simp [hc]
  · have e' : ¬ r.id = q.id := fun h => e h.symm
    simp [e, e']
theorem hitF_off {l : List Pt} (hl : Rise l) (g : Pt → Bool) (p : Pt) {i : Nat} {r : Pt} (h : l[i]? = some r) (hc : (!r.written && meetR r p) = false) : l.map (hitF g l p (i + 1)) = l.map (hitF g l p i) := by
  refine List.map_congr_left fun q hq => ?_
  unfold hitF
  rw [inT_on h]
  by_cases e : r.id = q.id
  · have := rise_eq hl (List.mem_of_getElem? h) hq e.symm
    subst this
    simp [hc]
  · simp [e]
theorem inT_iff {l : List Pt} (hl : Rise l) {k : Nat} {p q : Pt} (hk : l[k]? = some p) (hq : q ∈ l) : inT l k q = decide (q.id < p.id) := by
  obtain ⟨i, hi⟩ := List.mem_iff_getElem?.1 hq
  rw [Bool.eq_iff_iff, decide_eq_true_iff]
  unfold inT
  rw [List.any_eq_true]
  constructor
  · rintro ⟨r, hr, e⟩
    obtain ⟨j, hj⟩ := List.mem_iff_getElem?.1 hr
    rw [List.getElem?_take] at hj
    split at hj
    · rename_i hjk
      have := rise_lt hl hj hk hjk
      have e : r.id = q.id := by simpa using e
      omega
    · cases hj
  · intro h
    have := rise_idx hl hi hk h
    exact ⟨q, List.mem_iff_getElem?.2 ⟨i, by rw [List.getElem?_take, if_pos this]; exact hi⟩, by simp⟩
theorem drop_at {l : List Pt} {k : Nat} {p : Pt} (hk : l[k]? = some p) : l.drop k = p :: l.drop (k + 1) := by
  have h := idx_lt hk
  rw [List.drop_eq_getElem_cons h]
  congr 1
  rw [List.getElem?_eq_getElem h] at hk
  exact Option.some.inj hk
theorem markF_skip {l : List Pt} {ids : List Int} {k : Nat} {p : Pt} (hk : l[k]? = some p) (h : markF l ids (k + 1) p = false) : markF l ids k = markF l ids (k + 1) := by
  funext q
  unfold markF at h ⊢
  rw [drop_at hk]
  have : neededL (p :: l.drop (k + 1)) ids = neededL (l.drop (k + 1)) ids := by
    show (if ids.contains p.id || (neededL (l.drop (k + 1)) ids).any (fun q => depB q p) then p :: neededL (l.drop (k + 1)) ids else neededL (l.drop (k + 1)) ids) = _
    rw [h]; rfl
  rw [this]
theorem markF_take {l : List Pt} {ids : List Int} {k : Nat} {p : Pt} (hk : l[k]? = some p) (h : markF l ids (k + 1) p = true) (q : Pt) : markF l ids k q = (markF l ids (k + 1) q || depB p q) := by
  unfold markF at h ⊢
  rw [drop_at hk]
  have : neededL (p :: l.drop (k + 1)) ids = p :: neededL (l.drop (k + 1)) ids := by
    show (if ids.contains p.id || (neededL (l.drop (k + 1)) ids).any (fun q => depB q p) then p :: neededL (l.drop (k + 1)) ids else neededL (l.drop (k + 1)) ids) = _
    rw [h]; rfl
  rw [this, List.any_cons]
  cases depB p q <;> simp
theorem markF_live {l : List Pt} (hl : Rise l) {ids : List Int} {k : Nat} {p : Pt} (hk : l[k]? = some p) (h : markF l ids (k + 1) p = true) (hw : p.written = false) :
    l.map (hitF (needF (markF l ids (k + 1)) p.needs p.needs.length) l p k) = l.map (markF l ids k) := by
  refine List.map_congr_left fun q hq => ?_
  rw [markF_take hk h]
  unfold hitF needF depB
  rw [inT_iff hl hk hq, List.take_length, hw]
  have e1 : meetR q p = (decide (q.sec = p.sec) && meetB q p) := rfl
  rw [e1]
  cases markF l ids (k + 1) q <;> cases p.needs.contains q.id <;> cases q.written <;> cases decide (q.id < p.id) <;> cases decide (q.sec = p.sec) <;> cases meetB q p <;> rfl
theorem markF_done {l : List Pt} {ids : List Int} {k : Nat} {p : Pt} (hk : l[k]? = some p) (h : markF l ids (k + 1) p = true) (hw : p.written = true) :
    l.map (needF (markF l ids (k + 1)) p.needs p.needs.length) = l.map (markF l ids k) := by
  refine List.map_congr_left fun q hq => ?_
  rw [markF_take hk h]
  unfold needF depB
  rw [List.take_length, hw]
  simp
theorem needed_suf (t : List Pt) (ids : List Int) : ∀ pre : List Pt, ∃ s, neededL (pre ++ t) ids = s ++ neededL t ids ∧ ∀ q ∈ s, q ∈ pre := by
  intro pre
  induction pre with
  | nil => exact ⟨[], rfl, fun q h => by cases h⟩
  | cons p pre ih =>
    obtain ⟨s, h1, h2⟩ := ih
    have e : neededL (p :: pre ++ t) ids = if ids.contains p.id || (neededL (pre ++ t) ids).any (fun q => depB q p) then p :: neededL (pre ++ t) ids else neededL (pre ++ t) ids := rfl
    rw [e]
    split
    · exact ⟨p :: s, by rw [h1]; rfl, fun q hq => (List.mem_cons.1 hq).elim (fun h => by rw [h]; simp) (fun h => List.mem_cons_of_mem _ (h2 q h))⟩
    · exact ⟨s, h1, fun q hq => List.mem_cons_of_mem _ (h2 q hq)⟩
theorem markF_end {x : G} (hx : Rise x.l) (hn : ∀ p ∈ x.l, ∀ k ∈ p.needs, k < p.id) (ids : List Int) : idsOf x (markF x.l ids 0) = neededG x ids := by
  have key : ∀ (t pre : List Pt), x.l = pre ++ t → neededL t ids = t.filter (markF x.l ids 0) := by
    intro t
    induction t with
    | nil => intro _ _; rfl
    | cons p t ih =>
      intro pre hpre
      have hpre' : x.l = (pre ++ [p]) ++ t := by rw [hpre]; simp
      have iht := ih (pre ++ [p]) hpre'
      obtain ⟨s, h1, h2⟩ := needed_suf t ids (pre ++ [p])
      rw [← hpre'] at h1
      have hc : markF x.l ids 0 p = (ids.contains p.id || (neededL t ids).any fun q => depB q p) := by
        unfold markF
        rw [List.drop_zero, h1, List.any_append]
        have hs : (s.any fun q => depB q p) = false := by
          rw [List.any_eq_false]
          intro q hq hd
          have hqp := h2 q hq
          have hqx : q ∈ x.l := by rw [hpre']; exact List.mem_append_left _ hqp
          have hlt := dep_less hn hqx hd
          rcases List.mem_append.1 hqp with h | h
          · rw [hpre] at hx
            have := (List.pairwise_append.1 hx).2.2 q h p (by simp)
            omega
          · rw [List.mem_singleton.1 h] at hlt; omega
        rw [hs, Bool.false_or]
      show (if ids.contains p.id || (neededL t ids).any (fun q => depB q p) then p :: neededL t ids else neededL t ids) = _
      rw [List.filter_cons, hc, ← iht]
  unfold idsOf neededG
  rw [key x.l [] rfl]
end Go.Proofs.Ytmkfaibjjbgbbaa
namespace Go.Proofs.Ytmkfaibjjbgbbaa
open Go.RowKit
set_option linter.unusedVariables false
attribute [local go_sem ↓] Go.wp_at_zero Go.wp_at_succ

def boolsOf (l : List Pt) (f : Pt → Bool) : List Value := (l.map f).map Value.bool
theorem boolsOf_at {l : List Pt} {k : Nat} {p : Pt} (h : l[k]? = some p) (f : Pt → Bool) : (boolsOf l f)[k]? = some (.bool (f p)) := by simp [boolsOf, h]
theorem boolsOf_set (l : List Pt) (f g : Pt → Bool) (k : Nat) (h : (l.map f).set k true = l.map g) : (boolsOf l f).set k (.bool true) = boolsOf l g := by
  unfold boolsOf
  rw [← h, List.map_set]
theorem boolsOf_eq {l : List Pt} {f g : Pt → Bool} (h : l.map f = l.map g) : boolsOf l f = boolsOf l g := by unfold boolsOf; rw [h]
theorem boolsOf_len (l : List Pt) (f : Pt → Bool) : (boolsOf l f).length = l.length := by simp [boolsOf]
def Marks (B n : Nat) (w : World) (l : List Pt) (f : Pt → Bool) : Prop := w.ownsRow B 4 1 (.slice (some ⟨B, 0, none⟩) n n) n (boolsOf l f)
theorem Marks.cell {B n : Nat} {w : World} {l : List Pt} {f : Pt → Bool} (h : Marks B n w l f) (hn : n = l.length) {k : Nat} {p : Pt} (hk : l[k]? = some p) : w.cell? ⟨B, k, none⟩ = some (.bool (f p)) :=
  (World.ownsRow.cellAt h k (by have := idx_lt hk; omega)).trans (boolsOf_at hk f)
theorem Marks.frozen {B n : Nat} {w : World} {l : List Pt} {f : Pt → Bool} (h : Marks B n w l f) (k : Nat) : w.frozen? ⟨B, k, none⟩ = false := World.ownsRow.frozenAt h k
theorem Marks.store {B n : Nat} {w : World} {l : List Pt} {f g : Pt → Bool} (h : Marks B n w l f) (k : Nat) (hs : (l.map f).set k true = l.map g) : Marks B n (w.setCell ⟨B, k, none⟩ (.bool true)) l g := by
  have h1 := (World.ownsRow.stored h k (.bool true)).1
  rw [boolsOf_set l f g k hs] at h1
  exact h1
theorem Marks.to {B n : Nat} {w : World} {l : List Pt} {f g : Pt → Bool} (h : Marks B n w l f) (e : l.map f = l.map g) : Marks B n w l g := by
  unfold Marks at h ⊢
  rw [← boolsOf_eq e]
  exact h
theorem Marks.keep {B n : Nat} {w w' : World} {l : List Pt} {f : Pt → Bool} (h : Marks B n w l f) (hk : w'.heap[B]? = w.heap[B]?) : Marks B n w' l f :=
  owns_keep h fun g hg => by
    have e : B = g := Option.some.inj hg
    subst e; exact hk
theorem Marks.lt {B n : Nat} {w : World} {l : List Pt} {f : Pt → Bool} (h : Marks B n w l f) : B < w.heap.size := (World.ownsRow.lt h B rfl).2
theorem Arr.ints_at {w : World} {v : Value} {l : List Int} (h : Arr w 3 v (ints l)) : ∃ A c, v = .slice A l.length c ∧ l.length ≤ c ∧ c ≤ maxLen ∧ ∀ (k : Nat) (y : Int), l[k]? = some y → ∃ gb o, A = some ⟨gb, o, none⟩ ∧ gb < w.heap.size ∧ w.cell? ⟨gb, o + k, none⟩ = some (.int .i64 y) := by
  obtain ⟨A, c, rfl, h1, h2⟩ := h.len
  rw [ints_len] at h1 ⊢
  refine ⟨A, c, rfl, h1, h2, fun k y hy => ?_⟩
  obtain ⟨gb, o, cs, e, hbk, hcs⟩ := h.at k y hy
  exact ⟨gb, o, e, hbk.lt, (hbk.cell (o + k)).trans hcs⟩

theorem Row.ints_at {w : World} {v : Value} {l : List Int} (h : Row w v (ints l)) : ∃ A c, v = .slice A l.length c ∧ l.length ≤ c ∧ c ≤ maxLen ∧ ∀ (k : Nat) (y : Int), l[k]? = some y → ∃ gb o, A = some ⟨gb, o, none⟩ ∧ gb < w.heap.size ∧ w.cell? ⟨gb, o + k, none⟩ = some (.int .i64 y) := by
  obtain ⟨A, c, rfl, h1, h2, h0, h3⟩ := h
  rw [ints_len] at h1 ⊢
  refine ⟨A, c, rfl, h1, h2, fun k y hy => ?_⟩
  have hk : k < l.length := by
    rcases Nat.lt_or_ge k l.length with h | h
    · exact h
    · rw [List.getElem?_eq_none h] at hy; cases hy
  cases A with
  | none => have := h0 rfl; omega
  | some ad =>
    obtain ⟨z, hz⟩ : ∃ z, l[0]? = some z := ⟨_, List.getElem?_eq_getElem (by omega)⟩
    have h00 := (h3 ad rfl 0 _ (Go.Proofs.Ytmkfaibjjbgbbaa.ints_at hz)).2
    have hs : ad.spot = none := by simpa [Addr.add] using World.cell?_spot h00
    obtain ⟨b, o, sp⟩ := ad
    simp only at hs
    subst hs
    obtain ⟨h4, h5⟩ := h3 _ rfl k _ (Go.Proofs.Ytmkfaibjjbgbbaa.ints_at hy)
    rw [add_at] at h5
    exact ⟨b, o, rfl, h4, h5⟩

def hitW (g : Pt → Bool) (l : List Pt) (p : Pt) (i : Nat) : Pt → Bool := if p.written then g else hitF g l p i
theorem hitW_zero (g : Pt → Bool) (l : List Pt) (p : Pt) : hitW g l p 0 = g := by
  unfold hitW
  split
  · rfl
  · exact hitF_zero g l p
theorem hitW_end {l : List Pt} (hl : Rise l) {ids : List Int} {k : Nat} {p : Pt} (hk : l[k]? = some p) (h : markF l ids (k + 1) p = true) :
    l.map (hitW (needF (markF l ids (k + 1)) p.needs p.needs.length) l p k) = l.map (markF l ids k) := by
  unfold hitW
  cases hw : p.written with
  | true => exact markF_done hk h hw
  | false => exact markF_live hl hk h hw
theorem hitW_on {l : List Pt} (hl : Rise l) (g : Pt → Bool) {p : Pt} (hw : p.written = false) {i : Nat} {r : Pt} (h : l[i]? = some r) (hc : (!r.written && meetR r p) = true) : (l.map (hitW g l p i)).set i true = l.map (hitW g l p (i + 1)) := by
  unfold hitW; rw [hw]; exact hitF_on hl g p h hc
theorem hitW_off {l : List Pt} (hl : Rise l) (g : Pt → Bool) {p : Pt} (hw : p.written = false) {i : Nat} {r : Pt} (h : l[i]? = some r) (hc : (!r.written && meetR r p) = false) : l.map (hitW g l p (i + 1)) = l.map (hitW g l p i) := by
  unfold hitW; rw [hw]; exact hitF_off hl g p h hc
theorem hitW_stop (g : Pt → Bool) (l : List Pt) {p : Pt} (hw : p.written = true) (i k : Nat) : hitW g l p i = hitW g l p k := by unfold hitW; rw [hw]; rfl

set_option maxHeartbeats 16000000 in
set_option maxRecDepth 100000 in
theorem rneededR_any (b : Nat) (x : G) (v : Value) (ids : List Int) (w : World) (h : RG w b x) (hF : Fine x) (hv : Row w v (ints ids)) :
    Calls Try.prog 70 #[.pointer (some ⟨b, 0, none⟩), v] w fun e w' => ∃ r, e = .returned r ∧ Built w.heap.size w' r (neededG x ids) ∧ Below w.heap.size w w' := by
  obtain ⟨i0, hi0, hz0, hz1, hz2⟩ := info_parts info4
  have HG := Lib.hid h
  have hxl := hF.len
  have HFn := Lib.hid hF
  obtain ⟨lv, hb, hl⟩ := h
  obtain ⟨A, c, rfl, hc1, hc2⟩ := hl.len
  obtain ⟨Av, cv, rfl, hv1, hv2, hv3⟩ := hv.ints_at
  have HV := Lib.hid hv3
  have HL := Lib.hid hl
  have HBk := Lib.hid hb
  have hbc := hb.cell 1
  simp at hbc
  unfold maxLen at hc2 hv2
  obtain ⟨w1, hmk, hown, hgr⟩ := run_make_full (P := Try.prog) w w.heap.size 101 4 i0 (.bool false) 1 Try.underlying101 hi0 hz0 hz1 .i64 .i64 x.l.length (by rw [hz2]; omega) (by unfold maxLen; omega) (Nat.le_refl _)
  have e0 : (madeCells (Value.bool false).cells (x.l.length * 1)).toList = boolsOf x.l (firstF ids 0) := by
    rw [show (Value.bool false).cells = #[.bool false] from rfl, toList_madeCells_one]
    apply List.ext_getElem?
    intro i
    unfold boolsOf firstF
    simp [List.getElem?_replicate]
    split
    · rename_i hi
      rw [List.getElem?_eq_getElem hi]; rfl
    · rename_i hi
      rw [List.getElem?_eq_none (by omega)]; rfl
  rw [e0] at hown
  have HB1 := Lib.hid (show Below w.heap.size w w1 from ⟨hgr.os, hgr.tape, hgr.output, hgr.size, fun i hi => hgr.block i hi (by simp)⟩)
  have HO1 := Lib.hid (show Marks w.heap.size x.l.length w1 x.l (firstF ids 0) from hown)
  have HFd := Lib.hid fun (id : Int) (W : World) (hW : Below w.heap.size w W) => rfind_any b x id W (HG.out.below hW)
  have hbl : b < w.heap.size := hb.lt
  clear hb hl hv hv3 hF hown hgr e0
  go_enter Try.func70, Try.ntmps70
  go_wp2_with fail
  go_loopw [6] (fun i wr => ∃ j : Nat, j ≤ ids.length ∧ i = .int .i64 j ∧ Marks w.heap.size x.l.length wr x.l (firstF ids j) ∧ Below w.heap.size w wr) (fun i _ => ids.length - (intOf i).toNat)
  case atStart => exact ⟨0, Nat.zero_le _, rfl, HO1.out, HB1.out⟩
  case round =>
    rename World => wo
    obtain ⟨j, hj, rfl, hO, hbel⟩ := hrel
    have HO := Lib.hid hO
    have HB := Lib.hid hbel
    have hsz := hbel.size
    have hBl : w.heap.size < wo.heap.size := hO.lt
    by_cases hlt : j < ids.length
    · obtain ⟨y, hy⟩ : ∃ y, ids[j]? = some y := ⟨_, List.getElem?_eq_getElem hlt⟩
      obtain ⟨gb, o, rfl, hgb, hcy⟩ := HV.out j y hy
      have hc1' : wo.cell? ⟨gb, o + j, none⟩ = some (.int .i64 y) := (hbel.cell (p := ⟨gb, o + j, none⟩) hgb).trans hcy
      have hFy := HFd.out y wo hbel
      have hm := mark_id x HFn.out.rise (firstF ids j) y
      rw [← firstF_on hy] at hm
      clear hO hbel hcy hy
      rcases hm with ⟨hfi, hmp⟩ | ⟨k, hk, hfi, hmp⟩
      · rw [hfi] at hFy
        have HFy := Lib.hid hFy
        have HM := Lib.hid (HO.out.to hmp.symm)
        clear hFy hfi hmp
        go_wp2_with fail
        refine HFy.out.mono ?_
        rintro e w7 ⟨rfl, hw7⟩
        subst hw7
        go_wp2
        go_roundw
        case rel => exact ⟨j + 1, by omega, by go_num, HM.out, HB.out⟩
        case measure => simp [intOf]; omega
      · rw [hfi] at hFy
        have HFy := Lib.hid hFy
        have HM := Lib.hid (HO.out.store k hmp)
        have hf0 := HO.out.frozen k
        obtain ⟨pk, hpk⟩ : ∃ p, x.l[k]? = some p := ⟨_, List.getElem?_eq_getElem hk⟩
        have hck := HO.out.cell rfl hpk
        have HBs := Lib.hid (HB.out.setCell (p := ⟨w.heap.size, k, none⟩) (Nat.le_refl _) (.bool true))
        clear hFy hfi hmp hpk
        go_wp2_with fail
        refine HFy.out.mono ?_
        rintro e w7 ⟨rfl, hw7⟩
        subst hw7
        go_wp2
        go_roundw
        case rel => exact ⟨j + 1, by omega, by go_num, HM.out, HBs.out⟩
        case measure => simp [intOf]; omega
    · obtain rfl : j = ids.length := by omega
      have hbcw : wo.cell? ⟨b, 1, none⟩ = some (.slice A x.l.length c) := (hbel.cell (p := ⟨b, 1, none⟩) hbl).trans hbc
      have HO2 := Lib.hid (show Marks w.heap.size x.l.length wo x.l (markF x.l ids x.l.length) from by rw [markF_all]; exact hO)
      clear hO hbel HO hBl hmk
      go_wp2_with fail
      go_loopw [8] (fun i wr => ∃ m : Nat, m ≤ x.l.length ∧ i = .int .i64 ((m : Int) - 1) ∧ Marks w.heap.size x.l.length wr x.l (markF x.l ids m) ∧ Below w.heap.size w wr) (fun i _ => (intOf i + 1).toNat)
      case atStart => exact ⟨x.l.length, Nat.le_refl _, rfl, HO2.out, HB.out⟩
      case round =>
        clear hbcw HO2 HB hsz
        rename World => wp
        obtain ⟨m, hm, rfl, hO, hbel⟩ := hrel
        have HO := Lib.hid hO
        have HB := Lib.hid hbel
        have hsz := hbel.size
        have hBl : w.heap.size < wp.heap.size := hO.lt
        cases m with
        | zero =>
          clear hO hbel
          have e1 : (((0 : Nat) : Int) - 1) = -1 := by omega
          rw [e1]
          have HP := Lib.hid (markF_end HFn.out.rise (fun p hp => (HFn.out.all p hp).2.2.1) ids)
          generalize markF x.l ids 0 = q at *
          go_wp2_with fail
          go_loopw [13, 14] (fun v i wr => ∃ j : Nat, j ≤ x.l.length ∧ i = .int .i64 j ∧ Built wp.heap.size wr v (pick x.l q j) ∧ Below wp.heap.size wp wr) (fun _ i _ => x.l.length - (intOf i).toNat)
          case atStart => exact ⟨0, Nat.zero_le _, rfl, World.ownsRow_made wp #[] 0 (Nat.le_refl _) (Nat.zero_le _) rfl, (Below.refl _ _).alloc (Nat.le_refl _) _⟩
          case round =>
            obtain ⟨j, hj, rfl, hR, hbw⟩ := hrel
            have HR := Lib.hid hR
            have HW := Lib.hid hbw
            have hszw := hbw.size
            have hWw := HB.out.trans (hbw.mono hsz)
            have hbcw : wr.cell? ⟨b, 1, none⟩ = some (.slice A x.l.length c) := (hWw.cell (p := ⟨b, 1, none⟩) hbl).trans hbc
            by_cases hlt2 : j < x.l.length
            · obtain ⟨p, hp⟩ : ∃ p, x.l[j]? = some p := ⟨_, List.getElem?_eq_getElem hlt2⟩
              obtain ⟨g, c', A1, k1, A2, k2, e, hpc, hpv, hgp⟩ := HL.out.at hp
              injection e with e1 e2 e3
              subst e1 e3
              clear e2
              have y0 : wr.cell? ⟨g, j * 9, none⟩ = some (.int .i64 p.id) := (hWw.cell (p := ⟨g, j * 9, none⟩) hgp).trans (hpc 0 _ rfl)
              have hin : wr.cell? ⟨w.heap.size, j, none⟩ = some (.bool (q p)) := (hbw.cell (p := ⟨w.heap.size, j, none⟩) hBl).trans (HO.out.cell rfl hp)
              have hpl := pick_len x.l q j
              cases hq : q p with
              | true =>
                have HPk := Lib.hid (pick_on hp hq)
                rw [hq] at hin
                clear hR hbw hpc hpv hp hq hWw
                go_wp2_with (at_builtin; refine wpList_append_int rfl (.tmp 126) (.tmp 135) rfl wp.heap.size _ _ rfl (World.ownsRow.alloc HR.out _) p.id wr.heap.size 1 rfl ?c1 ?c2 ?c3 ?_)
                case c1 => exact (Blk.new wr 3 #[.int .i64 p.id]).cell 0
                case c2 => omega
                case c3 => simp; omega
                intro v' w5 hown5 hg5 _
                rw [← HPk.out] at hown5
                have HO5 := Lib.hid hown5
                have HB5 := Lib.hid ((HW.out.alloc HW.out.size (.cells #[.int .i64 p.id] 3)).grown hg5 (by have := HW.out.size; simp; omega) (fun j hj => (World.ownsRow.lt HR.out j hj).1))
                clear hown5 hg5
                go_wp2
                go_roundw
                case rel => exact ⟨j + 1, by omega, by go_num, HO5.out, HB5.out⟩
                case measure => simp [intOf]; omega
              | false =>
                have HPk := Lib.hid (pick_off hp hq)
                rw [hq] at hin
                rw [← HPk.out] at HR
                clear hR hbw hpc hpv hp hq hWw
                go_wp2
                go_roundw
                case rel => exact ⟨j + 1, by omega, by go_num, HR.out, HW.out⟩
                case measure => simp [intOf]; omega
            · obtain rfl : j = x.l.length := by omega
              rw [pick_all, HP.out] at HR
              have HWw := Lib.hid hWw
              clear hR hbw hWw
              go_wp2
              go_ret
              exact ⟨_, rfl, Built.mono HR.out (by omega), HWw.out⟩
        | succ k =>
          obtain ⟨p, hp⟩ : ∃ p, x.l[k]? = some p := ⟨_, List.getElem?_eq_getElem (by omega)⟩
          have e1 : (((k + 1 : Nat) : Int) - 1) = (k : Int) := by omega
          rw [e1]
          have hcm := hO.cell rfl hp
          cases hmk2 : markF x.l ids (k + 1) p with
          | false =>
            rw [hmk2] at hcm
            have HM := Lib.hid (show Marks w.heap.size x.l.length wp x.l (markF x.l ids k) from by rw [markF_skip hp hmk2]; exact hO)
            clear hO hbel hp hmk2 e1
            go_wp2
            go_roundw
            case rel => exact ⟨k, by omega, rfl, HM.out, HB.out⟩
            case measure => simp [intOf] <;> omega
          | true =>
            rw [hmk2] at hcm
            obtain ⟨g, c', A1, k1, A2, k2, e, hpc, hpv, hgp⟩ := HL.out.at hp
            injection e with e1 e2 e3
            subst e1 e3
            clear e2
            have hnl2 : (ints p.needs).length = p.needs.length := ints_len _
            rw [hnl2] at hpc hpv
            have mv : ∀ (j : Nat) (u : Value), (p.cells (.slice A1 (bytes p.data).length k1) (.slice A2 p.needs.length k2))[j]? = some u → wp.cell? ⟨g, k * 9 + j, none⟩ = some u := fun j u hu => (hbel.cell (p := ⟨g, k * 9 + j, none⟩) hgp).trans (hpc j u hu)
            have y0 : wp.cell? ⟨g, k * 9, none⟩ = some (.int .i64 p.id) := mv 0 _ rfl
            have y1 : wp.cell? ⟨g, k * 9 + 1, none⟩ = some (.int .i64 p.sec) := mv 1 _ rfl
            have y2 : wp.cell? ⟨g, k * 9 + 2, none⟩ = some (.int .i64 p.off) := mv 2 _ rfl
            have y3 : wp.cell? ⟨g, k * 9 + 3, none⟩ = some (.slice A1 (bytes p.data).length k1) := mv 3 _ rfl
            have y4 : wp.cell? ⟨g, k * 9 + 4, none⟩ = some (.int .i64 p.kind) := mv 4 _ rfl
            have y5 : wp.cell? ⟨g, k * 9 + 5, none⟩ = some (.slice A2 p.needs.length k2) := mv 5 _ rfl
            have y6 : wp.cell? ⟨g, k * 9 + 6, none⟩ = some (.int .i64 p.owner) := mv 6 _ rfl
            have y7 : wp.cell? ⟨g, k * 9 + 7, none⟩ = some (.int .i64 p.child) := mv 7 _ rfl
            have y8 : wp.cell? ⟨g, k * 9 + 8, none⟩ = some (.bool p.written) := mv 8 _ rfl
            have hbcw : wp.cell? ⟨b, 1, none⟩ = some (.slice (some ⟨g, 0, none⟩) x.l.length c) := (hbel.cell (p := ⟨b, 1, none⟩) hbl).trans hbc
            have hpx := List.mem_of_getElem? hp
            have hsp := (HFn.out.all p hpx).1.1
            have hnl := (HFn.out.all p hpx).2.2.2
            have HPv := Lib.hid hpv
            have hmx : p.needs.length ≤ k2 ∧ k2 ≤ 9223372036854775807 := by
              obtain ⟨A', c', e, h1, h2⟩ := hpv.parts'.2.len
              injection e with _ _ e
              subst e
              rw [ints_len] at h1
              exact ⟨h1, by unfold maxLen at h2; omega⟩
            obtain ⟨hmx1, hmx2⟩ := hmx
            have HNa := Lib.hid (hpv.parts'.2.ints_at)
            have hk0 : (0 : Int) ≤ (k : Int) := by omega
            have hk1 : (k : Int) < (x.l.length : Int) := by omega
            have HEnd := Lib.hid (show x.l.map (hitW (needF (markF x.l ids (k + 1)) p.needs p.needs.length) x.l p k) = x.l.map (markF x.l ids k) from hitW_end HFn.out.rise hp hmk2)
            have HP := Lib.hid hp
            clear hO hbel mv hpc hpv hp hmk2 e1
            generalize markF x.l ids (k + 1) = M at *
            go_wp2_with fail
            obtain ⟨w5, hw5⟩ : ∃ w5, w5 = wp.alloc (.cells #[.int .i64 p.id, .int .i64 p.sec, .int .i64 p.off, .slice A1 (bytes p.data).length k1, .int .i64 p.kind, .slice A2 p.needs.length k2, .int .i64 p.owner, .int .i64 p.child, .bool p.written] 30) := ⟨_, rfl⟩
            rw [← hw5]
            have HX5 := Lib.hid (show Blk w5 wp.heap.size 30 #[.int .i64 p.id, .int .i64 p.sec, .int .i64 p.off, .slice A1 (bytes p.data).length k1, .int .i64 p.kind, .slice A2 p.needs.length k2, .int .i64 p.owner, .int .i64 p.child, .bool p.written] from by rw [hw5]; exact Blk.new _ _ _)
            have HB5 := Lib.hid (show Below w.heap.size w w5 from by rw [hw5]; exact HB.out.alloc HB.out.size _)
            have HO5 := Lib.hid (show Marks w.heap.size x.l.length w5 x.l M from by rw [hw5]; exact HO.out.keep (Below.heap_alloc wp _ _ HO.out.lt))
            obtain ⟨b9, hb9⟩ : ∃ b9, b9 = wp.heap.size := ⟨_, rfl⟩
            rw [← hb9] at HX5 ⊢
            have hb9w : w.heap.size < b9 := by omega
            have hs5 : b9 < w5.heap.size := HX5.out.lt
            clear hw5 hb9 y0 y1 y2 y3 y4 y5 y6 y7 y8 hbcw hcm HO HB
            go_loopw [10] (fun i W => ∃ j : Nat, j ≤ p.needs.length ∧ i = .int .i64 j ∧ Marks w.heap.size x.l.length W x.l (needF M p.needs j) ∧ Turn (fun q => q = w.heap.size) w5 W) (fun i _ => p.needs.length - (intOf i).toNat)
            case atStart => exact ⟨0, Nat.zero_le _, rfl, by rw [needF_zero]; exact HO5.out, Turn.refl _ _⟩
            case round =>
              obtain ⟨j, hj, rfl, hO, hT⟩ := hrel
              have HO := Lib.hid hO
              have HT := Lib.hid hT
              have hX := HX5.out.turn hT (show ¬ b9 = w.heap.size by omega)
              have hW := HB5.out.trans (hT.below (B := w.heap.size) HB5.out.size (fun i hi e => by omega))
              have HB := Lib.hid hW
              have z5 := hX.cell 5
              have z8 := hX.cell 8
              simp at z5 z8
              have hszT := hT.size
              have hbcw : wr.cell? ⟨b, 1, none⟩ = some (.slice (some ⟨g, 0, none⟩) x.l.length c) := (hW.cell (p := ⟨b, 1, none⟩) hbl).trans hbc
              have hlB : w.heap.size < wr.heap.size := by omega
              have hlX : b9 < wr.heap.size := by omega
              by_cases hltj : j < p.needs.length
              · obtain ⟨y, hy⟩ : ∃ y, p.needs[j]? = some y := ⟨_, List.getElem?_eq_getElem hltj⟩
                obtain ⟨A', c'', e, -, -, hat⟩ := HNa.out
                injection e with e1 e2 e3
                subst e1 e3
                clear e2
                obtain ⟨gb, o, rfl, hgb, hcy⟩ := hat j y hy
                have hc1' : wr.cell? ⟨gb, o + j, none⟩ = some (.int .i64 y) := (hW.cell (p := ⟨gb, o + j, none⟩) hgb).trans hcy
                have hFy := HFd.out y wr hW
                have hm2 := mark_id x HFn.out.rise (needF M p.needs j) y
                rw [← needF_on hy] at hm2
                have HX := Lib.hid hX
                clear hO hT hW hX hcy hy hat z8
                rcases hm2 with ⟨hfi, hmp⟩ | ⟨kk, hkk, hfi, hmp⟩
                · rw [hfi] at hFy
                  have HFy := Lib.hid hFy
                  have HM := Lib.hid (HO.out.to hmp.symm)
                  clear hFy hfi hmp
                  go_wp2_with fail
                  refine HFy.out.mono ?_
                  rintro e w7 ⟨rfl, hw7⟩
                  subst hw7
                  go_wp2
                  go_roundw
                  case rel => exact ⟨j + 1, by omega, by go_num, HM.out, HT.out⟩
                  case measure => simp [intOf]; omega
                · rw [hfi] at hFy
                  have HFy := Lib.hid hFy
                  have HM := Lib.hid (HO.out.store kk hmp)
                  have hf0 := HO.out.frozen kk
                  obtain ⟨pk, hpk⟩ : ∃ p, x.l[kk]? = some p := ⟨_, List.getElem?_eq_getElem hkk⟩
                  have hck := HO.out.cell rfl hpk
                  have HTs := Lib.hid (HT.out.setCell (p := ⟨w.heap.size, kk, none⟩) (fun _ => rfl) (.bool true))
                  clear hFy hfi hmp hpk
                  go_wp2_with fail
                  refine HFy.out.mono ?_
                  rintro e w7 ⟨rfl, hw7⟩
                  subst hw7
                  go_wp2
                  go_roundw
                  case rel => exact ⟨j + 1, by omega, by go_num, HM.out, HTs.out⟩
                  case measure => simp [intOf]; omega
              · obtain rfl : j = p.needs.length := by omega
                rename World => wq
                have HX := Lib.hid hX
                clear hO hT hW hX HX5 HB5 HO5 z8
                generalize needF M p.needs p.needs.length = M2 at *
                go_wp2_with fail
                clear z5 hbcw
                go_loopw [12] (fun i W => ∃ i' : Nat, i' ≤ k ∧ i = .int .i64 i' ∧ Marks w.heap.size x.l.length W x.l (hitW M2 x.l p i') ∧ Turn (fun q => q = w.heap.size) wq W) (fun i _ => k - (intOf i).toNat)
                case atStart => exact ⟨0, Nat.zero_le _, rfl, by rw [hitW_zero]; exact HO.out, Turn.refl _ _⟩
                case round =>
                  obtain ⟨i, hi, rfl, hO, hT⟩ := hrel
                  have HO := Lib.hid hO
                  have HT4 := Lib.hid hT
                  have hX := HX.out.turn hT (show ¬ b9 = w.heap.size by omega)
                  have hW := HB.out.trans (hT.below (B := w.heap.size) HB.out.size (fun i hi e => by omega))
                  have HB4 := Lib.hid hW
                  have hszT4 := hT.size
                  have z8 := hX.cell 8
                  simp at z8
                  have hlB4 : w.heap.size < wr.heap.size := by omega
                  have hlX4 : b9 < wr.heap.size := by omega
                  by_cases hlt4 : i < k ∧ p.written = false
                  · obtain ⟨hlt4, hpw⟩ := hlt4
                    obtain ⟨r, hr⟩ : ∃ r, x.l[i]? = some r := ⟨_, List.getElem?_eq_getElem (by omega)⟩
                    obtain ⟨g', c'', B1, n1, B2, n2, e, hrc, hrv, hgr⟩ := HL.out.at hr
                    injection e with e1 e2 e3
                    injection e1 with e1
                    injection e1 with e1
                    subst e1 e3
                    clear e2
                    have hsr := (HFn.out.all r (List.mem_of_getElem? hr)).1.1
                    have HS := Lib.hid fun (W : World) (h : Below wr.heap.size wr W) => show W.cell? ⟨b, 1, none⟩ = some (.slice (some ⟨g, 0, none⟩) x.l.length c) ∧ (W.cell? ⟨g, i * 9, none⟩ = some (.int .i64 r.id) ∧ W.cell? ⟨g, i * 9 + 1, none⟩ = some (.int .i64 r.sec) ∧ W.cell? ⟨g, i * 9 + 2, none⟩ = some (.int .i64 r.off) ∧ W.cell? ⟨g, i * 9 + 3, none⟩ = some (.slice B1 (bytes r.data).length n1) ∧ W.cell? ⟨g, i * 9 + 4, none⟩ = some (.int .i64 r.kind) ∧ W.cell? ⟨g, i * 9 + 5, none⟩ = some (.slice B2 (ints r.needs).length n2) ∧ W.cell? ⟨g, i * 9 + 6, none⟩ = some (.int .i64 r.owner) ∧ W.cell? ⟨g, i * 9 + 7, none⟩ = some (.int .i64 r.child) ∧ W.cell? ⟨g, i * 9 + 8, none⟩ = some (.bool r.written)) ∧ (W.cell? ⟨b9, 0, none⟩ = some (.int .i64 p.id) ∧ W.cell? ⟨b9, 1, none⟩ = some (.int .i64 p.sec) ∧ W.cell? ⟨b9, 2, none⟩ = some (.int .i64 p.off) ∧ W.cell? ⟨b9, 3, none⟩ = some (.slice A1 (bytes p.data).length k1) ∧ W.cell? ⟨b9, 4, none⟩ = some (.int .i64 p.kind) ∧ W.cell? ⟨b9, 5, none⟩ = some (.slice A2 p.needs.length k2) ∧ W.cell? ⟨b9, 6, none⟩ = some (.int .i64 p.owner) ∧ W.cell? ⟨b9, 7, none⟩ = some (.int .i64 p.child) ∧ W.cell? ⟨b9, 8, none⟩ = some (.bool p.written)) from by
                      have hWW := hW.trans (h.mono (show w.heap.size ≤ wr.heap.size by omega))
                      have mv : ∀ (o : Nat) (u : Value), w.cell? ⟨g, o, none⟩ = some u → W.cell? ⟨g, o, none⟩ = some u := fun o u hu => (hWW.cell (p := ⟨g, o, none⟩) hgr).trans hu
                      have bx := (hX.below h hlX4).cell
                      exact ⟨(hWW.cell (p := ⟨b, 1, none⟩) hbl).trans hbc, ⟨mv _ _ (hrc 0 _ rfl), mv _ _ (hrc 1 _ rfl), mv _ _ (hrc 2 _ rfl), mv _ _ (hrc 3 _ rfl), mv _ _ (hrc 4 _ rfl), mv _ _ (hrc 5 _ rfl), mv _ _ (hrc 6 _ rfl), mv _ _ (hrc 7 _ rfl), mv _ _ (hrc 8 _ rfl)⟩, ⟨bx 0, bx 1, bx 2, bx 3, bx 4, bx 5, bx 6, bx 7, bx 8⟩⟩
                    have HM := Lib.hid fun (W : World) (h : Below wr.heap.size wr W) => rmeet_any _ _ r p W (hrv.below (hW.trans (h.mono (show w.heap.size ≤ wr.heap.size by omega)))) (HPv.out.below (hW.trans (h.mono (show w.heap.size ≤ wr.heap.size by omega)))) hsr hsp
                    have HIn := Lib.hid fun (W : World) (h : Below wr.heap.size wr W) => show W.cell? ⟨w.heap.size, i, none⟩ = some (.bool (hitW M2 x.l p i r)) ∧ W.frozen? ⟨w.heap.size, i, none⟩ = false ∧ w.heap.size < W.heap.size from by
                      have h1 := HO.out.keep (h.block _ hlB4)
                      exact ⟨h1.cell rfl hr, h1.frozen i, h1.lt⟩
                    have hd0 : Below wr.heap.size wr wr.drew := (Below.refl _ _).drew
                    have ii0 : (0 : Int) ≤ (i : Int) := by omega
                    have ii1 : (i : Int) < (x.l.length : Int) := by omega
                    have HR := Lib.hid hr
                    rw [hpw] at z8
                    have HPw := Lib.hid hpw
                    clear hO hT hX hW hrc hrv hr
                    unfold Pt.val at HM
                    cases hw : r.written with
                    | true =>
                      have HMk := Lib.hid (HO.out.to (hitW_off HFn.out.rise M2 HPw.out HR.out (show (!r.written && meetR r p) = false by rw [hw]; rfl)).symm)
                      obtain ⟨hc0, ⟨-, -, -, -, -, -, -, -, hc8⟩, -⟩ := HS.out wr (Below.refl _ _)
                      rw [hw] at hc8
                      clear hw hpw
                      go_wp2_with fail
                      go_quiet (fail)
                      go_wp2
                      go_roundw
                      case rel => exact ⟨i + 1, by omega, by go_num, HMk.out.keep rfl, (by have h := HT4.out; exact ⟨h.os, h.tape, h.output, h.size, h.block⟩)⟩
                      case measure => simp [intOf]; omega
                    | false =>
                      have HS2 := Lib.hid fun (W : World) (h : Below wr.heap.size wr W) => (show W.cell? ⟨b, 1, none⟩ = some (.slice (some ⟨g, 0, none⟩) x.l.length c) ∧ (W.cell? ⟨g, i * 9, none⟩ = some (.int .i64 r.id) ∧ W.cell? ⟨g, i * 9 + 1, none⟩ = some (.int .i64 r.sec) ∧ W.cell? ⟨g, i * 9 + 2, none⟩ = some (.int .i64 r.off) ∧ W.cell? ⟨g, i * 9 + 3, none⟩ = some (.slice B1 (bytes r.data).length n1) ∧ W.cell? ⟨g, i * 9 + 4, none⟩ = some (.int .i64 r.kind) ∧ W.cell? ⟨g, i * 9 + 5, none⟩ = some (.slice B2 (ints r.needs).length n2) ∧ W.cell? ⟨g, i * 9 + 6, none⟩ = some (.int .i64 r.owner) ∧ W.cell? ⟨g, i * 9 + 7, none⟩ = some (.int .i64 r.child) ∧ W.cell? ⟨g, i * 9 + 8, none⟩ = some (.bool false)) ∧ (W.cell? ⟨b9, 0, none⟩ = some (.int .i64 p.id) ∧ W.cell? ⟨b9, 1, none⟩ = some (.int .i64 p.sec) ∧ W.cell? ⟨b9, 2, none⟩ = some (.int .i64 p.off) ∧ W.cell? ⟨b9, 3, none⟩ = some (.slice A1 (bytes p.data).length k1) ∧ W.cell? ⟨b9, 4, none⟩ = some (.int .i64 p.kind) ∧ W.cell? ⟨b9, 5, none⟩ = some (.slice A2 p.needs.length k2) ∧ W.cell? ⟨b9, 6, none⟩ = some (.int .i64 p.owner) ∧ W.cell? ⟨b9, 7, none⟩ = some (.int .i64 p.child) ∧ W.cell? ⟨b9, 8, none⟩ = some (.bool false)) from by have h1 := HS.out W h; rw [hw, hpw] at h1; exact h1)
                      cases hm : meetR r p with
                      | true =>
                        have HMk := Lib.hid fun (W : World) (h : Below wr.heap.size wr W) => (HO.out.keep (h.block _ hlB4)).store i (hitW_on HFn.out.rise M2 HPw.out HR.out (show (!r.written && meetR r p) = true by rw [hw, hm]; rfl))
                        rw [hm, hw, hpw] at HM
                        clear hw hm HS hpw
                        go_wp2_with fail
                        go_region_held3 (fun W => W.cell? ⟨b, 1, none⟩ = some (.slice (some ⟨g, 0, none⟩) x.l.length c) ∧ (W.cell? ⟨g, i * 9, none⟩ = some (.int .i64 r.id) ∧ W.cell? ⟨g, i * 9 + 1, none⟩ = some (.int .i64 r.sec) ∧ W.cell? ⟨g, i * 9 + 2, none⟩ = some (.int .i64 r.off) ∧ W.cell? ⟨g, i * 9 + 3, none⟩ = some (.slice B1 (bytes r.data).length n1) ∧ W.cell? ⟨g, i * 9 + 4, none⟩ = some (.int .i64 r.kind) ∧ W.cell? ⟨g, i * 9 + 5, none⟩ = some (.slice B2 (ints r.needs).length n2) ∧ W.cell? ⟨g, i * 9 + 6, none⟩ = some (.int .i64 r.owner) ∧ W.cell? ⟨g, i * 9 + 7, none⟩ = some (.int .i64 r.child) ∧ W.cell? ⟨g, i * 9 + 8, none⟩ = some (.bool false)) ∧ (W.cell? ⟨b9, 0, none⟩ = some (.int .i64 p.id) ∧ W.cell? ⟨b9, 1, none⟩ = some (.int .i64 p.sec) ∧ W.cell? ⟨b9, 2, none⟩ = some (.int .i64 p.off) ∧ W.cell? ⟨b9, 3, none⟩ = some (.slice A1 (bytes p.data).length k1) ∧ W.cell? ⟨b9, 4, none⟩ = some (.int .i64 p.kind) ∧ W.cell? ⟨b9, 5, none⟩ = some (.slice A2 p.needs.length k2) ∧ W.cell? ⟨b9, 6, none⟩ = some (.int .i64 p.owner) ∧ W.cell? ⟨b9, 7, none⟩ = some (.int .i64 p.child) ∧ W.cell? ⟨b9, 8, none⟩ = some (.bool false)))
                          (first | exact HS2.out _ hd0 | exact HS2.out _ hb3)
                          (first | (go_at_call 100; refine (HM.out _ hd0).mono ?_; rintro e w3 ⟨rfl, hb3'⟩; have hb3 := hd0.trans (hb3'.mono hd0.size)))
                        obtain ⟨ci, fi, li⟩ := HIn.out _ hb3
                        have HMk3 := Lib.hid (HMk.out _ hb3)
                        have HT5 := Lib.hid ((HT4.out.trans (Turn.of_below (S := fun _ => False) hb3) (fun _ _ e => e.elim)).setCell (p := ⟨w.heap.size, i, none⟩) (fun _ => rfl) (.bool true))
                        clear hb3 hb3'
                        go_wp2
                        go_roundw
                        case rel => exact ⟨i + 1, by omega, by go_num, HMk3.out, HT5.out⟩
                        case measure => simp [intOf]; omega
                      | false =>
                        have HMk := Lib.hid (HO.out.to (hitW_off HFn.out.rise M2 HPw.out HR.out (show (!r.written && meetR r p) = false by rw [hw, hm]; rfl)).symm)
                        rw [hm, hw, hpw] at HM
                        clear hw hm HS hpw
                        go_wp2_with fail
                        go_region_held3 (fun W => W.cell? ⟨b, 1, none⟩ = some (.slice (some ⟨g, 0, none⟩) x.l.length c) ∧ (W.cell? ⟨g, i * 9, none⟩ = some (.int .i64 r.id) ∧ W.cell? ⟨g, i * 9 + 1, none⟩ = some (.int .i64 r.sec) ∧ W.cell? ⟨g, i * 9 + 2, none⟩ = some (.int .i64 r.off) ∧ W.cell? ⟨g, i * 9 + 3, none⟩ = some (.slice B1 (bytes r.data).length n1) ∧ W.cell? ⟨g, i * 9 + 4, none⟩ = some (.int .i64 r.kind) ∧ W.cell? ⟨g, i * 9 + 5, none⟩ = some (.slice B2 (ints r.needs).length n2) ∧ W.cell? ⟨g, i * 9 + 6, none⟩ = some (.int .i64 r.owner) ∧ W.cell? ⟨g, i * 9 + 7, none⟩ = some (.int .i64 r.child) ∧ W.cell? ⟨g, i * 9 + 8, none⟩ = some (.bool false)) ∧ (W.cell? ⟨b9, 0, none⟩ = some (.int .i64 p.id) ∧ W.cell? ⟨b9, 1, none⟩ = some (.int .i64 p.sec) ∧ W.cell? ⟨b9, 2, none⟩ = some (.int .i64 p.off) ∧ W.cell? ⟨b9, 3, none⟩ = some (.slice A1 (bytes p.data).length k1) ∧ W.cell? ⟨b9, 4, none⟩ = some (.int .i64 p.kind) ∧ W.cell? ⟨b9, 5, none⟩ = some (.slice A2 p.needs.length k2) ∧ W.cell? ⟨b9, 6, none⟩ = some (.int .i64 p.owner) ∧ W.cell? ⟨b9, 7, none⟩ = some (.int .i64 p.child) ∧ W.cell? ⟨b9, 8, none⟩ = some (.bool false)))
                          (first | exact HS2.out _ hd0 | exact HS2.out _ hb3)
                          (first | (go_at_call 100; refine (HM.out _ hd0).mono ?_; rintro e w3 ⟨rfl, hb3'⟩; have hb3 := hd0.trans (hb3'.mono hd0.size)))
                        have HMk3 := Lib.hid (HMk.out.keep (hb3.block _ hlB4))
                        have HT5 := Lib.hid (HT4.out.trans (Turn.of_below (S := fun _ => False) hb3) (fun _ _ e => e.elim))
                        clear hb3 hb3'
                        go_wp2
                        go_roundw
                        case rel => exact ⟨i + 1, by omega, by go_num, HMk3.out, HT5.out⟩
                        case measure => simp [intOf]; omega
                  · have HMk := Lib.hid (show Marks w.heap.size x.l.length wr x.l (markF x.l ids k) from by
                      refine Marks.to ?_ HEnd.out
                      by_cases h : i < k
                      · have hw : p.written = true := by
                          cases hw : p.written with
                          | true => rfl
                          | false => exact absurd ⟨h, hw⟩ hlt4
                        rw [hitW_stop M2 x.l hw k i]
                        exact hO
                      · obtain rfl : i = k := by omega
                        exact hO)
                    have hcases : (¬ i < k) ∨ (i < k ∧ p.written = true) := by
                      by_cases h : i < k
                      · right
                        refine ⟨h, ?_⟩
                        cases hw : p.written with
                        | true => rfl
                        | false => exact absurd ⟨h, hw⟩ hlt4
                      · exact .inl h
                    clear hlt4 hO hT hX hW
                    rcases hcases with hge | ⟨hlt4, hpw⟩
                    · go_wp2
                      go_roundw
                      case rel => exact ⟨k, by omega, rfl, HMk.out, HB4.out⟩
                      case measure => simp [intOf] <;> omega
                    · rw [hpw] at z8
                      clear hpw
                      go_wp2
                      go_roundw
                      case rel => exact ⟨k, by omega, rfl, HMk.out, HB4.out⟩
                      case measure => simp [intOf] <;> omega
theorem rneeded_any (b : Nat) (x : G) (v : Value) (ids : List Int) (w : World) (h : RG w b x) (hF : Fine x) (hv : Arr w 3 v (ints ids)) :
    Calls Try.prog 70 #[.pointer (some ⟨b, 0, none⟩), v] w fun e w' => ∃ r, e = .returned r ∧ Built w.heap.size w' r (neededG x ids) ∧ Below w.heap.size w w' := rneededR_any b x v ids w h hF (Row.of_arr hv)
end Go.Proofs.Ytmkfaibjjbgbbaa
namespace Go.Proofs.Ytmkfaibjjbgbbaa
open Go.RowKit
set_option linter.unusedVariables false
attribute [local go_sem ↓] Go.wp_at_zero Go.wp_at_succ

theorem slice_from (w : World) (g o m cap j : Nat) (h1 : j ≤ m) (h2 : m ≤ cap) : (Instr.slice 28 (.slice (some ⟨g, o, none⟩) m cap) (some (.int .i64 j)) none none).run Try.prog w = .ok (.slice (some ⟨g, if cap = j then o else o + j, none⟩) (m - j) (cap - j)) w := by
  have h3 : (j : Int) ≤ (m : Int) := by omega
  by_cases hc : cap = j
  · simp [Try.underlying28, go_sem, h3, hc]
  · simp [Try.underlying28, go_sem, h3, hc]
theorem slice_to (w : World) (g o m cap j : Nat) (h1 : j ≤ m) (h2 : m ≤ cap) : (Instr.slice 28 (.slice (some ⟨g, o, none⟩) m cap) none (some (.int .i64 j)) none).run Try.prog w = .ok (.slice (some ⟨g, o, none⟩) j cap) w := by
  have h3 : (j : Int) ≤ (cap : Int) := by omega
  by_cases hc : cap = 0
  · obtain rfl : j = 0 := by omega
    simp [Try.underlying28, go_sem, hc]
  · simp [Try.underlying28, go_sem, h3, hc]

theorem one_cells (V : World) (y : Int) : ∀ (ad : Addr), some (⟨V.heap.size, 0, none⟩ : Addr) = some ad → ∀ (j : Nat) (u : Value), (ints [y])[j]? = some u → (V.alloc (.cells #[.int .i64 y] 3)).cell? (ad.add j) = some u := fun ad h j u hu => by
  cases h
  exact one_new V 3 (.int .i64 y) j u hu
theorem ins_ints (M : List Int) (a : Int) (j : Nat) (hp : posS M a = j) (hn : M[j]? ≠ some a) : ints (M.take j) ++ ints [a] ++ ints (M.drop j) = ints (insS M a) := by
  unfold insS
  rw [hp, if_neg hn]
  unfold ints
  simp
theorem ins_same (M : List Int) (a : Int) (j : Nat) (hp : posS M a = j) (hn : M[j]? = some a) : insS M a = M := by
  unfold insS
  rw [hp, if_pos hn]
theorem ins_len2 (M : List Int) (a : Int) (j : Nat) (hj : j ≤ M.length) (hp : posS M a = j) (hn : M[j]? ≠ some a) : (insS M a).length = j + 1 + (M.length - j) := by
  unfold insS
  rw [hp, if_neg hn]
  simp
  omega

set_option maxHeartbeats 8000000 in
set_option maxRecDepth 100000 in
theorem rsectors_any (b : Nat) (x : G) (w : World) (h : RG w b x) (hxl : x.l.length ≤ 1000) :
    Calls Try.prog 67 #[.pointer (some ⟨b, 0, none⟩)] w fun e w' => ∃ r, e = .returned r ∧ Built w.heap.size w' r (secsG x) ∧ Below w.heap.size w w' := by
  obtain ⟨i0, hi0, hz0, hz1, hz2⟩ := info_parts info3
  have HG := Lib.hid h
  obtain ⟨v, hb, hl⟩ := h
  obtain ⟨A, c, rfl, hc1, hc2⟩ := hl.len
  have HL := Lib.hid hl
  have hbc := hb.cell 1
  simp at hbc
  unfold maxLen at hc2
  have hbl : b < w.heap.size := hb.lt
  clear hb hl
  go_enter Try.func67, Try.ntmps67
  go_wp2_with fail
  go_loopw [3, 4] (fun v i wr => ∃ k : Nat, k ≤ x.l.length ∧ i = .int .i64 k ∧ Hid (∃ g0 c0, v = .slice (some ⟨g0, 0, none⟩) (secsK x.l k).length c0) ∧ Built w.heap.size wr v (secsK x.l k) ∧ Below w.heap.size w wr) (fun _ i _ => x.l.length - (intOf i).toNat)
  case atStart => exact ⟨0, Nat.zero_le _, rfl, ⟨_, _, rfl⟩, World.ownsRow_made w #[] 0 (Nat.le_refl _) (Nat.zero_le _) rfl, (Below.refl _ _).alloc (Nat.le_refl _) _⟩
  case round =>
    rename World => wo
    obtain ⟨k, hk, rfl, hform, hO, hbel⟩ := hrel
    have HO := Lib.hid hO
    have HB := Lib.hid hbel
    have hsz := hbel.size
    have hbcw : wo.cell? ⟨b, 1, none⟩ = some (.slice A x.l.length c) := (hbel.cell (p := ⟨b, 1, none⟩) hbl).trans hbc
    by_cases hlt : k < x.l.length
    · obtain ⟨p, hp⟩ : ∃ p, x.l[k]? = some p := ⟨_, List.getElem?_eq_getElem hlt⟩
      obtain ⟨g, c', A1, k1, A2, k2, e, hpc, hpv, hgp⟩ := HL.out.at hp
      injection e with e1 e2 e3
      subst e1 e3
      clear e2
      have yw : wo.cell? ⟨g, k * 9 + 8, none⟩ = some (.bool p.written) := (hbel.cell (p := ⟨g, k * 9 + 8, none⟩) hgp).trans (hpc 8 _ rfl)
      have ys : wo.cell? ⟨g, k * 9 + 1, none⟩ = some (.int .i64 p.sec) := (hbel.cell (p := ⟨g, k * 9 + 1, none⟩) hgp).trans (hpc 1 _ rfl)
      have hk0 : (0 : Int) ≤ (k : Int) := by omega
      have hk1 : (k : Int) < (x.l.length : Int) := by omega
      have hMl := secsK_len x.l k
      cases hw : p.written with
      | true =>
        have HOn := Lib.hid (secsK_off hp hw)
        have HFm := hform
        rw [hw] at yw
        rw [← HOn.out] at HO HFm
        clear hO hbel hpc hpv hp hw hform
        go_wp2
        go_roundw
        case rel => exact ⟨k + 1, by omega, by go_num, HFm, HO.out, HB.out⟩
        case measure => simp [intOf]; omega
      | false =>
        have HOn := Lib.hid (secsK_on hp hw)
        rw [hw] at yw
        obtain ⟨g0, c0, rfl⟩ := hform.out
        generalize secsK x.l k = M at *
        have HCell := Lib.hid (show ∀ (j : Nat) (y : Int), M[j]? = some y → wo.cell? ⟨g0, j, none⟩ = some (.int .i64 y) from fun j y hy => by
          have hj : j < M.length := by
            rcases Nat.lt_or_ge j M.length with h | h
            · exact h
            · rw [List.getElem?_eq_none h] at hy; cases hy
          exact (World.ownsRow.cellAt hO j (by omega)).trans (ints_at hy))
        have hcap : M.length ≤ c0 ∧ c0 ≤ 9223372036854775807 := by
          obtain ⟨A', c', e, h1, h2⟩ := hO.arr.len
          injection e with _ _ e
          subst e
          rw [ints_len] at h1
          unfold maxLen at h2
          exact ⟨h1, h2⟩
        obtain ⟨hcap1, hcap2⟩ := hcap
        have hg0 := World.ownsRow.lt hO g0 rfl
        obtain ⟨hg0a, hg0b⟩ := hg0
        have HPk := Lib.hid hp
        clear hO hbel hpc hpv hp hw hform
        go_wp2_with fail
        go_loopw [5] (fun i W => ∃ j : Nat, j ≤ M.length ∧ i = .int .i64 j ∧ (∃ n, W = wo.drewN n) ∧ Hid (∀ (j' : Nat) (y : Int), j' < j → M[j']? = some y → y < p.sec)) (fun i _ => M.length - (intOf i).toNat)
        case atStart => exact ⟨0, Nat.zero_le _, rfl, ⟨0, rfl⟩, fun j y hj => by omega⟩
        case round =>
          obtain ⟨j, hj, rfl, ⟨n, rfl⟩, hT⟩ := hrel
          have hcases : (∃ y, j < M.length ∧ M[j]? = some y ∧ y < p.sec) ∨ (∃ y, j < M.length ∧ M[j]? = some y ∧ y = p.sec) ∨ (∃ y, j < M.length ∧ M[j]? = some y ∧ p.sec < y) ∨ j = M.length := by
            rcases Nat.lt_or_ge j M.length with h | h
            · obtain ⟨y, hy⟩ : ∃ y, M[j]? = some y := ⟨_, List.getElem?_eq_getElem h⟩
              rcases Int.lt_trichotomy y p.sec with h1 | h1 | h1
              · exact .inl ⟨y, h, hy, h1⟩
              · exact .inr (.inl ⟨y, h, hy, h1⟩)
              · exact .inr (.inr (.inl ⟨y, h, hy, h1⟩))
            · exact .inr (.inr (.inr (by omega)))
          rcases hcases with ⟨y, hjl, hy, hlt2⟩ | ⟨y, hjl, hy, hlt2⟩ | ⟨y, hjl, hy, hlt2⟩ | hjl
          · have cj := HCell.out j y hy
            have HY := Lib.hid hy
            clear hy
            go_wp2
            go_quiet (fail)
            go_wp2
            go_roundw
            case rel => exact ⟨j + 1, by omega, by go_num, ⟨_, rfl⟩, fun j' z hj' hz => by
              rcases Nat.lt_or_ge j' j with h | h
              · exact hT.out j' z h hz
              · obtain rfl : j' = j := by omega
                rw [HY.out] at hz
                rw [← Option.some.inj hz]; omega⟩
            case measure => simp [intOf]; omega
          · have cj := HCell.out j y hy
            have HP := Lib.hid (pos_is M j hT.out hj (fun z hz => by rw [hy] at hz; rw [← Option.some.inj hz]; omega))
            have HF := Lib.hid (show secsK x.l (k + 1) = M from by rw [HOn.out]; exact ins_same M p.sec j HP.out (by rw [hy, hlt2]))
            subst hlt2
            have t1 : decide (p.sec < p.sec) = false := by simp
            have t2 : (p.sec != p.sec) = false := by simp
            have t3 : ((j : Int) == (M.length : Int)) = false := by simp; omega
            clear hy
            go_wp2
            go_quiet (fail)
            go_wp2
            go_quiet (fail)
            go_wp2
            go_roundw
            case rel => exact ⟨k + 1, by omega, by go_num, (by rw [HF.out]; exact ⟨_, _, rfl⟩), by rw [HF.out]; exact HO.out, (by have h := HB.out; exact ⟨h.os, h.tape, h.output, h.size, h.block⟩)⟩
            case measure => simp [intOf]; omega
          · have cj := HCell.out j y hy
            have HP := Lib.hid (pos_is M j hT.out hj (fun z hz => by rw [hy] at hz; rw [← Option.some.inj hz]; omega))
            have HN := Lib.hid (show M[j]? ≠ some p.sec from by rw [hy]; intro e; rw [Option.some.inj e] at hlt2; omega)
            have t1 : decide (y < p.sec) = false := by simp; omega
            have t2 : (y != p.sec) = true := by simp; omega
            have t3 : ((j : Int) == (M.length : Int)) = false := by simp; omega
            clear hy
            go_wp2
            go_quiet (fail)
            obtain ⟨m1, hm1⟩ : ∃ m1, m1 = nq := ⟨_, rfl⟩
            subst hm1
            go_wp2
            go_quiet (fail)
            go_wp2
            obtain ⟨W, hW⟩ : ∃ W, W = ((wo.drewN n).drewN m1).drewN nq := ⟨_, rfl⟩
            have hBW : Below wo.heap.size wo W := by rw [hW]; exact ⟨rfl, rfl, rfl, Nat.le_refl _, fun _ _ => rfl⟩
            rw [← hW]
            clear hW
            have HBW := Lib.hid hBW
            have hszW := hBW.size
            have HS := Lib.hid fun (V : World) (h : Below W.heap.size W V) => show V.cell? ⟨b, 1, none⟩ = some (.slice (some ⟨g, 0, none⟩) x.l.length c) ∧ V.cell? ⟨g, k * 9 + 1, none⟩ = some (.int .i64 p.sec) from by
              have h1 := hBW.trans (h.mono hszW)
              exact ⟨(h1.cell (p := ⟨b, 1, none⟩) (show b < wo.heap.size by omega)).trans hbcw, (h1.cell (p := ⟨g, k * 9 + 1, none⟩) (show g < wo.heap.size by omega)).trans ys⟩
            have HNT := Lib.hid fun (V : World) (h : Below W.heap.size W V) => show ∀ (ad : Addr), some (⟨g0, 0, none⟩ : Addr) = some ad → ∀ (i : Nat) (u : Value), (ints (M.take j))[i]? = some u → V.cell? (ad.add i) = some u from fun ad ha i u hu => by
              have h1 := hBW.trans (h.mono hszW)
              cases ha
              rw [add_at, Nat.zero_add]
              unfold ints at hu
              rw [List.getElem?_map] at hu
              cases hy' : (M.take j)[i]? with
              | none => rw [hy'] at hu; cases hu
              | some z =>
                rw [hy'] at hu
                rw [← Option.some.inj hu]
                rw [List.getElem?_take] at hy'
                split at hy'
                · exact (h1.cell (p := ⟨g0, i, none⟩) hg0b).trans (HCell.out i z hy')
                · cases hy'
            have hs1 := fun (V : World) => slice_to V g0 0 M.length c0 j hj hcap1
            have hs2 := fun (V : World) => slice_from V g0 0 M.length c0 j hj hcap1
            obtain ⟨o2, ho2⟩ : ∃ o2, o2 = (if c0 = j then 0 else 0 + j) := ⟨_, rfl⟩
            rw [← ho2] at hs2
            have HND := Lib.hid fun (V : World) (h : Below W.heap.size W V) => show ∀ (ad : Addr), some (⟨g0, o2, none⟩ : Addr) = some ad → ∀ (i : Nat) (u : Value), (ints (M.drop j))[i]? = some u → V.cell? (ad.add i) = some u from fun ad ha i u hu => by
              have h1 := hBW.trans (h.mono hszW)
              cases ha
              rw [add_at]
              unfold ints at hu
              rw [List.getElem?_map] at hu
              cases hy' : (M.drop j)[i]? with
              | none => rw [hy'] at hu; cases hu
              | some z =>
                rw [hy'] at hu
                rw [← Option.some.inj hu]
                rw [List.getElem?_drop] at hy'
                have hjl' : j + i < M.length := by
                  rcases Nat.lt_or_ge (j + i) M.length with h | h
                  · exact h
                  · rw [List.getElem?_eq_none h] at hy'; cases hy'
                rw [show o2 = j from by rw [ho2, if_neg (by omega), Nat.zero_add]]
                exact (h1.cell (p := ⟨g0, j + i, none⟩) hg0b).trans (HCell.out (j + i) z hy')
            have HRC := Lib.hid (show (((W.alloc (.cells #[.int .i64 p.sec] 3)).alloc (.cells #[] 3)).drew).ownsRow W.heap.size 3 1 (.slice (some ⟨W.heap.size + 1, 0, none⟩) 0 0) 0 [] from by
              have h := World.ownsRow_made (base := W.heap.size) (e := 3) (size := 1) (W.alloc (.cells #[.int .i64 p.sec] 3)) #[] 0 (by simp) (Nat.zero_le _) rfl
              have e : (W.alloc (.cells #[.int .i64 p.sec] 3)).heap.size = W.heap.size + 1 := by simp
              rw [e] at h
              exact h)
            have hd0 : Below W.heap.size W W.drew := (Below.refl _ _).drew
            have hj0 : (0 : Int) ≤ (j : Int) := by omega
            have hlT : (ints (M.take j)).length = j * 1 := by rw [ints_len, List.length_take]; omega
            have hlD : (ints (M.drop j)).length = (M.length - j) * 1 := by rw [ints_len, List.length_drop]; omega
            have HlT := Lib.hid hlT
            have HlD := Lib.hid hlD
            obtain ⟨y1, y2⟩ := HS.out W (Below.refl _ _)
            clear hBW hbcw ys ho2 hlT hlD cj
            go_region_held3 (fun V => V.cell? ⟨b, 1, none⟩ = some (.slice (some ⟨g, 0, none⟩) x.l.length c) ∧ V.cell? ⟨g, k * 9 + 1, none⟩ = some (.int .i64 p.sec))
              (first | exact HS.out _ hbe3 | exact HS.out _ hbe2 | exact HS.out _ (hbe1.alloc hbe1.size _) | exact HS.out _ hbe1 | exact HS.out _ ((hd0.alloc hd0.size _).alloc (by simp) _) | exact HS.out _ (hd0.alloc hd0.size _) | exact HS.out _ hd0)
              (first
                | (refine step_append_some rfl (.tmp 64) (.tmp 67) 28 rfl W.heap.size 3 i0 (.int .i64 0) 1 8 Try.underlying28 hi0 hz0 hz1 hz2 (by rfl) (by decide) _ 0 0 [] (by rfl) (by first | exact World.ownsRow_made W.drew #[] 0 (Nat.le_refl _) (Nat.zero_le _) rfl | exact World.ownsRow.alloc (World.ownsRow_made W.drew #[] 0 (Nat.le_refl _) (Nat.zero_le _) rfl) _ | exact HRC.out) (some ⟨g0, 0, none⟩) j c0 (ints (M.take j)) (by rfl) HlT.out (fun h => by cases h) (HNT.out _ (by first | exact hd0.alloc hd0.size _ | exact (hd0.alloc hd0.size _).alloc (by simp) _)) ints_one j (by omega) (by simp only [maxLen]; omega) (by omega) (by simp; try omega) ?_
                   intro g1 cap1 wa hown1 hgrow1 hat1 hlt1
                   rw [List.nil_append] at hown1
                   have hbe1 : Below W.heap.size W wa := by first | exact (hd0.alloc hd0.size _).grown hgrow1 (by simp) (fun j hj => by have e := Option.some.inj hj; (try simp at e); omega) | exact ((hd0.alloc hd0.size _).alloc (by simp) _).grown hgrow1 (by simp; omega) (fun j hj => by have e := Option.some.inj hj; (try simp at e); omega)
                   first
                     | have hC1 := grown_new (k := W.heap.size + 1) hgrow1 (by simp <;> omega) (by simp <;> omega) (fun ad h j u hu => one_cells (W.drew.alloc (.cells #[] 3)) p.sec ad (by simpa using h) j u hu)
                     | have hC1 := grown_new (k := W.heap.size) hgrow1 (by simp <;> omega) (by simp <;> omega) (fun ad h j u hu => (((Below.refl _ _).alloc (Nat.le_refl _) (.cells #[] 3)).cell (p := ad.add j) (by cases h; rw [add_block]; simp)).trans (one_cells W.drew p.sec ad h j u hu))
                     | skip)
                | (refine step_append_some rfl (.tmp 68) (.tmp 77) 28 rfl W.heap.size 3 i0 (.int .i64 0) 1 8 Try.underlying28 hi0 hz0 hz1 hz2 (by rfl) (by decide) g1 cap1 j (ints (M.take j)) (by rfl) (by first | exact hown1 | exact World.ownsRow.alloc hown1 _) (some ⟨_, 0, none⟩) 1 1 (ints [p.sec]) (by rfl) (by rfl) (fun h => by cases h) (by first | exact hC1 | exact one_cells wa p.sec) ints_one (j + 1) rfl (by simp only [maxLen]; omega) (by omega) (by have := hbe1.size; first | omega | (simp; omega)) ?_
                   intro g2 cap2 wb hown2 hgrow2 hat2 hlt2
                   have hg1b : W.heap.size ≤ g1 := (World.ownsRow.lt hown1 g1 rfl).1
                   have hbe2 : Below W.heap.size W wb := by first | exact hbe1.grown hgrow2 hbe1.size (fun j hj => by have e := Option.some.inj hj; omega) | exact (hbe1.alloc hbe1.size _).grown hgrow2 (by have := hbe1.size; simp; omega) (fun j hj => by have e := Option.some.inj hj; omega))
                | (refine step_append_some rfl (.tmp 78) (.tmp 81) 28 rfl W.heap.size 3 i0 (.int .i64 0) 1 8 Try.underlying28 hi0 hz0 hz1 hz2 (by rfl) (by decide) g2 cap2 (j + 1) (ints (M.take j) ++ ints [p.sec]) (by rfl) hown2 (some ⟨g0, o2, none⟩) (M.length - j) (c0 - j) (ints (M.drop j)) (by rfl) HlD.out (fun h => by cases h) (HND.out _ hbe2) ints_one (j + 1 + (M.length - j)) rfl (by simp only [maxLen]; omega) (by omega) hbe2.size ?_
                   intro g3 cap3 wc hown3 hgrow3 hat3 hlt3
                   have hg2b : W.heap.size ≤ g2 := (World.ownsRow.lt hown2 g2 rfl).1
                   have hbe3 : Below W.heap.size W wc := hbe2.grown hgrow3 hbe2.size (fun j hj => by have e := Option.some.inj hj; omega)))
            all_goals
              have hR3 : Built W.heap.size wc (.slice (some ⟨g3, 0, none⟩) (j + 1 + (M.length - j)) cap3) (insS M p.sec) := by
                unfold Built
                rw [← ins_ints M p.sec j HP.out HN.out, ins_len2 M p.sec j hj HP.out HN.out]
                exact hown3
              have HR3 := Lib.hid (Built.mono (B' := w.heap.size) hR3 (by omega))
              have HB3 := Lib.hid (HB.out.trans ((HBW.out.trans (hbe3.mono hszW)).mono hsz))
              have HLn := Lib.hid (ins_len2 M p.sec j hj HP.out HN.out)
              clear hown1 hgrow1 hat1 hown2 hgrow2 hat2 hown3 hgrow3 hat3 hbe1 hbe2 hbe3 hR3
              go_wp2
              go_roundw
              case rel => exact ⟨k + 1, by omega, by go_num, ⟨_, _, by rw [HOn.out, HLn.out]⟩, by rw [HOn.out]; exact HR3.out, HB3.out⟩
              case measure => simp [intOf]; omega
          · have HP := Lib.hid (pos_is M j hT.out hj (fun z hz => by rw [List.getElem?_eq_none (by omega)] at hz; cases hz))
            have HN := Lib.hid (show M[j]? ≠ some p.sec from by rw [List.getElem?_eq_none (by omega)]; intro e; cases e)
            have t1 : decide ((j : Int) < (M.length : Int)) = false := by simp; omega
            have t2 : decide (j < M.length) = false := by simp; omega
            have t3 : ((j : Int) == (M.length : Int)) = true := by simp; omega
            have hge : M.length ≤ j := by omega
            clear hjl
            go_wp2
            go_quiet (fail)
            obtain ⟨m1, hm1⟩ : ∃ m1, m1 = nq := ⟨_, rfl⟩
            subst hm1
            go_wp2
            go_quiet (fail)
            go_wp2
            obtain ⟨W, hW⟩ : ∃ W, W = ((wo.drewN n).drewN m1).drewN nq := ⟨_, rfl⟩
            have hBW : Below wo.heap.size wo W := by rw [hW]; exact ⟨rfl, rfl, rfl, Nat.le_refl _, fun _ _ => rfl⟩
            rw [← hW]
            clear hW
            have HBW := Lib.hid hBW
            have hszW := hBW.size
            have HS := Lib.hid fun (V : World) (h : Below W.heap.size W V) => show V.cell? ⟨b, 1, none⟩ = some (.slice (some ⟨g, 0, none⟩) x.l.length c) ∧ V.cell? ⟨g, k * 9 + 1, none⟩ = some (.int .i64 p.sec) from by
              have h1 := hBW.trans (h.mono hszW)
              exact ⟨(h1.cell (p := ⟨b, 1, none⟩) (show b < wo.heap.size by omega)).trans hbcw, (h1.cell (p := ⟨g, k * 9 + 1, none⟩) (show g < wo.heap.size by omega)).trans ys⟩
            have HNT := Lib.hid fun (V : World) (h : Below W.heap.size W V) => show ∀ (ad : Addr), some (⟨g0, 0, none⟩ : Addr) = some ad → ∀ (i : Nat) (u : Value), (ints (M.take j))[i]? = some u → V.cell? (ad.add i) = some u from fun ad ha i u hu => by
              have h1 := hBW.trans (h.mono hszW)
              cases ha
              rw [add_at, Nat.zero_add]
              unfold ints at hu
              rw [List.getElem?_map] at hu
              cases hy' : (M.take j)[i]? with
              | none => rw [hy'] at hu; cases hu
              | some z =>
                rw [hy'] at hu
                rw [← Option.some.inj hu]
                rw [List.getElem?_take] at hy'
                split at hy'
                · exact (h1.cell (p := ⟨g0, i, none⟩) hg0b).trans (HCell.out i z hy')
                · cases hy'
            have hs1 := fun (V : World) => slice_to V g0 0 M.length c0 j hj hcap1
            have hs2 := fun (V : World) => slice_from V g0 0 M.length c0 j hj hcap1
            obtain ⟨o2, ho2⟩ : ∃ o2, o2 = (if c0 = j then 0 else 0 + j) := ⟨_, rfl⟩
            rw [← ho2] at hs2
            have HND := Lib.hid fun (V : World) (h : Below W.heap.size W V) => show ∀ (ad : Addr), some (⟨g0, o2, none⟩ : Addr) = some ad → ∀ (i : Nat) (u : Value), (ints (M.drop j))[i]? = some u → V.cell? (ad.add i) = some u from fun ad ha i u hu => by
              have h1 := hBW.trans (h.mono hszW)
              cases ha
              rw [add_at]
              unfold ints at hu
              rw [List.getElem?_map] at hu
              cases hy' : (M.drop j)[i]? with
              | none => rw [hy'] at hu; cases hu
              | some z =>
                rw [hy'] at hu
                rw [← Option.some.inj hu]
                rw [List.getElem?_drop] at hy'
                have hjl' : j + i < M.length := by
                  rcases Nat.lt_or_ge (j + i) M.length with h | h
                  · exact h
                  · rw [List.getElem?_eq_none h] at hy'; cases hy'
                rw [show o2 = j from by rw [ho2, if_neg (by omega), Nat.zero_add]]
                exact (h1.cell (p := ⟨g0, j + i, none⟩) hg0b).trans (HCell.out (j + i) z hy')
            have HRC := Lib.hid (show (((W.alloc (.cells #[.int .i64 p.sec] 3)).alloc (.cells #[] 3)).drew).ownsRow W.heap.size 3 1 (.slice (some ⟨W.heap.size + 1, 0, none⟩) 0 0) 0 [] from by
              have h := World.ownsRow_made (base := W.heap.size) (e := 3) (size := 1) (W.alloc (.cells #[.int .i64 p.sec] 3)) #[] 0 (by simp) (Nat.zero_le _) rfl
              have e : (W.alloc (.cells #[.int .i64 p.sec] 3)).heap.size = W.heap.size + 1 := by simp
              rw [e] at h
              exact h)
            have hd0 : Below W.heap.size W W.drew := (Below.refl _ _).drew
            have hj0 : (0 : Int) ≤ (j : Int) := by omega
            have hlT : (ints (M.take j)).length = j * 1 := by rw [ints_len, List.length_take]; omega
            have hlD : (ints (M.drop j)).length = (M.length - j) * 1 := by rw [ints_len, List.length_drop]; omega
            have HlT := Lib.hid hlT
            have HlD := Lib.hid hlD
            obtain ⟨y1, y2⟩ := HS.out W (Below.refl _ _)
            clear hBW hbcw ys ho2 hlT hlD t1 t2 hge
            go_region_held3 (fun V => V.cell? ⟨b, 1, none⟩ = some (.slice (some ⟨g, 0, none⟩) x.l.length c) ∧ V.cell? ⟨g, k * 9 + 1, none⟩ = some (.int .i64 p.sec))
              (first | exact HS.out _ hbe3 | exact HS.out _ hbe2 | exact HS.out _ (hbe1.alloc hbe1.size _) | exact HS.out _ hbe1 | exact HS.out _ ((hd0.alloc hd0.size _).alloc (by simp) _) | exact HS.out _ (hd0.alloc hd0.size _) | exact HS.out _ hd0)
              (first
                | (refine step_append_some rfl (.tmp 64) (.tmp 67) 28 rfl W.heap.size 3 i0 (.int .i64 0) 1 8 Try.underlying28 hi0 hz0 hz1 hz2 (by rfl) (by decide) _ 0 0 [] (by rfl) (by first | exact World.ownsRow_made W.drew #[] 0 (Nat.le_refl _) (Nat.zero_le _) rfl | exact World.ownsRow.alloc (World.ownsRow_made W.drew #[] 0 (Nat.le_refl _) (Nat.zero_le _) rfl) _ | exact HRC.out) (some ⟨g0, 0, none⟩) j c0 (ints (M.take j)) (by rfl) HlT.out (fun h => by cases h) (HNT.out _ (by first | exact hd0.alloc hd0.size _ | exact (hd0.alloc hd0.size _).alloc (by simp) _)) ints_one j (by omega) (by simp only [maxLen]; omega) (by omega) (by simp; try omega) ?_
                   intro g1 cap1 wa hown1 hgrow1 hat1 hlt1
                   rw [List.nil_append] at hown1
                   have hbe1 : Below W.heap.size W wa := by first | exact (hd0.alloc hd0.size _).grown hgrow1 (by simp) (fun j hj => by have e := Option.some.inj hj; (try simp at e); omega) | exact ((hd0.alloc hd0.size _).alloc (by simp) _).grown hgrow1 (by simp; omega) (fun j hj => by have e := Option.some.inj hj; (try simp at e); omega)
                   first
                     | have hC1 := grown_new (k := W.heap.size + 1) hgrow1 (by simp <;> omega) (by simp <;> omega) (fun ad h j u hu => one_cells (W.drew.alloc (.cells #[] 3)) p.sec ad (by simpa using h) j u hu)
                     | have hC1 := grown_new (k := W.heap.size) hgrow1 (by simp <;> omega) (by simp <;> omega) (fun ad h j u hu => (((Below.refl _ _).alloc (Nat.le_refl _) (.cells #[] 3)).cell (p := ad.add j) (by cases h; rw [add_block]; simp)).trans (one_cells W.drew p.sec ad h j u hu))
                     | skip)
                | (refine step_append_some rfl (.tmp 68) (.tmp 77) 28 rfl W.heap.size 3 i0 (.int .i64 0) 1 8 Try.underlying28 hi0 hz0 hz1 hz2 (by rfl) (by decide) g1 cap1 j (ints (M.take j)) (by rfl) (by first | exact hown1 | exact World.ownsRow.alloc hown1 _) (some ⟨_, 0, none⟩) 1 1 (ints [p.sec]) (by rfl) (by rfl) (fun h => by cases h) (by first | exact hC1 | exact one_cells wa p.sec) ints_one (j + 1) rfl (by simp only [maxLen]; omega) (by omega) (by have := hbe1.size; first | omega | (simp; omega)) ?_
                   intro g2 cap2 wb hown2 hgrow2 hat2 hlt2
                   have hg1b : W.heap.size ≤ g1 := (World.ownsRow.lt hown1 g1 rfl).1
                   have hbe2 : Below W.heap.size W wb := by first | exact hbe1.grown hgrow2 hbe1.size (fun j hj => by have e := Option.some.inj hj; omega) | exact (hbe1.alloc hbe1.size _).grown hgrow2 (by have := hbe1.size; simp; omega) (fun j hj => by have e := Option.some.inj hj; omega))
                | (refine step_append_some rfl (.tmp 78) (.tmp 81) 28 rfl W.heap.size 3 i0 (.int .i64 0) 1 8 Try.underlying28 hi0 hz0 hz1 hz2 (by rfl) (by decide) g2 cap2 (j + 1) (ints (M.take j) ++ ints [p.sec]) (by rfl) hown2 (some ⟨g0, o2, none⟩) (M.length - j) (c0 - j) (ints (M.drop j)) (by rfl) HlD.out (fun h => by cases h) (HND.out _ hbe2) ints_one (j + 1 + (M.length - j)) rfl (by simp only [maxLen]; omega) (by omega) hbe2.size ?_
                   intro g3 cap3 wc hown3 hgrow3 hat3 hlt3
                   have hg2b : W.heap.size ≤ g2 := (World.ownsRow.lt hown2 g2 rfl).1
                   have hbe3 : Below W.heap.size W wc := hbe2.grown hgrow3 hbe2.size (fun j hj => by have e := Option.some.inj hj; omega)))
            all_goals
              have hR3 : Built W.heap.size wc (.slice (some ⟨g3, 0, none⟩) (j + 1 + (M.length - j)) cap3) (insS M p.sec) := by
                unfold Built
                rw [← ins_ints M p.sec j HP.out HN.out, ins_len2 M p.sec j hj HP.out HN.out]
                exact hown3
              have HR3 := Lib.hid (Built.mono (B' := w.heap.size) hR3 (by omega))
              have HB3 := Lib.hid (HB.out.trans ((HBW.out.trans (hbe3.mono hszW)).mono hsz))
              have HLn := Lib.hid (ins_len2 M p.sec j hj HP.out HN.out)
              clear hown1 hgrow1 hat1 hown2 hgrow2 hat2 hown3 hgrow3 hat3 hbe1 hbe2 hbe3 hR3
              go_wp2
              go_roundw
              case rel => exact ⟨k + 1, by omega, by go_num, ⟨_, _, by rw [HOn.out, HLn.out]⟩, by rw [HOn.out]; exact HR3.out, HB3.out⟩
              case measure => simp [intOf]; omega
    · obtain rfl : k = x.l.length := by omega
      rw [secsK_all] at HO
      clear hO hbel
      go_wp2
      go_ret
      exact ⟨_, rfl, HO.out, HB.out⟩
end Go.Proofs.Ytmkfaibjjbgbbaa
