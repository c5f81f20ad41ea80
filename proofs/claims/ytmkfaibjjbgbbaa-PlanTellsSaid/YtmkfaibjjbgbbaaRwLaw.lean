/- What package scupperref14 asks ahead of a write, and what package graph does: the same. No program in sight. -/
import Derived.Test.YtmkfaibjjbgbbaaRready
namespace Go.Proofs.Ytmkfaibjjbgbbaa
set_option linter.unusedVariables false

theorem idx_lt {l : List Pt} {k : Nat} {p : Pt} (h : l[k]? = some p) : k < l.length := by
  rcases Nat.lt_or_ge k l.length with h1 | h1
  · exact h1
  · rw [List.getElem?_eq_none h1] at h; cases h
theorem rise_lt {l : List Pt} (hl : Rise l) {i k : Nat} {p q : Pt} (hi : l[i]? = some q) (hk : l[k]? = some p) (h : i < k) : q.id < p.id := by
  have h1 := idx_lt hi
  have h2 := idx_lt hk
  have := List.pairwise_iff_getElem.1 hl i k h1 h2 h
  rw [List.getElem?_eq_getElem h1] at hi
  rw [List.getElem?_eq_getElem h2] at hk
  rw [← Option.some.inj hi, ← Option.some.inj hk]; exact this
theorem rise_idx {l : List Pt} (hl : Rise l) {i k : Nat} {p q : Pt} (hi : l[i]? = some q) (hk : l[k]? = some p) (h : q.id < p.id) : i < k := by
  rcases Nat.lt_trichotomy i k with h1 | h1 | h1
  · exact h1
  · subst h1; rw [hi] at hk; rw [Option.some.inj hk] at h; omega
  · have := rise_lt hl hk hi h1; omega
theorem rise_eq {l : List Pt} (hl : Rise l) {p q : Pt} (hp : p ∈ l) (hq : q ∈ l) (h : q.id = p.id) : q = p := by
  obtain ⟨i, hi⟩ := List.mem_iff_getElem?.1 hq
  obtain ⟨k, hk⟩ := List.mem_iff_getElem?.1 hp
  rcases Nat.lt_trichotomy i k with h1 | h1 | h1
  · have := rise_lt hl hi hk h1; omega
  · subst h1; rw [hi] at hk; exact Option.some.inj hk
  · have := rise_lt hl hk hi h1; omega

theorem findI_ref (x : G) (id : Int) : (x.find id = none ∧ findI x.l id = -1) ∨ ∃ (k : Nat) (p : Pt), x.find id = some p ∧ x.l[k]? = some p ∧ p.id = id ∧ findI x.l id = k := by
  unfold findI G.find
  cases h : x.l.findIdx? (fun p => decide (p.id = id)) with
  | none =>
    left
    refine ⟨?_, rfl⟩
    rw [List.findIdx?_eq_none_iff] at h
    rw [List.find?_eq_none]
    intro p hp
    have := h p hp
    simpa using this
  | some k =>
    right
    rw [List.findIdx?_eq_some_iff_getElem] at h
    obtain ⟨hk, h1, h2⟩ := h
    refine ⟨k, x.l[k], ?_, List.getElem?_eq_getElem hk, by simpa using h1, rfl⟩
    rw [List.find?_eq_some_iff_getElem]
    exact ⟨h1, k, hk, rfl, fun j hj => by have := h2 j hj; simpa using this⟩

theorem rdOuts_at {l : List Pt} {k : Nat} {p : Pt} (hk : l[k]? = some p) : ∀ n, k < n → n ≤ l.length → (rdOuts l n)[k]? = some (rdAt l (rdOuts l k) k p) := by
  intro n
  induction n with
  | zero => intro h; omega
  | succ n ih =>
    intro h hn
    obtain ⟨q, hq⟩ : ∃ q, l[n]? = some q := ⟨_, List.getElem?_eq_getElem (by omega)⟩
    rw [rdOuts_on hq]
    rcases Nat.lt_or_ge k n with h1 | h1
    · rw [List.getElem?_append_left (by rw [rdOuts_len]; exact h1)]
      exact ih h1 (by omega)
    · obtain rfl : k = n := by omega
      rw [List.getElem?_append_right (by rw [rdOuts_len]; exact Nat.le_refl _), rdOuts_len, Nat.sub_self]
      rw [hq] at hk
      rw [Option.some.inj hk]; rfl
theorem needs_ref (x : G) (p : Pt) : p.needs.all (rdNeed x.l p) = !waitsB x p := by
  unfold waitsB
  rw [List.not_any_eq_all_not]
  congr 1
  funext id
  unfold rdNeed
  rcases findI_ref x id with ⟨h1, h2⟩ | ⟨k, q, h1, -, -, h2⟩
  · rw [h1, h2]; rfl
  · rw [h1, h2]
    have : ¬ (k : Int) < 0 := by omega
    simp [this]
theorem rdy_iff (x : G) {O : List Pt} (hO : Rise O) {p : Pt} (hp : p ∈ O) : p ∈ (rdy x O).1 ↔ waitsB x p = false ∧ ∀ q ∈ (rdy x O).2, q.id < p.id → meetB q p = false := by
  obtain ⟨s1, s2, s3, s4⟩ := rdy_spec x O hO
  constructor
  · exact fun h => s4 p h
  · intro ⟨h1, h2⟩
    rcases s3 p hp with h | h
    · exact h
    · rcases rdy_not x O hO p h with h3 | ⟨q, hq, hlt, hm⟩
      · rw [h1] at h3; cases h3
      · rw [h2 q hq hlt] at hm; cases hm
theorem prev_iff (l : List Pt) (outs : List Bool) (p : Pt) (k : Nat) : prevAll l outs p k = true ↔ ∀ i, i < k → ∀ q b, l[i]? = some q → outs[i]? = some b → rdPrev p (q, b) = true := by
  unfold prevAll
  rw [List.all_eq_true]
  constructor
  · intro h i hi q b hq hb
    have := h i (List.mem_range.2 hi)
    rw [hq, hb] at this
    exact this
  · intro h i hi
    have hi := List.mem_range.1 hi
    cases hq : l[i]? with
    | none => rfl
    | some q =>
      cases hb : outs[i]? with
      | none => rfl
      | some b => exact h i hi q b hq hb
theorem rdAt_iff {x : G} (hx : Rise x.l) : ∀ (k : Nat) (p : Pt), x.l[k]? = some p → (rdAt x.l (rdOuts x.l k) k p = true ↔ p.written = false ∧ p ∈ (rdy x (openL x p.sec)).1) := by
  intro k
  induction k using Nat.strongRecOn with
  | ind k ih =>
    intro p hp
    have hpx := List.mem_of_getElem? hp
    have hO : Rise (openL x p.sec) := hx.filter _
    obtain ⟨s1, s2, s3, s4⟩ := rdy_spec x _ hO
    have hA : rdA x.l p = (!p.written && !waitsB x p) := by unfold rdA; rw [needs_ref]
    unfold rdAt
    rw [hA]
    cases hw : p.written with
    | true => simp
    | false =>
      have hpo : p ∈ openL x p.sec := List.mem_filter.2 ⟨hpx, by simp [openQ, hw]⟩
      rw [rdy_iff x hO hpo]
      cases hwt : waitsB x p with
      | true => simp
      | false =>
        simp only [Bool.not_false, Bool.true_and, true_and]
        rw [prev_iff]
        constructor
        · intro h q hq hlt
          obtain ⟨hqx, hqo⟩ := List.mem_filter.1 (s2.subset hq)
          have hqo' : q.sec = p.sec ∧ q.written = false := by simpa [openQ] using hqo
          obtain ⟨i, hi⟩ := List.mem_iff_getElem?.1 hqx
          have hik := rise_idx hx hi hp hlt
          have hb := rdOuts_at hi k hik (Nat.le_of_lt (idx_lt hp))
          have h1 := h i hik q _ hi hb
          unfold rdPrev at h1
          rw [hqo'.2] at h1
          cases hm : meetB q p with
          | false => rfl
          | true =>
            have hmr : meetR q p = true := by unfold meetR; simp [hqo'.1, hm]
            simp only [hmr, Bool.not_true, Bool.false_or] at h1
            have := ((ih i hik q hi).1 h1).2
            rw [hqo'.1] at this
            exact (rdy_apart x _ hO q this hq).elim
        · intro h i hik q b hi hb
          have hb' := rdOuts_at hi k hik (Nat.le_of_lt (idx_lt hp))
          rw [hb] at hb'
          unfold rdPrev
          cases hqw : q.written with
          | true => rfl
          | false =>
            cases hm : meetR q p with
            | false => rfl
            | true =>
              have hm2 : q.sec = p.sec ∧ meetB q p = true := by simpa [meetR] using hm
              have hqo : q ∈ openL x p.sec := List.mem_filter.2 ⟨List.mem_of_getElem? hi, by simp [openQ, hqw, hm2.1]⟩
              have hlt := rise_lt hx hi hp hik
              rcases s3 q hqo with h3 | h3
              · have := (ih i hik q hi).2 ⟨hqw, by rw [hm2.1]; exact h3⟩
                rw [Option.some.inj hb', this]; rfl
              · rw [h q h3 hlt] at hm2; cases hm2.2
theorem ready_ref {x : G} (hx : Rise x.l) {k : Nat} {p : Pt} (hk : x.l[k]? = some p) : (rdOuts x.l x.l.length)[k]? = some ((readyG x p.sec).contains p.id) := by
  rw [rdOuts_at hk _ (idx_lt hk) (Nat.le_refl _)]
  congr 1
  have hO : Rise (openL x p.sec) := hx.filter _
  obtain ⟨s1, s2, s3, s4⟩ := rdy_spec x _ hO
  have key : (readyG x p.sec).contains p.id = true ↔ p.written = false ∧ p ∈ (rdy x (openL x p.sec)).1 := by
    rw [List.contains_iff_mem]
    unfold readyG
    constructor
    · intro h
      obtain ⟨q, hq, e⟩ := List.mem_map.1 h
      obtain ⟨hqx, hqo⟩ := List.mem_filter.1 (s1.subset hq)
      have := rise_eq hx (List.mem_of_getElem? hk) hqx e
      subst this
      exact ⟨by have h : q.written = false := by simpa [openQ] using hqo
                exact h, hq⟩
    · exact fun h => List.mem_map.2 ⟨p, h.2, rfl⟩
  have := (rdAt_iff hx k p hk).trans key.symm
  cases h1 : rdAt x.l (rdOuts x.l k) k p <;> cases h2 : (readyG x p.sec).contains p.id
  · rfl
  · rw [h1, h2] at this; simp at this
  · rw [h1, h2] at this; simp at this
  · rfl
theorem behind_ref {x : G} (hx : Rise x.l) {k : Nat} {p : Pt} (hk : x.l[k]? = some p) : behR x.l k p = behindB x p := by
  unfold behR behindB
  rw [Bool.eq_iff_iff, List.any_eq_true, List.any_eq_true]
  constructor
  · rintro ⟨q, hq, h⟩
    obtain ⟨i, hi⟩ := List.mem_iff_getElem?.1 hq
    rw [List.getElem?_take] at hi
    split at hi
    · rename_i hik
      have h' : q.written = false ∧ q.sec = p.sec ∧ meetB q p = true := by simpa [meetR] using h
      exact ⟨q, List.mem_filter.2 ⟨List.mem_of_getElem? hi, by simp [openQ, h']⟩, by simp [rise_lt hx hi hk hik, h']⟩
    · cases hi
  · rintro ⟨q, hq, h⟩
    obtain ⟨hqx, hqo⟩ := List.mem_filter.1 hq
    have hqo' : q.sec = p.sec ∧ q.written = false := by simpa [openQ] using hqo
    have h' : q.id < p.id ∧ meetB q p = true := by simpa using h
    obtain ⟨i, hi⟩ := List.mem_iff_getElem?.1 hqx
    have hik := rise_idx hx hi hk h'.1
    exact ⟨q, List.mem_iff_getElem?.2 ⟨i, by rw [List.getElem?_take, if_pos hik]; exact hi⟩, by simp [meetR, hqo', h']⟩
theorem mark_ref {x : G} (hx : Rise x.l) {k : Nat} {p : Pt} (hk : x.l[k]? = some p) : x.l.set k p.done = (mark x p.id).l := by
  apply List.ext_getElem?
  intro i
  unfold mark
  show _ = (x.l.map _)[i]?
  rw [List.getElem?_map, List.getElem?_set]
  split
  · rename_i h
    subst h
    rw [if_pos (idx_lt hk), hk]
    simp
  · rename_i h
    cases hi : x.l[i]? with
    | none => rfl
    | some q =>
      have : q.id ≠ p.id := fun e => by
        rcases Nat.lt_trichotomy i k with h1 | h1 | h1
        · have := rise_lt hx hi hk h1; omega
        · exact h h1.symm
        · have := rise_lt hx hk hi h1; omega
      simp [this]
end Go.Proofs.Ytmkfaibjjbgbbaa
