/- A graph of which nothing is written: one is ready, all that is ready can be written, and then is stable. No program in sight. -/
import Derived.Test.YtmkfaibjjbgbbaaSectors
namespace Go.Proofs.Ytmkfaibjjbgbbaa
open Go.RowKit
set_option linter.unusedVariables false

abbrev Rise (l : List Pt) : Prop := l.Pairwise fun p q => p.id < q.id
def Pt.un (p : Pt) : Pt := { p with written := false }
def wcount (x : G) : Nat := (x.l.filter (·.written)).length
def markL : G → List Int → G
  | y, [] => y
  | y, i :: r => markL (mark y i) r

theorem right_ind {α : Type} {P : List α → Prop} (h0 : P []) (h1 : ∀ l p, P l → P (l ++ [p])) : ∀ l, P l := by
  intro l
  rw [← List.reverse_reverse l]
  induction l.reverse with
  | nil => exact h0
  | cons a t ih => rw [List.reverse_cons]; exact h1 _ _ ih
theorem rdy_app (x : G) (O : List Pt) (p : Pt) : rdy x (O ++ [p]) = rdyStep x (rdy x O) p := by
  unfold rdy; rw [List.foldl_append]; rfl

theorem rdy_spec (x : G) : ∀ O : List Pt, Rise O → (rdy x O).1.Sublist O ∧ (rdy x O).2.Sublist O ∧ (∀ q ∈ O, q ∈ (rdy x O).1 ∨ q ∈ (rdy x O).2) ∧
    ∀ a ∈ (rdy x O).1, waitsB x a = false ∧ ∀ q ∈ (rdy x O).2, q.id < a.id → meetB q a = false := by
  refine right_ind (fun _ => ⟨List.Sublist.refl _, List.Sublist.refl _, fun q h => (by cases h), fun a h => (by cases h)⟩) ?_
  intro l p ih hp
  rw [show Rise (l ++ [p]) ↔ _ from List.pairwise_append] at hp
  obtain ⟨hl, -, hlp⟩ := hp
  obtain ⟨h1, h2, h3, h4⟩ := ih hl
  rw [rdy_app]
  unfold rdyStep
  generalize rdy x l = r at *
  split
  · rename_i hc
    refine ⟨h1.trans (List.sublist_append_left _ _), h2.append (List.Sublist.refl _), fun q hq => ?_, fun a ha => ⟨(h4 a ha).1, fun q hq hlt => ?_⟩⟩
    · rcases List.mem_append.1 hq with hq | hq
      · rcases h3 q hq with h | h
        · exact .inl h
        · exact .inr (List.mem_append_left _ h)
      · exact .inr (List.mem_append_right _ hq)
    · rcases List.mem_append.1 hq with hq | hq
      · exact (h4 a ha).2 q hq hlt
      · rw [List.mem_singleton.1 hq] at hlt
        have := hlp a (h1.subset ha) p (by simp)
        omega
  · rename_i hc
    have hc' : r.2.any (fun q => meetB q p) = false ∧ waitsB x p = false := by
      have : ¬ ((r.2.any fun q => meetB q p) || waitsB x p) = true := hc
      cases h : (r.2.any fun q => meetB q p) <;> cases h' : waitsB x p <;> simp_all
    refine ⟨h1.append (List.Sublist.refl _), h2.trans (List.sublist_append_left _ _), fun q hq => ?_, fun a ha => ?_⟩
    · rcases List.mem_append.1 hq with hq | hq
      · rcases h3 q hq with h | h
        · exact .inl (List.mem_append_left _ h)
        · exact .inr h
      · exact .inl (List.mem_append_right _ hq)
    · rcases List.mem_append.1 ha with ha | ha
      · exact h4 a ha
      · rw [List.mem_singleton.1 ha]
        refine ⟨hc'.2, fun q hq _ => ?_⟩
        have := List.any_eq_false.1 hc'.1 q hq
        simpa using this

theorem rdy_apart (x : G) : ∀ O : List Pt, Rise O → ∀ n, n ∈ (rdy x O).1 → n ∈ (rdy x O).2 → False := by
  refine right_ind (fun _ n h _ => by cases h) ?_
  intro l p ih hp n
  rw [show Rise (l ++ [p]) ↔ _ from List.pairwise_append] at hp
  obtain ⟨hl, -, hlp⟩ := hp
  obtain ⟨h1, h2, -, -⟩ := rdy_spec x l hl
  have ih := ih hl n
  rw [rdy_app]
  unfold rdyStep
  generalize rdy x l = r at *
  split
  · intro ha hb
    rcases List.mem_append.1 hb with hb | hb
    · exact ih ha hb
    · rw [List.mem_singleton.1 hb] at ha
      have := hlp p (h1.subset ha) p (by simp)
      omega
  · intro ha hb
    rcases List.mem_append.1 ha with ha | ha
    · exact ih ha hb
    · rw [List.mem_singleton.1 ha] at hb
      have := hlp p (h2.subset hb) p (by simp)
      omega

theorem rdy_less (x : G) (k : Int) : ∀ O : List Pt, (∀ n ∈ (rdy x O).2, n.id ≠ k) →
    rdy x (O.filter fun p => decide (p.id ≠ k)) = ((rdy x O).1.filter (fun p => decide (p.id ≠ k)), (rdy x O).2) := by
  refine right_ind (fun _ => rfl) ?_
  intro l p ih hn
  rw [rdy_app] at hn ⊢
  rw [List.filter_append]
  have hn' : ∀ n ∈ (rdy x l).2, n.id ≠ k := fun n hm => hn n (by
    unfold rdyStep
    split
    · exact List.mem_append_left _ hm
    · exact hm)
  have ih := ih hn'
  by_cases hk : p.id = k
  · have e : ([p].filter fun p => decide (p.id ≠ k)) = [] := by simp [hk]
    rw [e, List.append_nil, ih]
    unfold rdyStep at hn ⊢
    split
    · rename_i hc
      rw [if_pos hc] at hn
      exact absurd hk (hn p (by simp))
    · rw [List.filter_append, e, List.append_nil]
  · have e : ([p].filter fun p => decide (p.id ≠ k)) = [p] := by simp [hk]
    rw [e, rdy_app, ih]
    unfold rdyStep
    show (if ((rdy x l).2.any fun q => meetB q p) || waitsB x p then _ else _) = _
    split
    · rfl
    · rw [List.filter_append, e]

theorem waits_mark (y : G) (k : Int) (p : Pt) : waitsB (mark y k) p = waitsB y p := by
  unfold waitsB
  congr 1
  funext id
  rw [mark_find]
  simp
theorem rdy_mark (y : G) (k : Int) (O : List Pt) : rdy (mark y k) O = rdy y O := by
  unfold rdy
  congr 1
  funext a p
  unfold rdyStep
  rw [waits_mark]
theorem open_mark (y : G) (k s : Int) : openL (mark y k) s = (openL y s).filter fun p => decide (p.id ≠ k) := by
  unfold openL mark
  show (y.l.map _).filter _ = _
  induction y.l with
  | nil => rfl
  | cons p l ih =>
    rw [List.map_cons, List.filter_cons, ih, List.filter_cons (x := p) (xs := l)]
    by_cases hk : p.id = k
    · rw [if_pos hk]
      have e : openQ s p.done = false := by simp [openQ, Pt.done]
      rw [e]
      by_cases ho : openQ s p = true
      · rw [if_pos ho, List.filter_cons]
        simp [hk]
      · rw [if_neg ho]
        simp
    · rw [if_neg hk]
      by_cases ho : openQ s p = true
      · rw [if_pos ho, if_pos ho, List.filter_cons]
        simp [hk]
      · rw [if_neg ho, if_neg ho]

theorem wc_mark (a : Pt) : ∀ l : List Pt, Rise l → a ∈ l → a.written = false → ((l.map fun p => if p.id = a.id then p.done else p).filter (·.written)).length = (l.filter (·.written)).length + 1
  | [], _, ha, _ => by cases ha
  | p :: l, hl, ha, hw => by
    obtain ⟨h1, h2⟩ := List.pairwise_cons.1 hl
    by_cases hp : p.id = a.id
    · obtain rfl : a = p := by
        rcases List.mem_cons.1 ha with h | h
        · exact h
        · have := h1 a h; omega
      have e : (l.map fun p => if p.id = a.id then p.done else p) = l := by
        conv => rhs; rw [← List.map_id l]
        apply List.map_congr_left
        intro q hq
        rw [if_neg (by have := h1 q hq; omega)]
        rfl
      rw [List.map_cons, e, if_pos rfl, List.filter_cons, List.filter_cons, hw, show a.done.written = true from rfl]
      simp
    · have ha' : a ∈ l := by
        rcases List.mem_cons.1 ha with h | h
        · exact absurd (by rw [h]) hp
        · exact h
      have ih := wc_mark a l h2 ha' hw
      rw [List.map_cons, if_neg hp, List.filter_cons, List.filter_cons]
      split
      · simp only [List.length_cons, ih]
      · exact ih
theorem un_mark (y : G) (k : Int) : (mark y k).l.map Pt.un = y.l.map Pt.un := by
  unfold mark
  rw [List.map_map]
  apply List.map_congr_left
  intro p _
  show (if p.id = k then p.done else p).un = p.un
  split <;> rfl

/-- What is ready of a sector can be written, all of it. -/
theorem ready_step (s : Int) (T : List Int) : ∀ (A : List Pt) (y : G), Rise y.l → (rdy y (openL y s)).1 = A → (∀ p ∈ y.l, p.written = true → p.sec ∈ T ∨ p.sec = s) →
    (writeG y (A.map (·.id))).1 = 0 ∧ Rise (writeG y (A.map (·.id))).2.l ∧ (writeG y (A.map (·.id))).2.last = y.last ∧ (writeG y (A.map (·.id))).2.l.map Pt.un = y.l.map Pt.un ∧
      (∀ p ∈ (writeG y (A.map (·.id))).2.l, p.written = true → p.sec ∈ T ∨ p.sec = s) ∧ wcount (writeG y (A.map (·.id))).2 = wcount y + A.length := by
  intro A
  induction A with
  | nil => intro y hy _ hT; exact ⟨rfl, hy, rfl, rfl, hT, rfl⟩
  | cons a A ih =>
    intro y hy hA hT
    have hO : Rise (openL y s) := hy.filter _
    obtain ⟨s1, s2, hpart, hrd⟩ := rdy_spec y _ hO
    have hAr : Rise (a :: A) := by rw [← hA]; exact hO.sublist s1
    obtain ⟨har, -⟩ := List.pairwise_cons.1 hAr
    have haO : a ∈ openL y s := s1.subset (by rw [hA]; simp)
    obtain ⟨hay, haq⟩ := List.mem_filter.1 haO
    have has : a.sec = s ∧ a.written = false := by simpa [openQ] using haq
    have hb : behindB y a = false := by
      unfold behindB
      rw [has.1, List.any_eq_false]
      intro q hq h
      simp at h
      rcases hpart q hq with hqA | hqN
      · rw [hA] at hqA
        rcases List.mem_cons.1 hqA with h1 | h1
        · rw [h1] at h; omega
        · have := har q h1; omega
      · have := (hrd a (by rw [hA]; simp)).2 q hqN h.1
        rw [this] at h
        simp at h
    have hc : (readyG y a.sec).contains a.id = true := by
      unfold readyG
      rw [has.1, hA]
      simp
    have hw : wr1 y a.id = (0, mark y a.id) := by
      unfold wr1
      rw [find_id hy hay]
      show (if (!(readyG y a.sec).contains a.id || behindB y a) = true then _ else _) = _
      rw [hc, hb]
      rfl
    have hwr : writeG y ((a :: A).map (·.id)) = writeG (mark y a.id) (A.map (·.id)) := by
      show (if (wr1 y a.id).1 = 0 then writeG (wr1 y a.id).2 (A.map (·.id)) else _) = _
      rw [hw]
      rfl
    rw [hwr]
    have hnk : ∀ n ∈ (rdy y (openL y s)).2, n.id ≠ a.id := by
      intro n hn e
      have hny := (List.mem_filter.1 (s2.subset hn)).1
      have hna := id_inj hy hny hay e
      subst hna
      exact (rdy_apart y (openL y s) hO n (by rw [hA]; simp) hn)
    have hr2 : (rdy (mark y a.id) (openL (mark y a.id) s)).1 = A := by
      rw [rdy_mark, open_mark, rdy_less y a.id _ hnk, hA]
      show ((a :: A).filter fun p => decide (p.id ≠ a.id)) = A
      rw [List.filter_cons]
      simp
      intro q hq e
      have := har q hq
      omega
    obtain ⟨r1, r2, r3, r4, r5, r6⟩ := ih (mark y a.id) (mark_rise hy _) hr2 (by
      intro p hp hpw
      unfold mark at hp
      obtain ⟨q, hq, rfl⟩ := List.mem_map.1 hp
      by_cases e : q.id = a.id
      · rw [id_inj hy hq hay e]
        rw [if_pos rfl]
        exact .inr has.1
      · rw [if_neg e] at hpw ⊢
        exact hT q hq hpw)
    refine ⟨r1, r2, r3, r4.trans (un_mark y _), r5, ?_⟩
    rw [r6]
    have : wcount (mark y a.id) = wcount y + 1 := wc_mark a y.l hy hay has.2
    rw [this, List.length_cons]
    omega

theorem rdy_keeps (x : G) {p : Pt} : ∀ (O : List Pt) (a : List Pt × List Pt), p ∈ a.1 → p ∈ (O.foldl (rdyStep x) a).1
  | [], _, h => h
  | q :: O, a, h => by
    rw [List.foldl_cons]
    refine rdy_keeps x O _ ?_
    unfold rdyStep
    split
    · exact h
    · exact List.mem_append_left _ h
/-- The first of a sector that needs nothing that is there is ready. -/
theorem first_ready {y : G} {p : Pt} {r : List Pt} (hl : y.l = p :: r) (hy : Rise y.l) (hw : p.written = false) (hn : ∀ k ∈ p.needs, k < p.id) : 1 ≤ (readyG y p.sec).length := by
  have hwt : waitsB y p = false := by
    unfold waitsB
    rw [List.any_eq_false]
    intro k hk h
    cases hf : y.find k with
    | none => rw [hf] at h; cases h
    | some q =>
      obtain ⟨hq, e⟩ := find_mem hf
      have h1 := hn k hk
      rw [hl] at hq hy
      rcases List.mem_cons.1 hq with h2 | h2
      · rw [← e, h2] at h1; omega
      · have := (List.pairwise_cons.1 hy).1 q h2; omega
  have ho : openL y p.sec = p :: r.filter (openQ p.sec) := by
    unfold openL
    rw [hl, List.filter_cons, if_pos (by simp [openQ, hw])]
  have hm : p ∈ (rdy y (openL y p.sec)).1 := by
    rw [ho]
    unfold rdy
    rw [List.foldl_cons]
    refine rdy_keeps y _ _ ?_
    unfold rdyStep
    rw [hwt]
    simp
  unfold readyG
  rw [List.length_map]
  exact List.length_pos_of_mem hm

/-- Some of the sectors have been written. -/
structure Mid (x y : G) (T : List Int) (c : Nat) : Prop where
  rise : Rise y.l
  last : y.last = x.last
  same : y.l.map Pt.un = x.l
  writ : ∀ p ∈ y.l, p.written = true → p.sec ∈ T
  cnt : wcount y = c
  some : ∀ p r, x.l = p :: r → p.sec ∈ T → 1 ≤ c

theorem un_self {x : G} (h : ∀ p ∈ x.l, p.written = false) : x.l.map Pt.un = x.l := by
  conv => rhs; rw [← List.map_id x.l]
  apply List.map_congr_left
  intro p hp
  have := h p hp
  cases p
  simp only at this
  subst this
  rfl
theorem Mid.start {x : G} (hx : Rise x.l) (hw : ∀ p ∈ x.l, p.written = false) : Mid x x [] 0 :=
  ⟨hx, rfl, un_self hw, (fun p hp h => by rw [hw p hp] at h; cases h), (by
    unfold wcount
    rw [List.length_eq_zero_iff, List.filter_eq_nil_iff]
    intro p hp h
    rw [hw p hp] at h
    cases h), fun _ _ _ h => by cases h⟩
theorem Mid.step {x y : G} {T : List Int} {c : Nat} (h : Mid x y T c) (hn : ∀ p ∈ x.l, ∀ k ∈ p.needs, k < p.id) {s : Int} (hs : s ∉ T) :
    (writeG y (readyG y s)).1 = 0 ∧ Mid x (writeG y (readyG y s)).2 (T ++ [s]) (c + (readyG y s).length) := by
  obtain ⟨r1, r2, r3, r4, r5, r6⟩ := ready_step s T _ y h.rise rfl (fun p hp hw => .inl (h.writ p hp hw))
  refine ⟨r1, r2, r3.trans h.last, r4.trans h.same, fun p hp hw => ?_, ?_, fun p r hx hp => ?_⟩
  · rcases r5 p hp hw with h | h
    · exact List.mem_append_left _ h
    · rw [h]; simp
  · have e : (readyG y s).length = (rdy y (openL y s)).1.length := by unfold readyG; rw [List.length_map]
    rw [e, ← h.cnt]
    exact r6
  · rcases List.mem_append.1 hp with hp | hp
    · have := h.some p r hx hp
      omega
    · rw [List.mem_singleton] at hp
      have hsm := h.same
      rw [hx] at hsm
      obtain ⟨q, r', hyl, hq, -⟩ := List.map_eq_cons_iff.1 hsm
      have hqy : q ∈ y.l := by rw [hyl]; simp
      have hqs : q.sec = s := by rw [← hp, ← hq]; rfl
      have hqw : q.written = false := by
        cases hw : q.written with
        | false => rfl
        | true => exact absurd (hqs ▸ h.writ q hqy hw) hs
      have h1 := first_ready hyl h.rise hqw (fun k hk => by
        have := hn p (by rw [hx]; simp) k (by rw [← hq]; exact hk)
        rw [← hq] at this
        exact this)
      rw [hqs] at h1
      omega
theorem Mid.ids {x y : G} {T : List Int} {c : Nat} (h : Mid x y T c) : (idsOf y fun p => p.written).length = c := by
  unfold idsOf
  rw [List.length_map]
  exact h.cnt
theorem Mid.settle {x y : G} {T : List Int} {c : Nat} (h : Mid x y T c) : (settleG y fun _ => true).l.Sublist x.l ∧ (settleG y fun _ => true).last = x.last ∧ (settleG y fun _ => true).l.length + c = x.l.length := by
  have e : (settleG y fun _ => true).l = y.l.filter fun p => !p.written := by
    unfold settleG
    simp
  refine ⟨?_, h.last, ?_⟩
  · rw [e, ← h.same]
    have h1 := un_self (x := ⟨0, y.l.filter fun p => !p.written⟩) (fun p hp => by simpa using (List.mem_filter.1 hp).2)
    have h2 : ((y.l.filter fun p => !p.written).map Pt.un).Sublist (y.l.map Pt.un) := List.Sublist.map _ List.filter_sublist
    rwa [show (y.l.filter fun p => !p.written).map Pt.un = _ from h1] at h2
  · rw [e, ← h.same, ← h.cnt, List.length_map]
    unfold wcount
    generalize y.l = l
    induction l with
    | nil => rfl
    | cons p l ih =>
      rw [List.filter_cons, List.filter_cons]
      cases p.written <;> simp <;> omega

/-- The sectors are told once each, and all of them. -/
theorem addIf_nodup {L : List Int} (h : L.Nodup) (a : Int) : (addIf L a).Nodup := by
  unfold addIf
  split
  · exact h
  · rename_i hn
    rw [List.nodup_append]
    exact ⟨h, by simp, fun b hb c hc e => by rw [List.mem_singleton.1 hc] at e; exact hn (e ▸ hb)⟩
theorem mem_addIf {L : List Int} {a b : Int} : b ∈ addIf L a ↔ b ∈ L ∨ b = a := by
  unfold addIf
  split
  · rename_i h
    constructor
    · exact .inl
    · rintro (h1 | rfl)
      · exact h1
      · exact h
  · simp
theorem secsRaw_spec : ∀ (P : List Pt) (L : List Int), L.Nodup → (P.foldl (fun L p => addIf L p.sec) L).Nodup ∧ ∀ b, b ∈ P.foldl (fun L p => addIf L p.sec) L ↔ b ∈ L ∨ ∃ p ∈ P, p.sec = b
  | [], L, h => ⟨h, fun b => by simp⟩
  | p :: P, L, h => by
    rw [List.foldl_cons]
    obtain ⟨h1, h2⟩ := secsRaw_spec P (addIf L p.sec) (addIf_nodup h _)
    refine ⟨h1, fun b => ?_⟩
    rw [h2, mem_addIf]
    constructor
    · rintro ((h | rfl) | ⟨q, hq, e⟩)
      · exact .inl h
      · exact .inr ⟨p, by simp, rfl⟩
      · exact .inr ⟨q, List.mem_cons_of_mem _ hq, e⟩
    · rintro (h | ⟨q, hq, e⟩)
      · exact .inl (.inl h)
      · rcases List.mem_cons.1 hq with h | h
        · rw [h] at e; exact .inl (.inr e.symm)
        · exact .inr ⟨q, h, e⟩
theorem secsG_nodup (x : G) : (secsG x).Nodup := (List.mergeSort_perm _ _).nodup_iff.2 (secsRaw_spec _ _ List.nodup_nil).1
theorem mem_secsG {x : G} {b : Int} : b ∈ secsG x ↔ ∃ p ∈ x.l, p.written = false ∧ p.sec = b := by
  unfold secsG
  rw [(List.mergeSort_perm _ _).mem_iff]
  unfold secsRaw
  rw [(secsRaw_spec _ _ List.nodup_nil).2]
  unfold liveL
  simp only [List.mem_filter, List.not_mem_nil, false_or]
  constructor
  · rintro ⟨p, ⟨h1, h2⟩, h3⟩; exact ⟨p, h1, by simpa using h2, h3⟩
  · rintro ⟨p, h1, h2, h3⟩; exact ⟨p, ⟨h1, by simpa using h2⟩, h3⟩

/-- A graph that was only added to. -/
structure Young (x : G) : Prop where
  last : 0 ≤ x.last ∧ x.last ≤ 1000
  rise : Rise x.l
  all : ∀ p ∈ x.l, p.written = false ∧ p.fit ∧ (key p.sec).wf = true ∧ (∀ k ∈ p.needs, k < p.id) ∧ p.id ≤ x.last
theorem Young.none : Young G.none := ⟨⟨by decide, by decide⟩, List.Pairwise.nil, fun p h => by cases h⟩
theorem shape_facts {p : Pt} (h : shapeB p = true) : (0 ≤ p.sec ∧ p.sec < 2048) ∧ 0 ≤ p.off ∧ p.off ≤ 64 ∧ p.data.length ≤ 64 := by
  unfold shapeB at h
  have hm : most p ≤ 64 := by unfold most; split <;> omega
  simp at h
  omega
theorem Young.add {x : G} (h : Young x) (p : Pt) (hl : x.last < 1000) : Young (addG x p).2.2 ∧ (addG x p).2.2.last ≤ x.last + 1 ∧ (addG x p).2.2.l.length ≤ x.l.length + 1 ∧ ((addG x p).2.1 = 0 → (addG x p).1 = (addG x p).2.2.last) ∧ ((addG x p).2.1 ≠ 0 → (addG x p).2.2 = x) := by
  unfold addG
  cases hr : rightB p x.last with
  | false => exact ⟨h, by simp; omega, by simp, (fun e => by simp at e), fun _ => rfl⟩
  | true =>
    rw [if_pos rfl]
    obtain ⟨⟨l0, l1⟩, hri, ha⟩ := h
    refine ⟨⟨⟨by show 0 ≤ x.last + 1; omega, by show x.last + 1 ≤ 1000; omega⟩, ?_, fun q hq => ?_⟩, Int.le_refl _, by simp, fun _ => rfl, fun e => absurd rfl e⟩
    · show Rise (x.l ++ [p.as (x.last + 1)])
      rw [show Rise (x.l ++ [p.as (x.last + 1)]) ↔ _ from List.pairwise_append]
      refine ⟨hri, List.pairwise_singleton _ _, fun q hq r hr => ?_⟩
      rw [List.mem_singleton.1 hr]
      have := (ha q hq).2.2.2.2
      show q.id < x.last + 1
      omega
    · rcases List.mem_append.1 hq with hq | hq
      · obtain ⟨a1, a2, a3, a4, a5⟩ := ha q hq
        exact ⟨a1, a2, a3, a4, by show q.id ≤ x.last + 1; omega⟩
      · rw [List.mem_singleton.1 hq]
        unfold rightB at hr
        rw [Bool.and_eq_true, List.all_eq_true] at hr
        obtain ⟨f1, f2, f3, f4⟩ := shape_facts hr.1
        have hk : ∀ k ∈ p.needs, 1 ≤ k ∧ k ≤ x.last := fun k hk => by
          have := hr.2 k hk
          unfold needOk at this
          simp at this
          omega
        exact ⟨rfl, ⟨⟨f2, by show p.off ≤ 1000; omega, by show p.data.length ≤ 1000; omega⟩, ⟨by show 0 ≤ x.last + 1; omega, by show x.last + 1 ≤ 1000000; omega⟩, fun k hk' => key_wf (by have := hk k hk'; omega) (by have := hk k hk'; omega)⟩,
          key_wf (by show _ ≤ p.sec; omega) (by show p.sec ≤ _; omega), fun k hk' => by have := (hk k hk').2; show k < x.last + 1; omega, Int.le_refl _⟩
theorem Young.sub {x y : G} (h : Young x) (hs : y.l.Sublist x.l) (hl : y.last = x.last) : Young y :=
  ⟨by rw [hl]; exact h.last, h.rise.sublist hs, fun p hp => by rw [hl]; exact h.all p (hs.subset hp)⟩
theorem Mid.fit {x y : G} {T : List Int} {c : Nat} (h : Mid x y T c) (hx : ∀ p ∈ x.l, p.fit ∧ (key p.sec).wf = true) : ∀ p ∈ y.l, p.fit ∧ (key p.sec).wf = true := fun p hp => by
  have h1 : p.un ∈ x.l := by rw [← h.same]; exact List.mem_map.2 ⟨p, hp, rfl⟩
  have h2 := hx _ h1
  exact h2
theorem Mid.len {x y : G} {T : List Int} {c : Nat} (h : Mid x y T c) : y.l.length = x.l.length := by rw [← h.same, List.length_map]
end Go.Proofs.Ytmkfaibjjbgbbaa
