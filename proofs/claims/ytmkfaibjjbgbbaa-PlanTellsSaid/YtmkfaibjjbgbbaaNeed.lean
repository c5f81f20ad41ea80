/- What some patches need: by a list of what is to be done, and by one look from the greatest number down. No program in sight. -/
import Derived.Test.YtmkfaibjjbgbbaaGoes
namespace Go.Proofs.Ytmkfaibjjbgbbaa
set_option linter.unusedVariables false

def depB (q p : Pt) : Bool := q.needs.contains p.id || (!q.written && (!p.written && (decide (p.sec = q.sec) && (decide (p.id < q.id) && meetB p q))))
def neededL (l : List Pt) (ids : List Int) : List Pt := l.foldr (fun p acc => if ids.contains p.id || acc.any (fun q => depB q p) then p :: acc else acc) []
def neededG (x : G) (ids : List Int) : List Int := (neededL x.l ids).map (·.id)

def meetsQ (q r : Pt) : Bool := decide (r.id < q.id) && meetB r q
def meetN (O : List Pt) (q : Pt) : List Int := (O.filter (meetsQ q)).map (·.id)
def depsOf (x : G) (q : Pt) : List Int := q.needs ++ (if q.written then [] else meetN (openL x q.sec) q)
def Just (x : G) (S ids : List Int) (k : Int) : Prop := k ∈ ids ∨ ∃ q ∈ x.l, q.id ∈ S ∧ k ∈ depsOf x q
structure NInv (x : G) (ids todo seen : List Int) : Prop where
  nodup : seen.Nodup
  inn : ∀ k ∈ seen, ∃ p ∈ x.l, p.id = k
  just : ∀ k, (k ∈ seen ∨ k ∈ todo) → Just x seen ids k
  clos : ∀ k, Just x seen ids k → (∃ p ∈ x.l, p.id = k) → k ∈ seen ∨ k ∈ todo

section
variable {x : G} {ids todo seen : List Int} {id : Int}
theorem Just.more {S S' : List Int} {k : Int} (h : Just x S ids k) (hs : ∀ k ∈ S, k ∈ S') : Just x S' ids k := by
  rcases h with h | ⟨q, hq, h1, h2⟩
  · exact .inl h
  · exact .inr ⟨q, hq, hs _ h1, h2⟩
theorem NInv.start : NInv x ids ids [] where
  nodup := List.nodup_nil
  inn := fun k h => by cases h
  just := fun k h => .inl (h.resolve_left fun h => by cases h)
  clos := by
    rintro k (h | ⟨q, _, h, _⟩) _
    · exact .inr h
    · cases h
theorem NInv.skip (h : NInv x ids (id :: todo) seen) (hn : x.find id = none ∨ id ∈ seen) : NInv x ids todo seen :=
  ⟨h.nodup, h.inn, fun k hk => h.just k (hk.imp_right (List.mem_cons_of_mem _)), fun k hk hp => by
    rcases h.clos k hk hp with h1 | h1
    · exact .inl h1
    · rcases List.mem_cons.1 h1 with rfl | h1
      · rcases hn with hn | hn
        · obtain ⟨p, hp, e⟩ := hp
          exact absurd e (find_none hn p hp)
        · exact .inl hn
      · exact .inr h1⟩
theorem NInv.visit (hx : Rise x.l) (h : NInv x ids (id :: todo) seen) {p : Pt} (hf : x.find id = some p) (hn : id ∉ seen) : NInv x ids (todo ++ depsOf x p) (seen ++ [id]) := by
  obtain ⟨hp, he⟩ := find_mem hf
  refine ⟨?_, fun k hk => ?_, fun k hk => ?_, fun k hk hkp => ?_⟩
  · rw [List.nodup_append]
    exact ⟨h.nodup, by simp, fun a ha b hb e => by rw [List.mem_singleton.1 hb] at e; exact hn (e ▸ ha)⟩
  · rcases List.mem_append.1 hk with hk | hk
    · exact h.inn k hk
    · rw [List.mem_singleton.1 hk]; exact ⟨p, hp, he⟩
  · rcases hk with hk | hk
    · rcases List.mem_append.1 hk with hk | hk
      · exact (h.just k (.inl hk)).more fun _ h => List.mem_append_left _ h
      · rw [List.mem_singleton.1 hk]
        exact (h.just id (.inr (by simp))).more fun _ h => List.mem_append_left _ h
    · rcases List.mem_append.1 hk with hk | hk
      · exact (h.just k (.inr (List.mem_cons_of_mem _ hk))).more fun _ h => List.mem_append_left _ h
      · exact .inr ⟨p, hp, by rw [he]; simp, hk⟩
  · have old : Just x seen ids k → k ∈ seen ++ [id] ∨ k ∈ todo ++ depsOf x p := fun hj => by
      rcases h.clos k hj hkp with h1 | h1
      · exact .inl (List.mem_append_left _ h1)
      · rcases List.mem_cons.1 h1 with h1 | h1
        · exact .inl (by rw [h1]; simp)
        · exact .inr (List.mem_append_left _ h1)
    rcases hk with hk | ⟨q, hq, h1, h2⟩
    · exact old (.inl hk)
    · rcases List.mem_append.1 h1 with h1 | h1
      · exact old (.inr ⟨q, hq, h1, h2⟩)
      · rw [List.mem_singleton] at h1
        rw [← he] at h1
        rw [id_inj hx hq hp h1] at h2
        exact .inr (List.mem_append_right _ h2)
theorem NInv.len (h : NInv x ids todo seen) : seen.length ≤ x.l.length := by
  have hsub : ∀ k ∈ seen, k ∈ x.l.map (·.id) := fun k hk => by
    obtain ⟨p, hp, e⟩ := h.inn k hk
    exact List.mem_map.2 ⟨p, hp, e⟩
  have := List.Nodup.length_le_of_subset h.nodup (fun k hk => hsub k hk)
  simpa using this
end

theorem dep_iff {x : G} (hx : Rise x.l) {q p : Pt} (hq : q ∈ x.l) (hp : p ∈ x.l) : p.id ∈ depsOf x q ↔ depB q p = true := by
  unfold depsOf depB
  rw [List.mem_append, Bool.or_eq_true]
  refine or_congr (by simp) ?_
  cases hw : q.written with
  | true => simp
  | false =>
    unfold meetN
    simp only [Bool.false_eq_true, if_false, List.mem_map, List.mem_filter, meetsQ]
    constructor
    · rintro ⟨r, ⟨hr, h2⟩, e⟩
      obtain ⟨hrx, hro⟩ := List.mem_filter.1 hr
      rw [id_inj hx hrx hp e] at h2 hro
      simp [openQ] at hro h2
      simp [hro, h2]
    · intro h
      simp at h
      refine ⟨p, ⟨List.mem_filter.2 ⟨hp, by simp [openQ, h]⟩, by simp [h]⟩, rfl⟩
theorem dep_less {x : G} (hn : ∀ p ∈ x.l, ∀ k ∈ p.needs, k < p.id) {q p : Pt} (hq : q ∈ x.l) (h : depB q p = true) : p.id < q.id := by
  unfold depB at h
  rw [Bool.or_eq_true] at h
  rcases h with h | h
  · exact hn q hq _ (by simpa using h)
  · simp at h; exact h.2.2.2.1

/-- When nothing is left to be done, what was seen is what is needed. -/
theorem NInv.done {x : G} {ids seen : List Int} (h : NInv x ids [] seen) (hx : Rise x.l) (hn : ∀ p ∈ x.l, ∀ k ∈ p.needs, k < p.id) : idsOf x (fun p => decide (p.id ∈ seen)) = neededG x ids := by
  have hiff : ∀ p ∈ x.l, p.id ∈ seen ↔ Just x seen ids p.id := fun p hp => ⟨fun hs => h.just _ (.inl hs), fun hj => (h.clos _ hj ⟨p, hp, rfl⟩).resolve_right fun h => by cases h⟩
  have key : ∀ (t pre : List Pt), x.l = pre ++ t → neededL t ids = t.filter fun p => decide (p.id ∈ seen) := by
    intro t
    induction t with
    | nil => intro _ _; rfl
    | cons p t ih =>
      intro pre hpre
      have iht := ih (pre ++ [p]) (by rw [hpre]; simp)
      have hp : p ∈ x.l := by rw [hpre]; simp
      show (if ids.contains p.id || (neededL t ids).any (fun q => depB q p) then p :: neededL t ids else neededL t ids) = _
      rw [iht, List.filter_cons]
      have hc : (ids.contains p.id || (t.filter fun p => decide (p.id ∈ seen)).any (fun q => depB q p)) = decide (p.id ∈ seen) := by
        rw [Bool.eq_iff_iff, Bool.or_eq_true, decide_eq_true_iff, hiff p hp]
        unfold Just
        refine or_congr (by simp) ?_
        rw [List.any_eq_true]
        constructor
        · rintro ⟨q, hq, hd⟩
          obtain ⟨hqt, hqs⟩ := List.mem_filter.1 hq
          have hqx : q ∈ x.l := by rw [hpre]; simp [hqt]
          exact ⟨q, hqx, by simpa using hqs, (dep_iff hx hqx hp).2 hd⟩
        · rintro ⟨q, hqx, hqs, hd⟩
          have hd := (dep_iff hx hqx hp).1 hd
          have hlt := dep_less hn hqx hd
          have hqt : q ∈ t := by
            rw [hpre] at hqx hx
            rcases List.mem_append.1 hqx with h1 | h1
            · have := (List.pairwise_append.1 hx).2.2 q h1 p (by simp)
              omega
            · rcases List.mem_cons.1 h1 with h1 | h1
              · rw [h1] at hlt; omega
              · exact h1
          exact ⟨q, List.mem_filter.2 ⟨hqt, by simpa using hqs⟩, hd⟩
      rw [hc]
  unfold idsOf neededG
  rw [key x.l [] rfl]
theorem meetN_on {O : List Pt} {q : Pt} {k : Nat} {r : Pt} (h : O[k]? = some r) : meetN (O.take (k + 1)) q = meetN (O.take k) q ++ (if meetsQ q r then [r.id] else []) := by
  unfold meetN
  rw [List.take_add_one, h]
  simp only [Option.toList, List.filter_append, List.map_append]
  congr 1
  by_cases hm : meetsQ q r = true
  · simp [hm]
  · simp [hm]
end Go.Proofs.Ytmkfaibjjbgbbaa
