/- The batches come to an end: each carries something out. No program in sight. -/
import Derived.Test.YtmkfaibjjbgbbaaPlanC
namespace Go.Proofs.Ytmkfaibjjbgbbaa
set_option linter.unusedVariables false

def batchesF (ids : List Int) : Nat → G → List (List Int × Bool)
  | 0, _ => []
  | n + 1, x => match planNext x ids with | none => [] | some b => b :: batchesF ids n (carryG x b.1)
def batchesG (x : G) (ids : List Int) : List (List Int × Bool) := batchesF ids (x.l.length + 1) x

theorem needed_closed (ids : List Int) : ∀ l : List Pt, Rise l → ∀ p ∈ neededL l ids, ∀ q ∈ l, depB p q = true → q.id < p.id → q ∈ neededL l ids := by
  intro l
  induction l with
  | nil => intro _ p hp; cases hp
  | cons a l ih =>
    intro hr p hp q hq hd hlt
    obtain ⟨h1, h2⟩ := List.pairwise_cons.1 hr
    have hN : neededL (a :: l) ids = if ids.contains a.id || (neededL l ids).any (fun q => depB q a) then a :: neededL l ids else neededL l ids := rfl
    have hsub := (neededL_sub l ids).subset
    rw [hN] at hp ⊢
    rcases List.mem_cons.1 hq with rfl | hq2
    · have hpl : p ∈ neededL l ids := by
        split at hp
        · rcases List.mem_cons.1 hp with rfl | h
          · omega
          · exact h
        · exact hp
      have hany : (neededL l ids).any (fun p => depB p q) = true := List.any_eq_true.2 ⟨p, hpl, hd⟩
      rw [hany, Bool.or_true, if_pos rfl]
      simp
    · have hpl : p ∈ neededL l ids := by
        split at hp
        · rcases List.mem_cons.1 hp with rfl | h
          · have := h1 q hq2; omega
          · exact h
        · exact hp
      have := ih h2 p hpl q hq2 hd hlt
      split
      · exact List.mem_cons_of_mem _ this
      · exact this

/-- Who is not ready waits, or meets one with a lesser number that is not. -/
theorem rdy_not (x : G) : ∀ O : List Pt, Rise O → ∀ n ∈ (rdy x O).2, waitsB x n = true ∨ ∃ q ∈ (rdy x O).2, q.id < n.id ∧ meetB q n = true := by
  refine right_ind (fun _ n h => by cases h) ?_
  intro l p ih hp
  rw [show Rise (l ++ [p]) ↔ _ from List.pairwise_append] at hp
  obtain ⟨hl, -, hlp⟩ := hp
  obtain ⟨h1, h2, -, -⟩ := rdy_spec x l hl
  have ih := ih hl
  rw [rdy_app]
  unfold rdyStep
  generalize rdy x l = r at *
  split
  · rename_i hc
    intro n hn
    rcases List.mem_append.1 hn with hn | hn
    · rcases ih n hn with h | ⟨q, hq, h⟩
      · exact .inl h
      · exact .inr ⟨q, List.mem_append_left _ hq, h⟩
    · rw [List.mem_singleton.1 hn]
      rcases Bool.or_eq_true _ _ |>.mp hc with h | h
      · obtain ⟨q, hq, hm⟩ := List.any_eq_true.1 h
        exact .inr ⟨q, List.mem_append_left _ hq, hlp q (h2.subset hq) p (by simp), hm⟩
      · exact .inl h
  · exact ih

/-- If nothing is written, what is needed first is ready. -/
theorem first_needed {x : G} (hx : Rise x.l) (hn : ∀ p ∈ x.l, ∀ k ∈ p.needs, k < p.id) (hw : ∀ p ∈ x.l, p.written = false) {ids : List Int} {p : Pt} {r : List Pt} (hp : neededL x.l ids = p :: r) : p.id ∈ readyG x p.sec ∧ p ∈ x.l := by
  have hsub := neededL_sub x.l ids
  have hrise : Rise (p :: r) := by rw [← hp]; exact hx.sublist hsub
  have hpx : p ∈ x.l := hsub.subset (by rw [hp]; simp)
  have least : ∀ q ∈ x.l, depB p q = true → q.id < p.id → False := fun q hq hd hlt => by
    have h1 := needed_closed ids x.l hx p (by rw [hp]; simp) q hq hd hlt
    rw [hp] at h1
    rcases List.mem_cons.1 h1 with h | h
    · rw [h] at hlt; omega
    · have := (List.pairwise_cons.1 hrise).1 q h; omega
  have hO : Rise (openL x p.sec) := hx.filter _
  have hpo : p ∈ openL x p.sec := List.mem_filter.2 ⟨hpx, by simp [openQ, hw p hpx]⟩
  obtain ⟨s1, s2, hpart, -⟩ := rdy_spec x _ hO
  refine ⟨?_, hpx⟩
  rcases hpart p hpo with h | h
  · exact List.mem_map.2 ⟨p, h, rfl⟩
  · rcases rdy_not x _ hO p h with h1 | ⟨q, hq, hlt, hm⟩
    · unfold waitsB at h1
      obtain ⟨k, hk, hf⟩ := List.any_eq_true.1 h1
      cases hfk : x.find k with
      | none => rw [hfk] at hf; cases hf
      | some q =>
        obtain ⟨hqx, hqk⟩ := find_mem hfk
        have hlt := hn p hpx k hk
        exact (least q hqx (by unfold depB; rw [hqk]; simp [hk]) (by omega)).elim
    · obtain ⟨hqx, hqo⟩ := List.mem_filter.1 (s2.subset hq)
      have hqo' : q.sec = p.sec ∧ q.written = false := by simpa [openQ] using hqo
      exact (least q hqx (by unfold depB; simp [hw p hpx, hqo', hlt, hm]) hlt).elim

theorem carryW_run {x : G} : ∀ (S : List Int) (y : G) (L : List Int), Run x y L → Run x (carryW y S).2 (L ++ (carryW y S).1)
  | [], y, L, h => by
    show Run x y (L ++ [])
    rw [List.append_nil]; exact h
  | s :: S, y, L, h => by
    have := carryW_run S _ _ (h.step s)
    rw [List.append_assoc] at this
    exact this
theorem settle_len (y : G) : (settleG y fun _ => true).l.length + wcount y = y.l.length ∧ (settleG y fun _ => true).l.Sublist y.l ∧ ∀ p ∈ (settleG y fun _ => true).l, p.written = false := by
  have e : (settleG y fun _ => true).l = y.l.filter fun p => !p.written := by
    unfold settleG
    simp
  refine ⟨?_, ?_, fun p hp => ?_⟩
  · rw [e]
    unfold wcount
    generalize y.l = l
    induction l with
    | nil => rfl
    | cons p l ih =>
      rw [List.filter_cons, List.filter_cons]
      cases p.written <;> simp <;> omega
  · rw [e]; exact List.filter_sublist
  · rw [e] at hp
    simpa using (List.mem_filter.1 hp).2
theorem Fine.sub {x y : G} (h : Fine x) (hs : y.l.Sublist x.l) : Fine y := ⟨h.rise.sublist hs, Nat.le_trans hs.length_le h.len, fun p hp => h.all p (hs.subset hp)⟩
theorem Fine.carry {x : G} (h : Fine x) (S : List Int) : Fine (carryG x S) := by
  have hr := carryW_run S x [] (Run.start h.rise)
  exact (h.like hr.rise hr.same).sub (settle_len _).2.1

theorem next_less {x : G} (h : Fine x) {ids : List Int} {b : List Int × Bool} (hb : planNext x ids = some b) : (carryG x b.1).l.length < x.l.length := by
  have hr := carryW_run b.1 x [] (Run.start h.rise)
  rw [List.nil_append] at hr
  obtain ⟨h1, -, -⟩ := settle_len (carryW x b.1).2
  have hlen := hr.len
  have hcnt := hr.cnt
  show (settleG (carryW x b.1).2 fun _ => true).l.length < _
  have key : 1 ≤ wcount x ∨ 1 ≤ (carryW x b.1).1.length := by
    by_cases hw : wcount x = 0
    · right
      have hwr : ∀ p ∈ x.l, p.written = false := fun p hp => by
        unfold wcount at hw
        have := List.filter_eq_nil_iff.1 (List.eq_nil_of_length_eq_zero hw) p hp
        simpa using this
      unfold planNext at hb
      split at hb
      · cases hb
      · rename_i hne
        injection hb with hb
        obtain ⟨p, r, hpr⟩ : ∃ p r, neededL x.l ids = p :: r := by
          cases hN : neededL x.l ids with
          | nil => exact absurd (by unfold neededG; rw [hN]; rfl) hne
          | cons p r => exact ⟨p, r, rfl⟩
        obtain ⟨hrd, hpx⟩ := first_needed h.rise (fun p hp => (h.all p hp).2.2.1) hwr hpr
        have hneed : p.id ∈ neededG x ids := by unfold neededG; rw [hpr]; simp
        have hsS : p.sec ∈ b.1 := by
          rw [← hb]
          unfold planSecs
          exact List.mem_filter.2 ⟨mem_secsG.2 ⟨p, hpx, hwr p hpx, rfl⟩, List.any_eq_true.2 ⟨p.id, hrd, by simpa using hneed⟩⟩
        cases hS : b.1 with
        | nil => rw [hS] at hsS; cases hsS
        | cons s S =>
          have hs1 : s ∈ planSecs x (neededG x ids) := by
            have : s ∈ b.1 := by rw [hS]; simp
            rw [← hb] at this
            exact this
          unfold planSecs at hs1
          obtain ⟨k, hk, _⟩ := List.any_eq_true.1 (List.mem_filter.1 hs1).2
          show 1 ≤ (readyG x s ++ _).length
          rw [List.length_append]
          have := List.length_pos_of_mem hk
          omega
    · left; omega
  omega
theorem batches_on {x : G} (h : Fine x) {ids : List Int} {b : List Int × Bool} (hb : planNext x ids = some b) : ∀ n, x.l.length + 1 ≤ n → batchesF ids n x = b :: batchesF ids ((carryG x b.1).l.length + 1) (carryG x b.1) := by
  have hmore : ∀ (m : Nat) (z : G), Fine z → z.l.length ≤ m → ∀ n, z.l.length + 1 ≤ n → batchesF ids n z = batchesF ids (z.l.length + 1) z := by
    intro m
    induction m with
    | zero =>
      intro z hz hm n hn
      obtain ⟨k, rfl⟩ : ∃ k, n = k + 1 := ⟨n - 1, by omega⟩
      show (match planNext z ids with | none => [] | some b => b :: batchesF ids k (carryG z b.1)) = (match planNext z ids with | none => [] | some b => b :: batchesF ids z.l.length (carryG z b.1))
      cases hp : planNext z ids with
      | none => rfl
      | some b => have := next_less hz hp; omega
    | succ m ih =>
      intro z hz hm n hn
      obtain ⟨k, rfl⟩ : ∃ k, n = k + 1 := ⟨n - 1, by omega⟩
      show (match planNext z ids with | none => [] | some b => b :: batchesF ids k (carryG z b.1)) = (match planNext z ids with | none => [] | some b => b :: batchesF ids z.l.length (carryG z b.1))
      cases hp : planNext z ids with
      | none => rfl
      | some b =>
        have hl := next_less hz hp
        have e1 := ih (carryG z b.1) (hz.carry b.1) (by omega) k (by omega)
        have e2 := ih (carryG z b.1) (hz.carry b.1) (by omega) z.l.length (by omega)
        show b :: batchesF ids k (carryG z b.1) = b :: batchesF ids z.l.length (carryG z b.1)
        rw [e1, e2]
  intro n hn
  obtain ⟨k, rfl⟩ : ∃ k, n = k + 1 := ⟨n - 1, by omega⟩
  show (match planNext x ids with | none => [] | some b => b :: batchesF ids k (carryG x b.1)) = _
  rw [hb]
  show b :: batchesF ids k (carryG x b.1) = _
  have hl := next_less h hb
  rw [hmore _ (carryG x b.1) (h.carry b.1) (Nat.le_refl _) k (by omega)]
theorem batches_off {x : G} {ids : List Int} (hb : planNext x ids = none) (n : Nat) : batchesF ids n x = [] := by
  cases n with
  | zero => rfl
  | succ n =>
    show (match planNext x ids with | none => [] | some b => b :: batchesF ids n (carryG x b.1)) = []
    rw [hb]
end Go.Proofs.Ytmkfaibjjbgbbaa
