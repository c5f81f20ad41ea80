/- When all batches were carried out nothing that was needed is there. No program in sight. -/
import Derived.Test.YtmkfaibjjbgbbaaBatLaw
namespace Go.Proofs.Ytmkfaibjjbgbbaa
set_option linter.unusedVariables false

theorem writeG_markL : ∀ (L : List Int) (y : G), (writeG y L).1 = 0 → (writeG y L).2 = markL y L := by
  intro L
  induction L with
  | nil => intro y _; rfl
  | cons k r ih =>
    intro y h
    have e : writeG y (k :: r) = if (wr1 y k).1 = 0 then writeG (wr1 y k).2 r else ((wr1 y k).1, y) := rfl
    rw [e] at h ⊢
    split at h
    · rename_i h0
      rw [if_pos h0]
      have : (wr1 y k).2 = mark y k := by
        unfold wr1 at h0 ⊢
        cases hf : y.find k with
        | none => rw [hf] at h0; cases h0
        | some p =>
          rw [hf] at h0
          dsimp only at h0 ⊢
          split at h0
          · cases h0
          · rename_i hc
            rw [if_neg hc]
      rw [this] at h ⊢
      exact ih _ h
    · rename_i h0
      exact absurd h h0
theorem un_of_mark {y : G} {k : Int} {p : Pt} (hp : p ∈ (mark y k).l) (hw : p.written = false) : p ∈ y.l ∧ p.id ≠ k := by
  obtain ⟨q, hq, rfl⟩ := List.mem_map.1 hp
  split at hw
  · cases hw
  · rename_i h
    rw [if_neg h]
    exact ⟨hq, h⟩
theorem un_of_markL : ∀ (L : List Int) (y : G) {p : Pt}, p ∈ (markL y L).l → p.written = false → p ∈ y.l ∧ p.id ∉ L := by
  intro L
  induction L with
  | nil => intro y p hp _; exact ⟨hp, by simp⟩
  | cons k r ih =>
    intro y p hp hw
    obtain ⟨h1, h2⟩ := ih (mark y k) hp hw
    obtain ⟨h3, h4⟩ := un_of_mark h1 hw
    exact ⟨h3, by simp [h4, h2]⟩
theorem un_of_step {y : G} (hy : Rise y.l) {s : Int} {p : Pt} (hp : p ∈ (writeG y (readyG y s)).2.l) (hw : p.written = false) : p ∈ y.l ∧ p.id ∉ readyG y s := by
  obtain ⟨r1, -⟩ := ready_run hy s
  rw [writeG_markL _ _ r1] at hp
  exact un_of_markL _ _ hp hw
theorem un_of_carry : ∀ (S : List Int) (y : G), Rise y.l → ∀ p ∈ (carryW y S).2.l, p.written = false → p ∈ y.l := by
  intro S
  induction S with
  | nil => intro y _ p hp _; exact hp
  | cons s S ih =>
    intro y hy p hp hw
    have h := ih _ (ready_run hy s).2.1 p hp hw
    exact (un_of_step hy h hw).1
theorem ids_un {x y : G} (h : y.l.map Pt.un = x.l.map Pt.un) {p : Pt} (hp : p ∈ y.l) : ∃ q ∈ x.l, q.un = p.un := by
  have h1 : p.un ∈ x.l.map Pt.un := by rw [← h]; exact List.mem_map.2 ⟨p, hp, rfl⟩
  obtain ⟨q, hq, e⟩ := List.mem_map.1 h1
  exact ⟨q, hq, e⟩
theorem un_id {p q : Pt} (h : q.un = p.un) : q.id = p.id := show q.un.id = p.un.id from by rw [h]
/-- What is carried out is in the graph. -/
theorem carry_ids : ∀ (S : List Int) (y : G), Rise y.l → ∀ k ∈ (carryW y S).1, ∃ p ∈ y.l, p.id = k := by
  intro S
  induction S with
  | nil => intro y _ k hk; cases hk
  | cons s S ih =>
    intro y hy k hk
    have hk' : k ∈ readyG y s ++ (carryW (writeG y (readyG y s)).2 S).1 := hk
    rcases List.mem_append.1 hk' with h | h
    · unfold readyG at h
      obtain ⟨p, hp, rfl⟩ := List.mem_map.1 h
      have hmm := (rdy_mem (x := y) (openL y s) ([], []) (· ∈ y.l) (fun q h => by cases h) (fun q h => by cases h) (fun q h => (List.mem_filter.1 h).1)).1 p hp
      exact ⟨p, hmm, rfl⟩
    · obtain ⟨r1, r2, r3, r4, r5⟩ := ready_run hy s
      obtain ⟨p, hp, e⟩ := ih _ r2 k h
      obtain ⟨q, hq, e2⟩ := ids_un r4 hp
      exact ⟨q, hq, (un_id e2).trans e⟩

/-- Who is needed first and is not written is ready, whatever else was written. -/
theorem first_still {x y : G} (hx : Rise x.l) (hy : Rise y.l) (hn : ∀ p ∈ x.l, ∀ k ∈ p.needs, k < p.id) (hun : y.l.map Pt.un = x.l.map Pt.un) (hin : ∀ q ∈ y.l, q.written = false → q ∈ x.l) {ids : List Int} {p : Pt} {r : List Pt} (hp : neededL x.l ids = p :: r) (hpy : p ∈ y.l) (hw : p.written = false) : p.id ∈ readyG y p.sec := by
  have hsub := neededL_sub x.l ids
  have hrise : Rise (p :: r) := by rw [← hp]; exact hx.sublist hsub
  have hpx : p ∈ x.l := hsub.subset (by rw [hp]; simp)
  have least : ∀ q ∈ x.l, depB p q = true → q.id < p.id → False := fun q hq hd hlt => by
    have h1 := needed_closed ids x.l hx p (by rw [hp]; simp) q hq hd hlt
    rw [hp] at h1
    rcases List.mem_cons.1 h1 with h | h
    · rw [h] at hlt; omega
    · have := (List.pairwise_cons.1 hrise).1 q h; omega
  have hO : Rise (openL y p.sec) := hy.filter _
  have hpo : p ∈ openL y p.sec := List.mem_filter.2 ⟨hpy, by simp [openQ, hw]⟩
  obtain ⟨s1, s2, hpart, -⟩ := rdy_spec y _ hO
  rcases hpart p hpo with h | h
  · exact List.mem_map.2 ⟨p, h, rfl⟩
  · rcases rdy_not y _ hO p h with h1 | ⟨q, hq, hlt, hm⟩
    · unfold waitsB at h1
      obtain ⟨k, hk, hf⟩ := List.any_eq_true.1 h1
      cases hfk : y.find k with
      | none => rw [hfk] at hf; cases hf
      | some q =>
        obtain ⟨hqy, hqk⟩ := find_mem hfk
        obtain ⟨q0, hq0, e⟩ := ids_un hun hqy
        have hk0 : q0.id = k := (un_id e).trans hqk
        have hlt := hn p hpx k hk
        exact (least q0 hq0 (by unfold depB; rw [hk0]; simp [hk]) (by omega)).elim
    · obtain ⟨hqy, hqo⟩ := List.mem_filter.1 (s2.subset hq)
      have hqo' : q.sec = p.sec ∧ q.written = false := by simpa [openQ] using hqo
      exact (least q (hin q hqy hqo'.2) (by unfold depB; simp [hw, hqo', hlt, hm]) hlt).elim
theorem first_gone {x : G} (hx : Rise x.l) (hn : ∀ p ∈ x.l, ∀ k ∈ p.needs, k < p.id) {ids : List Int} {p : Pt} {r : List Pt} (hp : neededL x.l ids = p :: r) : ∀ (S : List Int) (y : G), Rise y.l → y.l.map Pt.un = x.l.map Pt.un → (∀ q ∈ y.l, q.written = false → q ∈ x.l) → p.sec ∈ S → ∀ z ∈ (carryW y S).2.l, z.written = false → z.id ≠ p.id := by
  intro S
  induction S with
  | nil => intro y _ _ _ h; cases h
  | cons s S ih =>
    intro y hy hun hin hs z hz hw e
    have hpx : p ∈ x.l := (neededL_sub x.l ids).subset (by rw [hp]; simp)
    obtain ⟨r1, r2, r3, r4, r5⟩ := ready_run hy s
    have hz' : z ∈ (carryW (writeG y (readyG y s)).2 S).2.l := hz
    have h1 := un_of_carry S _ r2 z hz' hw
    obtain ⟨h2, h3⟩ := un_of_step hy h1 hw
    by_cases hsp : s = p.sec
    · have hzp : z = p := id_inj hx (hin z h2 hw) hpx e
      subst hzp
      rw [hsp] at h3
      exact h3 (first_still hx hy hn hun hin hp h2 hw)
    · refine ih _ r2 (r4.trans hun) (fun q hq hqw => hin q (un_of_step hy hq hqw).1 hqw) ?_ z hz' hw e
      rcases List.mem_cons.1 hs with h | h
      · exact absurd h.symm hsp
      · exact h

theorem rise_sub : ∀ (l l' : List Pt), Rise l → Rise l' → (∀ p ∈ l', p ∈ l) → l'.Sublist l := by
  intro l
  induction l with
  | nil =>
    intro l' _ _ h
    cases l' with
    | nil => exact List.Sublist.refl _
    | cons a t => have := h a (by simp); cases this
  | cons a l ih =>
    intro l' hl hl' h
    obtain ⟨h1, h2⟩ := List.pairwise_cons.1 hl
    cases l' with
    | nil => exact List.nil_sublist _
    | cons b t =>
      obtain ⟨k1, k2⟩ := List.pairwise_cons.1 hl'
      rcases List.mem_cons.1 (h b (by simp)) with rfl | hb
      · refine List.Sublist.cons_cons b (ih t h2 k2 fun p hp => ?_)
        rcases List.mem_cons.1 (h p (List.mem_cons_of_mem _ hp)) with rfl | h'
        · have := k1 p hp; omega
        · exact h'
      · refine List.Sublist.cons a (ih (b :: t) h2 hl' fun p hp => ?_)
        rcases List.mem_cons.1 (h p hp) with rfl | h'
        · have hb' := h1 b hb
          rcases List.mem_cons.1 hp with rfl | hp
          · omega
          · have := k1 p hp; omega
        · exact h'
theorem needed_mono (ids : List Int) : ∀ (l' l : List Pt), l'.Sublist l → ∀ p ∈ neededL l' ids, p ∈ neededL l ids := by
  intro l' l h
  have hN : ∀ (a : Pt) (l : List Pt), neededL (a :: l) ids = if ids.contains a.id || (neededL l ids).any (fun q => depB q a) then a :: neededL l ids else neededL l ids := fun _ _ => rfl
  induction h with
  | slnil => intro p hp; exact hp
  | cons a h ih =>
    intro p hp
    rw [hN]
    split
    · exact List.mem_cons_of_mem _ (ih p hp)
    · exact ih p hp
  | cons_cons a h ih =>
    intro p hp
    rw [hN] at hp ⊢
    split at hp
    · rename_i hc
      rw [if_pos (by
        rcases Bool.or_eq_true _ _ |>.mp hc with h1 | h1
        · rw [h1]; rfl
        · obtain ⟨q, hq, hd⟩ := List.any_eq_true.1 h1
          rw [List.any_eq_true.2 ⟨q, ih q hq, hd⟩, Bool.or_true])]
      rcases List.mem_cons.1 hp with rfl | hp
      · simp
      · exact List.mem_cons_of_mem _ (ih p hp)
    · have := ih p hp
      split
      · exact List.mem_cons_of_mem _ this
      · exact this

theorem mem_settle {y : G} {p : Pt} : p ∈ (settleG y fun _ => true).l ↔ p ∈ y.l ∧ p.written = false := by
  unfold settleG
  simp [List.mem_filter]
theorem carry_sub {x : G} (hx : Rise x.l) (S : List Int) : (carryG x S).l.Sublist x.l := by
  have hr := carryW_run S x [] (Run.start hx)
  refine rise_sub _ _ hx (hr.rise.sublist (settle_len _).2.1) fun p hp => ?_
  obtain ⟨h1, h2⟩ := mem_settle.1 (show p ∈ (settleG (carryW x S).2 fun _ => true).l from hp)
  exact un_of_carry S x hx p h1 h2
theorem next_fewer {x : G} (h : Fine x) {ids : List Int} {b : List Int × Bool} (hb : planNext x ids = some b) : (neededL (carryG x b.1).l ids).length < (neededL x.l ids).length := by
  obtain ⟨p, r, hpr⟩ : ∃ p r, neededL x.l ids = p :: r := by
    cases hN : neededL x.l ids with
    | nil =>
      unfold planNext at hb
      rw [if_pos (by unfold neededG; rw [hN]; rfl)] at hb
      cases hb
    | cons p r => exact ⟨p, r, rfl⟩
  have hn : ∀ p ∈ x.l, ∀ k ∈ p.needs, k < p.id := fun p hp => (h.all p hp).2.2.1
  have hpx : p ∈ x.l := (neededL_sub x.l ids).subset (by rw [hpr]; simp)
  have hsub := carry_sub h.rise b.1
  have hnp : p ∉ (carryG x b.1).l := by
    intro hm
    obtain ⟨h1, h2⟩ := mem_settle.1 (show p ∈ (settleG (carryW x b.1).2 fun _ => true).l from hm)
    have hrd := first_still h.rise h.rise hn rfl (fun q hq _ => hq) hpr hpx h2
    have hsS : p.sec ∈ b.1 := by
      unfold planNext at hb
      split at hb
      · cases hb
      · injection hb with hb
        rw [← hb]
        unfold planSecs
        refine List.mem_filter.2 ⟨mem_secsG.2 ⟨p, hpx, h2, rfl⟩, List.any_eq_true.2 ⟨p.id, hrd, ?_⟩⟩
        have hneed : p.id ∈ neededG x ids := by unfold neededG; rw [hpr]; simp
        simpa using hneed
    exact first_gone h.rise hn hpr b.1 x h.rise rfl (fun q hq _ => hq) hsS p h1 h2 rfl
  have hmono := needed_mono ids _ _ hsub
  have hr1 : Rise (neededL (carryG x b.1).l ids) := (h.rise.sublist hsub).sublist (neededL_sub _ _)
  have hnd : (neededL (carryG x b.1).l ids).Nodup := hr1.imp fun h e => by rw [e] at h; omega
  have hle : (neededL (carryG x b.1).l ids).length ≤ r.length := List.Nodup.length_le_of_subset hnd fun q hq => by
    have h1 := hmono q hq
    rw [hpr] at h1
    rcases List.mem_cons.1 h1 with rfl | h1
    · exact absurd ((neededL_sub _ _).subset hq) hnp
    · exact h1
  rw [hpr, List.length_cons]
  omega
theorem batches_few : ∀ (n : Nat) (x : G), Fine x → ∀ ids, (batchesF ids n x).length ≤ (neededG x ids).length := by
  intro n
  induction n with
  | zero => intro x _ ids; exact Nat.zero_le _
  | succ n ih =>
    intro x h ids
    show (match planNext x ids with | none => [] | some b => b :: batchesF ids n (carryG x b.1)).length ≤ _
    cases hp : planNext x ids with
    | none => exact Nat.zero_le _
    | some b =>
      have h1 := ih _ (h.carry b.1) ids
      have h2 := next_fewer h hp
      unfold neededG at h1 ⊢
      rw [List.length_map] at h1 ⊢
      show (batchesF ids n (carryG x b.1)).length + 1 ≤ _
      omega

/-- What is written waits for none that is there. -/
def Due (x : G) : Prop := ∀ p ∈ x.l, p.written = true → waitsB x p = false
def Clean (x y : G) : Prop := ∀ p ∈ y.l, p.written = true → waitsB y p = false ∧ (p ∈ x.l ∨ ∀ q ∈ y.l, q.written = false → q.sec = p.sec → q.id < p.id → meetB q p = false)
theorem Due.clean {x : G} (h : Due x) : Clean x x := fun p hp hw => ⟨h p hp hw, .inl hp⟩
theorem Clean.due {x y : G} (h : Clean x y) : Due y := fun p hp hw => (h p hp hw).1
theorem Clean.wr1 {x y : G} (hy : Rise y.l) (h : Clean x y) (k : Int) : Clean x (wr1 y k).2 := by
  unfold Go.Proofs.Ytmkfaibjjbgbbaa.wr1
  cases hf : y.find k with
  | none => exact h
  | some p =>
    dsimp only
    obtain ⟨hpy, hpk⟩ := find_mem hf
    split
    · exact h
    · rename_i hc
      have hc' : (readyG y p.sec).contains k = true ∧ behindB y p = false := by
        cases h1 : (readyG y p.sec).contains k <;> cases h2 : behindB y p <;> simp_all
      have hO : Rise (openL y p.sec) := hy.filter _
      obtain ⟨s1, s2, hpart, hrd⟩ := rdy_spec y _ hO
      have hpr : p ∈ (rdy y (openL y p.sec)).1 := by
        have h1 := hc'.1
        rw [List.contains_iff_mem] at h1
        unfold readyG at h1
        obtain ⟨q, hq, e⟩ := List.mem_map.1 h1
        have hqy := (List.mem_filter.1 (s1.subset hq)).1
        have e2 := id_inj hy hqy hpy (e.trans hpk.symm)
        subst e2
        exact hq
      intro z hz hw
      obtain ⟨a, ha, rfl⟩ := List.mem_map.1 hz
      by_cases hk : a.id = k
      · have : a = p := id_inj hy ha hpy (hk.trans hpk.symm)
        subst this
        rw [if_pos hk]
        refine ⟨(waits_mark y k a.done).trans (hrd a hpr).1, .inr fun q hq hqw hqs hlt => ?_⟩
        obtain ⟨h1, h2⟩ := un_of_mark hq hqw
        have hb := hc'.2
        unfold behindB at hb
        rw [List.any_eq_false] at hb
        have := hb q (List.mem_filter.2 ⟨h1, by have : q.sec = a.sec := hqs; simp [openQ, hqw, this]⟩)
        have hlt' : q.id < a.id := hlt
        show meetB q a = false
        simpa [hlt'] using this
      · rw [if_neg hk] at hw ⊢
        obtain ⟨h1, h2⟩ := h a ha hw
        refine ⟨(waits_mark y k a).trans h1, h2.imp_right fun h2 q hq hqw => ?_⟩
        exact h2 q (un_of_mark hq hqw).1 hqw
theorem wr1_rise {y : G} (hy : Rise y.l) (k : Int) : Rise (wr1 y k).2.l := by
  unfold wr1
  cases y.find k with
  | none => exact hy
  | some p =>
    dsimp only
    split
    · exact hy
    · exact mark_rise hy k
theorem Clean.writeG {x : G} : ∀ (L : List Int) (y : G), Rise y.l → Clean x y → Clean x (writeG y L).2 := by
  intro L
  induction L with
  | nil => intro y _ h; exact h
  | cons k r ih =>
    intro y hy h
    have e : Go.Proofs.Ytmkfaibjjbgbbaa.writeG y (k :: r) = if (Go.Proofs.Ytmkfaibjjbgbbaa.wr1 y k).1 = 0 then Go.Proofs.Ytmkfaibjjbgbbaa.writeG (Go.Proofs.Ytmkfaibjjbgbbaa.wr1 y k).2 r else ((Go.Proofs.Ytmkfaibjjbgbbaa.wr1 y k).1, y) := rfl
    rw [e]
    split
    · exact ih _ (wr1_rise hy k) (h.wr1 hy k)
    · exact h
theorem Clean.carry {x : G} : ∀ (S : List Int) (y : G), Rise y.l → Clean x y → Clean x (carryW y S).2 := by
  intro S
  induction S with
  | nil => intro y _ h; exact h
  | cons s S ih =>
    intro y hy h
    exact ih _ (ready_run hy s).2.1 (h.writeG _ y hy)
theorem Due.carry {x : G} (S : List Int) : Due (carryG x S) := fun p hp hw => by
  have := (mem_settle.1 (show p ∈ (settleG (carryW x S).2 fun _ => true).l from hp)).2
  rw [this] at hw; cases hw

/-- Who is needed, and why. -/
theorem needed_why (ids : List Int) : ∀ l : List Pt, Rise l → ∀ p ∈ neededL l ids, p.id ∈ ids ∨ ∃ q ∈ neededL l ids, p.id < q.id ∧ depB q p = true := by
  intro l
  induction l with
  | nil => intro _ p hp; cases hp
  | cons a l ih =>
    intro hr p hp
    obtain ⟨h1, h2⟩ := List.pairwise_cons.1 hr
    have hN : neededL (a :: l) ids = if ids.contains a.id || (neededL l ids).any (fun q => depB q a) then a :: neededL l ids else neededL l ids := rfl
    have up : ∀ q ∈ neededL l ids, q ∈ neededL (a :: l) ids := needed_mono ids _ _ (List.sublist_cons_self a l)
    have old : p ∈ neededL l ids → p.id ∈ ids ∨ ∃ q ∈ neededL (a :: l) ids, p.id < q.id ∧ depB q p = true := fun h => by
      rcases ih h2 p h with h | ⟨q, hq, h⟩
      · exact .inl h
      · exact .inr ⟨q, up q hq, h⟩
    have hp' := hp
    rw [hN] at hp'
    split at hp'
    · rename_i hc
      rcases List.mem_cons.1 hp' with rfl | h
      · rcases Bool.or_eq_true _ _ |>.mp hc with h | h
        · exact .inl (by simpa using h)
        · obtain ⟨q, hq, hd⟩ := List.any_eq_true.1 h
          exact .inr ⟨q, up q hq, h1 q ((neededL_sub _ _).subset hq), hd⟩
      · exact old h
    · exact old hp'
theorem needed_of_id (ids : List Int) : ∀ l : List Pt, ∀ p ∈ l, p.id ∈ ids → p ∈ neededL l ids := by
  intro l
  induction l with
  | nil => intro p hp; cases hp
  | cons a l ih =>
    intro p hp hid
    have hN : neededL (a :: l) ids = if ids.contains a.id || (neededL l ids).any (fun q => depB q a) then a :: neededL l ids else neededL l ids := rfl
    rw [hN]
    rcases List.mem_cons.1 hp with rfl | h
    · rw [if_pos (by simp [hid])]; simp
    · have := ih p h hid
      split
      · exact List.mem_cons_of_mem _ this
      · exact this
/-- What stays and was needed still is. -/
theorem needed_stays {x : G} (h : Fine x) (hd : Due x) (S ids : List Int) : ∀ (n : Nat) (p : Pt), p ∈ (carryG x S).l → p ∈ neededL x.l ids → (neededL x.l ids).length ≤ n + ((neededL x.l ids).filter (fun q => decide (q.id ≤ p.id))).length → p ∈ neededL (carryG x S).l ids := by
  have hsub := carry_sub h.rise S
  have hR := h.rise.sublist hsub
  have hrun := carryW_run S x [] (Run.start h.rise)
  have hcl := Clean.carry S x h.rise hd.clean
  have hNR : Rise (neededL x.l ids) := h.rise.sublist (neededL_sub _ _)
  have key : ∀ p q, p ∈ (carryG x S).l → q ∈ neededL x.l ids → p.id < q.id → depB q p = true → q ∈ (carryG x S).l := by
    intro p q hp hq hlt hdep
    obtain ⟨p1, p2⟩ := mem_settle.1 (show p ∈ (settleG (carryW x S).2 fun _ => true).l from hp)
    have hqx := (neededL_sub _ _).subset hq
    obtain ⟨z, hz, e⟩ := ids_un (x := (carryW x S).2) (y := x) hrun.same.symm hqx
    have hid := un_id e
    cases hzw : z.written with
    | false =>
      have hzx := un_of_carry S x h.rise z hz hzw
      have := id_inj h.rise hzx hqx hid
      subst this
      exact mem_settle.2 ⟨hz, hzw⟩
    | true =>
      exfalso
      obtain ⟨c1, c2⟩ := hcl z hz hzw
      unfold depB at hdep
      rcases Bool.or_eq_true _ _ |>.mp hdep with hd1 | hd1
      · have hneeds : z.needs = q.needs := show z.un.needs = q.un.needs from by rw [e]
        unfold waitsB at c1
        rw [List.any_eq_false] at c1
        have hm : p.id ∈ z.needs := by rw [hneeds]; simpa using hd1
        have := c1 p.id hm
        rw [find_id hrun.rise p1] at this
        simp at this
      · have hd2 : q.written = false ∧ p.written = false ∧ p.sec = q.sec ∧ p.id < q.id ∧ meetB p q = true := by
          simpa using hd1
        rcases c2 with c2 | c2
        · have := id_inj h.rise c2 hqx hid
          subst this
          rw [hzw] at hd2
          cases hd2.1
        · have hs : z.sec = q.sec := show z.un.sec = q.un.sec from by rw [e]
          have hm : meetB p z = meetB p q := show meetB p z.un = meetB p q.un from by rw [e]
          have := c2 p p1 p2 (hd2.2.2.1.trans hs.symm) (by omega)
          rw [hm, hd2.2.2.2.2] at this
          cases this
  intro n
  induction n with
  | zero =>
    intro p hp hpn hle
    rcases needed_why ids x.l h.rise p hpn with h1 | ⟨q, hq, hlt, hdep⟩
    · exact needed_of_id ids _ p hp h1
    · exfalso
      have hlt2 : ((neededL x.l ids).filter (fun q => decide (q.id ≤ p.id))).length < (neededL x.l ids).length := by
        have hle2 := List.length_filter_le (fun q : Pt => decide (q.id ≤ p.id)) (neededL x.l ids)
        rcases Nat.lt_or_ge ((neededL x.l ids).filter (fun q => decide (q.id ≤ p.id))).length (neededL x.l ids).length with h | h
        · exact h
        · exfalso
          have := List.length_filter_eq_length_iff.1 (Nat.le_antisymm hle2 h) q hq
          simp at this
          omega
      omega
  | succ n ih =>
    intro p hp hpn hle
    rcases needed_why ids x.l h.rise p hpn with h1 | ⟨q, hq, hlt, hdep⟩
    · exact needed_of_id ids _ p hp h1
    · have hqc := key p q hp hq hlt hdep
      have hmore : ((neededL x.l ids).filter (fun z => decide (z.id ≤ p.id))).length < ((neededL x.l ids).filter (fun z => decide (z.id ≤ q.id))).length := by
        generalize neededL x.l ids = N at *
        have hs1 : ((N.filter fun z => decide (z.id ≤ q.id)).filter fun z => decide (z.id ≤ p.id)) = N.filter fun z => decide (z.id ≤ p.id) := by
          rw [List.filter_filter]
          apply List.filter_congr
          intro z _
          by_cases hz : z.id ≤ p.id
          · have : z.id ≤ q.id := by omega
            simp [hz, this]
          · simp [hz]
        have hm : q ∈ N.filter fun z => decide (z.id ≤ q.id) := List.mem_filter.2 ⟨hq, by simp⟩
        rw [← hs1]
        generalize (N.filter fun z => decide (z.id ≤ q.id)) = M at *
        have hle2 := List.length_filter_le (fun z : Pt => decide (z.id ≤ p.id)) M
        rcases Nat.lt_or_ge (M.filter (fun z => decide (z.id ≤ p.id))).length M.length with h | h
        · exact h
        · exfalso
          have := List.length_filter_eq_length_iff.1 (Nat.le_antisymm hle2 h) q hm
          simp at this
          omega
      have hqn := ih q hqc hq (by omega)
      exact needed_closed ids _ hR q hqn p hp hdep hlt
/-- What comes when batches are carried out in their order. -/
def endG (x : G) : List (List Int × Bool) → G
  | [] => x
  | b :: r => endG (carryG x b.1) r
theorem end_batches (ids : List Int) : ∀ (n : Nat) (x : G), Fine x → Due x → x.l.length + 1 ≤ n → neededG (endG x (batchesF ids n x)) ids = [] ∧ (endG x (batchesF ids n x)).l.Sublist x.l ∧ ∀ k ∈ neededG x ids, (endG x (batchesF ids n x)).find k = none := by
  intro n
  induction n with
  | zero => intro x _ _ h; omega
  | succ n ih =>
    intro x h hd hl
    have e : batchesF ids (n + 1) x = match planNext x ids with | none => [] | some b => b :: batchesF ids n (carryG x b.1) := rfl
    rw [e]
    cases hp : planNext x ids with
    | none =>
      have hN : neededG x ids = [] := by
        unfold planNext at hp
        split at hp
        · rename_i h; exact h
        · cases hp
      show neededG x ids = [] ∧ x.l.Sublist x.l ∧ _
      rw [hN]
      exact ⟨rfl, List.Sublist.refl _, fun k hk => by cases hk⟩
    | some b =>
      have hless := next_less h hp
      obtain ⟨h1, h2, h3⟩ := ih (carryG x b.1) (h.carry b.1) (Due.carry b.1) (by omega)
      show neededG (endG (carryG x b.1) (batchesF ids n (carryG x b.1))) ids = [] ∧ (endG (carryG x b.1) (batchesF ids n (carryG x b.1))).l.Sublist x.l ∧ ∀ k ∈ neededG x ids, (endG (carryG x b.1) (batchesF ids n (carryG x b.1))).find k = none
      have hsub := carry_sub h.rise b.1
      refine ⟨h1, h2.trans hsub, fun k hk => ?_⟩
      cases hf : (endG (carryG x b.1) (batchesF ids n (carryG x b.1))).find k with
      | none => rfl
      | some p =>
        exfalso
        obtain ⟨hpm, hpk⟩ := find_mem hf
        have hpc := h2.subset hpm
        unfold neededG at hk
        obtain ⟨q, hq, hqk⟩ := List.mem_map.1 hk
        have hpx := hsub.subset hpc
        have := id_inj h.rise hpx ((neededL_sub _ _).subset hq) (hpk.trans hqk.symm)
        subst this
        have hstay := needed_stays h hd b.1 ids (neededL x.l ids).length p hpc hq (by omega)
        have := h3 k (by unfold neededG; exact List.mem_map.2 ⟨p, hstay, hpk⟩)
        rw [this] at hf
        cases hf
end Go.Proofs.Ytmkfaibjjbgbbaa
