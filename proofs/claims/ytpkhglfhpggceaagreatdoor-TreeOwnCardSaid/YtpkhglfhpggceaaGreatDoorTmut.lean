/- The tree's memory turns: a node's links or bytes, its names, a node comes or goes, its table turns. -/
import Derived.Test.YtpkhglfhpggceaaGreatDoorDir
namespace Go.Proofs.YtpkhglfhpggceaaGreatDoor
open Go.RowKit Go.Maps
set_option linter.unusedVariables false

section
variable {F F' : Nat → Prop} {w w' : World} {t c : Nat} {M : TMem} {a : TS}
theorem TreeIs.hp_ne (h : TreeIs F w t M c a) {k : Nat} (hk : (a.nd k).kind ≠ 0) : M.hp k ≠ t ∧ M.hp k ≠ M.mb ∧ (∀ k', (a.nd k').kind ≠ 0 → M.hp k ≠ M.nb k') ∧ (∀ k' j, (a.nd k').kind ≠ 0 → (M.dv k').ownBlock = some j → j ≠ M.hp k) ∧ ∀ j, foot M.tb M.T j → j ≠ M.hp k := by
 have h1 := (h.node k hk).1
 refine ⟨h1.ne_ h.blk (by decide), fun e => h.map.not_blk h1 e.symm, fun k' hk' e => ?_, fun k' j hk' hj e => ?_, fun j hj e => ?_⟩
 ·have h3 := (h.node k' hk').2.2.1.is
  obtain ⟨D, ⟨es, clock, hb, _⟩, _⟩ := h3
  unfold Blk at h1
  rw [e, hb] at h1
  cases h1
 ·obtain ⟨cs, h4⟩ := (h.node k' hk').2.1.type j hj
  exact h4.ne_ h1 (by decide) e
 ·rcases hj with rfl | ⟨i, x, hi, hx, rfl⟩
  ·exact h.tab.tab.ne_ h1 (by decide) e
  ·exact (h.tab.file i hi x hx).ne_ h1 (by decide) e
/-- A node's links or bytes turn. -/
theorem TreeIs.setNode (h : TreeIs F w t M c a) {k : Nat} (hk : (a.nd k).kind ≠ 0) {v : Nd} {u : Value} (hT : Turn (· = M.hp k) w w') (h1 : v.kind = (a.nd k).kind) (h2 : v.names = (a.nd k).names)
  (hb : Blk w' (M.hp k) 74 #[.int .i64 v.kind, .int .i64 v.links, u, .map (some (M.nb k))]) (hd : Byt w' u v.data) (hF : ∀ j, F j → F' j) (hu : ∀ j, u.ownBlock = some j → F' j) (hlt : ∀ j, F' j → j < w'.heap.size) (h0 : ¬ F' 0) :
  TreeIs F' w' t { M with dv := setF M.dv k u } c (a.setNd k v) := by
 obtain ⟨n1, n2, n3, n4, n5⟩ := h.hp_ne hk
 have hkk : ∀ i, ((a.setNd k v).nd i).kind = (a.nd i).kind := fun i => by
  show (setF a.nd k v i).kind = _
  by_cases e : i = k
  ·subst e; rw [setF_same, h1]
  ·rw [setF_other _ _ e]
 refine ⟨h.blk.turn hT n1.symm, ?_, fun i hi => ?_, h.tab.turn hT fun j hj => n5 j hj, h.op, fun i j hi hj => ?_, fun i hi => ?_, hF _ h.ft, hF _ h.fm, fun j hj => hF _ (h.ftab j hj), hlt, h0, mx_turn h.mx hT fun e => h.f0 (by rw [e]; exact (h.node k hk).2.2.2.1)⟩
 ·have e : nodeF { M with dv := setF M.dv k u } (a.setNd k v) = nodeF M a := by
   funext i
   unfold nodeF
   rw [hkk]
  rw [e]
  exact h.map.turn hT n2.symm
 ·rw [hkk] at hi
  obtain ⟨g1, g2, g3, g4, g5, g6⟩ := h.node i hi
  by_cases e : i = k
  ·subst e
   have e1 : (a.setNd i v).nd i = v := setF_same _ _ _
   have e2 : setF M.dv i u i = u := setF_same _ _ _
   show Blk w' (M.hp i) 74 #[.int .i64 ((a.setNd i v).nd i).kind, .int .i64 ((a.setNd i v).nd i).links, setF M.dv i u i, .map (some (M.nb i))] ∧ Byt w' (setF M.dv i u i) ((a.setNd i v).nd i).data ∧ MapS w' (M.nb i) c ((a.setNd i v).nd i).names ∧ F' (M.hp i) ∧ F' (M.nb i) ∧ ∀ j, (setF M.dv i u i).ownBlock = some j → F' j
   rw [e1, e2, h2]
   exact ⟨hb, hd, g3.turn hT (n3 i hi).symm, hF _ g4, hF _ g5, hu⟩
  ·have e1 : (a.setNd k v).nd i = a.nd i := setF_other _ _ e
   have e2 : setF M.dv k u i = M.dv i := setF_other _ _ e
   show Blk w' (M.hp i) 74 #[.int .i64 ((a.setNd k v).nd i).kind, .int .i64 ((a.setNd k v).nd i).links, setF M.dv k u i, .map (some (M.nb i))] ∧ Byt w' (setF M.dv k u i) ((a.setNd k v).nd i).data ∧ MapS w' (M.nb i) c ((a.setNd k v).nd i).names ∧ F' (M.hp i) ∧ F' (M.nb i) ∧ ∀ j, (setF M.dv k u i).ownBlock = some j → F' j
   rw [e1, e2]
   exact ⟨g1.turn hT fun x => e (h.inj i k hi hk (.inl x)), g2.turn hT fun j hj => n4 i j hi hj, g3.turn hT fun x => n3 i hi x.symm, hF _ g4, hF _ g5, fun j hj => hF _ (g6 j hj)⟩
 ·rw [hkk] at hi hj
  exact h.inj i j hi hj
 ·rw [hkk] at hi
  exact h.nmb i hi
/-- A directory's names turn. -/
theorem TreeIs.setNames (h : TreeIs F w t M c a) {k : Nat} (hk : (a.nd k).kind ≠ 0) {l : Names} {c' : Nat} (hc : c ≤ c') (hT : Turn (· = M.nb k) w w') (hm : MapS w' (M.nb k) c' l) : TreeIs F w' t M c' (a.setNd k { a.nd k with names := l }) := by
 have h3 := (h.node k hk).2.2.1.is
 have nb : ∀ {g : Nat} {ty : TypeId} {cs : Array Value}, Blk w g ty cs → g ≠ M.nb k := fun {g ty cs} hb e => by
  obtain ⟨D, ⟨es, clock, hx, _⟩, _⟩ := h3
  unfold Blk at hb
  rw [e, hx] at hb
  cases hb
 have hkk : ∀ i, ((a.setNd k { a.nd k with names := l }).nd i).kind = (a.nd i).kind := fun i => by
  show (setF a.nd k _ i).kind = _
  by_cases e : i = k
  ·subst e; rw [setF_same]
  ·rw [setF_other _ _ e]
 refine ⟨h.blk.turn hT (nb h.blk), ?_, fun i hi => ?_, h.tab.turn hT fun j hj => ?_, h.op, fun i j hi hj => ?_, fun i hi => ?_, h.ft, h.fm, h.ftab, fun j hj => Nat.lt_of_lt_of_le (h.lt j hj) hT.size, h.f0, mx_turn h.mx hT fun e => h.f0 (by rw [e]; exact (h.node k hk).2.2.2.2.1)⟩
 ·have e : nodeF M (a.setNd k { a.nd k with names := l }) = nodeF M a := by
   funext i
   unfold nodeF
   rw [hkk]
  rw [e]
  exact (h.map.turn hT (h.nmb k hk).symm).mono hc
 ·rw [hkk] at hi
  obtain ⟨g1, g2, g3, g4, g5, g6⟩ := h.node i hi
  by_cases e : i = k
  ·subst e
   have e1 : (a.setNd i { a.nd i with names := l }).nd i = { a.nd i with names := l } := setF_same _ _ _
   rw [e1]
   exact ⟨g1.turn hT (nb g1), g2.turn hT fun j hj => by obtain ⟨cs, hb⟩ := g2.type j hj; exact nb hb, hm, g4, g5, g6⟩
  ·have e1 : (a.setNd k { a.nd k with names := l }).nd i = a.nd i := setF_other _ _ e
   rw [e1]
   exact ⟨g1.turn hT (nb g1), g2.turn hT fun j hj => by obtain ⟨cs, hb⟩ := g2.type j hj; exact nb hb, (g3.turn hT fun x => e (h.inj i k hi hk (.inr x))).mono hc, g4, g5, g6⟩
 ·rcases hj with rfl | ⟨i, x, hi, hx, rfl⟩
  ·exact nb h.tab.tab
  ·exact nb (h.tab.file i hi x hx)
 ·rw [hkk] at hi hj
  exact h.inj i j hi hj
 ·rw [hkk] at hi
  exact h.nmb i hi
/-- A node goes. -/
theorem TreeIs.dropNode (h : TreeIs F w t M c a) {k : Nat} (hk : (a.nd k).kind ≠ 0) (hT : Turn (· = M.mb) w w') (hm : MapIs w' M.mb c (upd (nodeF M a) (k : Int) none)) : TreeIs F w' t M c (a.setNd k nd0) := by
 have nb : ∀ {g : Nat} {ty : TypeId} {cs : Array Value}, Blk w g ty cs → g ≠ M.mb := fun {g ty cs} hb e => h.map.not_blk hb e.symm
 have hlive : ∀ i, ((a.setNd k nd0).nd i).kind ≠ 0 → i ≠ k ∧ (a.setNd k nd0).nd i = a.nd i := fun i hi => by
  have hi : (setF a.nd k nd0 i).kind ≠ 0 := hi
  by_cases e : i = k
  ·subst e; rw [setF_same] at hi; exact absurd rfl hi
  ·exact ⟨e, setF_other _ _ e⟩
 refine ⟨h.blk.turn hT (nb h.blk), ?_, fun i hi => ?_, h.tab.turn hT fun j hj => ?_, h.op, fun i j hi hj => ?_, fun i hi => ?_, h.ft, h.fm, h.ftab, fun j hj => Nat.lt_of_lt_of_le (h.lt j hj) hT.size, h.f0, mx_turn h.mx hT fun e => h.f0 (by rw [e]; exact h.fm)⟩
 ·have e : nodeF M (a.setNd k nd0) = upd (nodeF M a) (k : Int) none := by
   funext i
   unfold nodeF
   by_cases e : i = (k : Int)
   ·subst e
    rw [upd_same]
    have e1 : (a.setNd k nd0).nd k = nd0 := setF_same _ _ _
    rw [show (k : Int).toNat = k from by omega, e1, if_neg fun x => x.2 rfl]
   ·rw [upd_other _ _ e]
    by_cases h0 : 0 ≤ i
    ·have e1 : (a.setNd k nd0).nd i.toNat = a.nd i.toNat := setF_other _ _ (by omega)
     rw [e1]
    ·rw [if_neg fun x => h0 x.1, if_neg fun x => h0 x.1]
  rw [e]
  exact hm
 ·obtain ⟨e, e1⟩ := hlive i hi
  rw [e1] at hi ⊢
  obtain ⟨g1, g2, g3, g4, g5, g6⟩ := h.node i hi
  exact ⟨g1.turn hT (nb g1), g2.turn hT fun j hj => by obtain ⟨cs, hb⟩ := g2.type j hj; exact nb hb, g3.turn hT (h.nmb i hi), g4, g5, g6⟩
 ·rcases hj with rfl | ⟨i, x, hi, hx, rfl⟩
  ·exact nb h.tab.tab
  ·exact nb (h.tab.file i hi x hx)
 ·have h1 := hlive i hi
  have h2 := hlive j hj
  rw [h1.2] at hi
  rw [h2.2] at hj
  exact h.inj i j hi hj
 ·have h1 := hlive i hi
  rw [h1.2] at hi
  exact h.nmb i hi
/-- The table turns. -/
theorem TreeIs.setTab (h : TreeIs F w t M c a) {T' : Nat → Option FileT} {op' : Nat → Option FT} (hT : Turn (fun j => foot M.tb M.T j) w w') (htab : Tab w' M.tb T') (hop : ∀ i, i < 8 → (T' i).map (·.2) = op' i)
  (hF : ∀ j, F j → F' j) (hft : ∀ j, foot M.tb T' j → F' j) (hlt : ∀ j, F' j → j < w'.heap.size) (h0 : ¬ F' 0) : TreeIs F' w' t { M with T := T' } c ⟨a.last, a.nd, op'⟩ := by
 have nb : ∀ {g : Nat} {ty : TypeId} {cs : Array Value}, Blk w g ty cs → ty ≠ 96 → ty ≠ 116 → ¬ foot M.tb M.T g := fun {g ty cs} hb h1 h2 hj => by
  rcases hj with e | ⟨i, x, hi, hx, e⟩
  ·exact hb.ne_ h.tab.tab h1 e
  ·exact hb.ne_ (h.tab.file i hi x hx) h2 e.symm
 have nm : ∀ {g : Nat}, (∀ ty cs, ¬ Blk w g ty cs) → ¬ foot M.tb M.T g := fun {g} hb hj => by
  rcases hj with e | ⟨i, x, hi, hx, e⟩
  ·subst e; exact hb _ _ h.tab.tab
  ·subst e; exact hb _ _ (h.tab.file i hi x hx)
 refine ⟨h.blk.turn hT (nb h.blk (by decide) (by decide)), h.map.turn hT (nm fun ty cs hb => h.map.not_blk hb rfl), fun i hi => ?_, htab, hop, h.inj, h.nmb, hF _ h.ft, hF _ h.fm, hft, hlt, h0, mx_turn h.mx hT fun e => h.f0 (h.ftab _ e)⟩
 obtain ⟨g1, g2, g3, g4, g5, g6⟩ := h.node i hi
 refine ⟨g1.turn hT (nb g1 (by decide) (by decide)), g2.turn hT fun j hj => ?_, g3.turn hT (nm fun ty cs hb => ?_), hF _ g4, hF _ g5, fun j hj => hF _ (g6 j hj)⟩
 ·obtain ⟨cs, hb⟩ := g2.type j hj
  exact nb hb (by decide) (by decide)
 ·obtain ⟨D, ⟨es, clock, hx, _⟩, _⟩ := g3.is
  unfold Blk at hb
  rw [hx] at hb
  cases hb
theorem cnt_eq (h : TreeIs F w t M c a) (k : Int) : countTo M.T k (usedTo M.T 8).length = cntO a.op k := by
 unfold countTo cntO
 rw [List.take_length]
 unfold usedTo
 rw [List.filter_map, List.length_map, List.filter_filter]
 congr 1
 refine List.filter_congr fun i hi => ?_
 have hi8 := List.mem_range.1 hi
 have e : (hasIno M.T k ∘ fun (i : Nat) => (i : Int)) i = hasIno M.T k (i : Int) := rfl
 rw [e]
 unfold hasIno
 rw [look_nat hi8, ← h.op i hi8]
 cases hT : M.T i with
 | none => rfl
 | some x => simp
theorem used_eq (h : TreeIs F w t M c a) : (usedTo M.T 8).length = usedN a.op := by
 unfold usedTo usedN
 rw [List.length_map]
 congr 1
 refine List.filter_congr fun i hi => ?_
 rw [← h.op i (List.mem_range.1 hi)]
 cases M.T i <;> rfl
end
end Go.Proofs.YtpkhglfhpggceaaGreatDoor
