/- CacheShows: what a round of its loop keeps. -/
import Derived.Test.YtnbppfhnagacfaaActs
namespace Go.Proofs.Ytnbppfhnagacfaa
open Go.RowKit
set_option linter.unusedVariables false

/-- Where all lies: w the call's own beginning, w1 the world behind 'last'. -/
structure Home (F : Nat → Prop) (w w1 : World) (lb : Nat) : Prop where
  bel : Below w.heap.size w w1
  lo : ∀ j, F j → w.heap.size ≤ j
  hi : ∀ j, F j → j < w1.heap.size
  lbl : w.heap.size ≤ lb
  lbh : lb < w1.heap.size
  lbF : ¬ F lb
def SI (F : Nat → Prop) (w1 wr : World) (c d lb : Nat) (s : Int) (k : Nat) : Prop :=
  ∃ (a : CA) (hp : Int → Nat) (L : List (List Int)), a.size = 1 + s % 8 ∧ Good a (lst L) (20 * k) ∧ St (grow F w1 wr) wr c d none hp a ∧ LastIs wr lb L ∧ Turn (fun j => F j ∨ j = lb) w1 wr
theorem Home.below {F : Nat → Prop} {w w1 w2 : World} {lb : Nat} (h : Home F w w1 lb) (hT : Turn (fun j => F j ∨ j = lb) w1 w2) : Below w.heap.size w w2 :=
  h.bel.trans (hT.below h.bel.size fun i hi e => by
    rcases e with e | e
    · have := h.lo i e; omega
    · have := h.lbl; omega)
theorem Home.out {F : Nat → Prop} {w w1 wr : World} {lb : Nat} (h : Home F w w1 lb) : ¬ grow F w1 wr lb := fun e => by
  rcases e with e | e
  · exact h.lbF e
  · have := h.lbh; omega
theorem Home.st {F : Nat → Prop} {w w1 wr w2 w3 : World} {c d lb : Nat} {a : CA} {hp : Int → Nat} (H : Home F w w1 lb) (hs : w1.heap.size ≤ wr.heap.size) (hs2 : wr.heap.size ≤ w2.heap.size)
    (hS : St (grow (grow F w1 wr) w2 w3) w3 c d none hp a) (hT3 : Turn (fun j => grow F w1 wr j ∨ none = some j) w2 w3) : St (grow F w1 w3) w3 c d none hp a :=
  hS.mono (fun j hj => by
    rcases hj with (hj | hj) | hj
    · exact .inl hj
    · exact .inr ⟨hj.1, by have := hT3.size; omega⟩
    · exact .inr ⟨by omega, hj.2⟩) (fun j hj => by
    rcases hj with hj | hj
    · have := H.hi j hj; have := hT3.size; omega
    · exact hj.2) (fun g hg => by cases hg)
theorem Home.tu {F : Nat → Prop} {w1 wr w2 w3 : World} {lb : Nat} (hT : Turn (fun j => F j ∨ j = lb) w1 w2) (hT3 : Turn (fun j => grow F w1 wr j ∨ none = some j) w2 w3) : Turn (fun j => F j ∨ j = lb) w1 w3 :=
  hT.trans hT3 fun j hj e => by
    rcases e with (e | e) | e
    · exact .inl e
    · omega
    · cases e
theorem SI.close {F : Nat → Prop} {w w1 wr w2 w3 : World} {c d lb : Nat} {s : Int} {k : Nat} {a : CA} {hp : Int → Nat} {L : List (List Int)} {n : Int} (H : Home F w w1 lb) (hs : w1.heap.size ≤ wr.heap.size) (hs2 : wr.heap.size ≤ w2.heap.size)
    (hS : St (grow (grow F w1 wr) w2 w3) w3 c d none hp a) (hT : Turn (fun j => F j ∨ j = lb) w1 w2) (hT3 : Turn (fun j => grow F w1 wr j ∨ none = some j) w2 w3) (hG : Good a (lst L) n) (hn : n ≤ 20 * k) (hsz : a.size = 1 + s % 8) (hL : LastIs w2 lb L) : SI F w1 w3 c d lb s k :=
  ⟨a, hp, L, hsz, hG.mono hn, H.st hs hs2 hS hT3, hL.turn hT3 (fun e => by
    rcases e with e | e
    · exact H.out e
    · cases e), Home.tu hT hT3⟩
theorem SI.put {F : Nat → Prop} {w w1 w3 : World} {c d lb : Nat} {s : Int} {k i : Nat} {a : CA} {hp : Int → Nat} {L : List (List Int)} {b : List Int} (H : Home F w w1 lb) (hi : i < 6) (hb : b.length = 64) (hG : Good a (upl (lst L) i b) (20 * k)) (hsz : a.size = 1 + s % 8)
    (hS : St (grow F w1 w3) w3 c d none hp a) (hL : LastIs w3 lb L) (hT : Turn (fun j => F j ∨ j = lb) w1 w3) : SI F w1 (w3.setCells lb (i * 64) (bytes b)) c d lb s k := by
  have hT4 : Turn (fun j => j = lb) w3 (w3.setCells lb (i * 64) (bytes b)) := Turn.setCells (S := fun j => j = lb) _ _ (Turn.refl _ _) fun _ => rfl
  have hs4 := hT4.size
  refine ⟨a, hp, L.set i b, hsz, hG.congr (lst_set hL.2.1 hi b), (hS.turn hT4 (fun j hj e => H.out (e ▸ hj)) (fun g hg => by cases hg)).mono (fun j hj => hj.imp id fun e => ⟨e.1, by omega⟩) (fun j hj => ?_) (fun g hg => by cases hg), hL.set hi hb, hT.trans hT4 fun j hj e => .inr e⟩
  rcases hj with hj | hj
  · have := H.hi j hj; have := hT.size; omega
  · exact hj.2
/-- A world that has only grown. -/
theorem SI.grown {F : Nat → Prop} {w w1 wr w2 : World} {c d lb : Nat} {s : Int} {k : Nat} (H : Home F w w1 lb) (h : SI F w1 wr c d lb s k) (hb : Below wr.heap.size wr w2) : SI F w1 w2 c d lb s k := by
  obtain ⟨a, hp, L, h1, h2, h3, h4, h5⟩ := h
  have hT := Turn.of_below (S := fun _ => False) hb
  have hs := hb.size
  refine ⟨a, hp, L, h1, h2, (h3.turn hT (fun _ _ => id) fun _ _ => id).mono (fun j hj => hj.imp id fun e => ⟨e.1, by omega⟩) (fun j hj => ?_) (fun g hg => by cases hg), h4.turn hT id, h5.trans hT fun j hj e => e.elim⟩
  rcases hj with hj | hj
  · have := H.hi j hj; have := h5.size; omega
  · exact hj.2
theorem SI.more {F : Nat → Prop} {w1 wr : World} {c d lb : Nat} {s : Int} {k k' : Nat} (h : SI F w1 wr c d lb s k) (hk : k ≤ k') : SI F w1 wr c d lb s k' := by
  obtain ⟨a, hp, L, h1, h2, h3⟩ := h
  exact ⟨a, hp, L, h1, h2.mono (by omega), h3⟩
end Go.Proofs.Ytnbppfhnagacfaa
