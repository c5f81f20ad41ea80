/- package cache: room. -/
import Derived.Test.YtnbppfhnagacfaaCw
namespace Go.Proofs.Ytnbppfhnagacfaa
open Go.RowKit
set_option linter.unusedVariables false
attribute [local go_sem ↓] Go.wp_at_zero Go.wp_at_succ

def pinB (m : Int → Option Hd) (i : Int) : Bool := match m i with | some h => decide (h.pins > 0) | none => false
/-- Which one goes: the last that is not pinned. -/
def vic (os : List Int) (m : Int → Option Hd) : Option Int := os.reverse.find? fun i => !pinB m i
theorem vic_at {os : List Int} {m : Int → Option Hd} {k : Nat} {i : Int} (hk : os[k]? = some i) (hi : pinB m i = false) (hl : ∀ (j : Nat) (q : Int), k < j → os[j]? = some q → pinB m q = true) : vic os m = some i := by
  have hlt : k < os.length := (List.getElem?_eq_some_iff.1 hk).1
  have e : os = os.take k ++ (i :: os.drop (k + 1)) := by
    have h1 : os[k] = i := by rw [List.getElem?_eq_getElem hlt] at hk; exact Option.some.inj hk
    rw [← h1, List.getElem_cons_drop, List.take_append_drop]
  have hd : ∀ q ∈ (os.drop (k + 1)).reverse, (!pinB m q) = false := fun q hq => by
    obtain ⟨j, hj⟩ := List.mem_iff_getElem?.1 (List.mem_reverse.1 hq)
    rw [List.getElem?_drop] at hj
    rw [hl (k + 1 + j) q (by omega) hj]
    rfl
  unfold vic
  rw [e, List.reverse_append, List.reverse_cons, List.append_assoc, List.find?_append]
  rw [List.find?_eq_none.2 fun q hq => by rw [hd q hq]; decide]
  simp [hi]
theorem vic_none {os : List Int} {m : Int → Option Hd} (hl : ∀ (j : Nat) (q : Int), os[j]? = some q → pinB m q = true) : vic os m = none := by
  unfold vic
  refine List.find?_eq_none.2 fun q hq => ?_
  obtain ⟨j, hj⟩ := List.mem_iff_getElem?.1 (List.mem_reverse.1 hq)
  rw [hl j q hj]
  decide
def delm (m : Int → Option Hd) (i : Int) : Int → Option Hd := fun k => if k = i then none else m k

/-- Order and map speak of the same. -/
structure Link (os : List Int) (m : Int → Option Hd) : Prop where
  nd : os.Nodup
  iff : ∀ k, k ∈ os ↔ (m k).isSome = true
theorem Link.erase {os : List Int} {m : Int → Option Hd} (h : Link os m) (i : Int) : Link (os.erase i) (delm m i) := by
  refine ⟨h.nd.erase i, fun k => ?_⟩
  unfold delm
  by_cases e : k = i
  · subst e
    rw [if_pos rfl]
    simp [List.Nodup.mem_erase_iff h.nd]
  · rw [if_neg e, ← h.iff k, List.Nodup.mem_erase_iff h.nd]
    simp [e]
theorem Link.upd {os : List Int} {m : Int → Option Hd} (h : Link os m) {i : Int} (hi : i ∈ os) (hd : Hd) : Link os (updm m i hd) := by
  refine ⟨h.nd, fun k => ?_⟩
  by_cases e : k = i
  · subst e; rw [updm_same]; simp [hi]
  · rw [updm_other _ _ e]; exact h.iff k

structure RoomR where
  code : Int
  os : List Int
  m : Int → Option Hd
  x : Dk
  s : Option Sup
/-- What room does where it must let one go. -/
def roomV (os : List Int) (m : Int → Option Hd) (x : Dk) (s : Option Sup) : RoomR :=
  match vic os m with
  | none => ⟨4, os, m, x, s⟩
  | some i =>
    let hd := (m i).getD ⟨[], false, 0⟩
    let code := if hd.ch then codeO x s i else 0
    if code = 0 then ⟨0, os.erase i, delm m i, if hd.ch then x.write i hd.b else x, if hd.ch then supO x s i else s⟩ else ⟨code, os, m, x, if hd.ch then supO x s i else s⟩
def roomR (size : Int) (os : List Int) (m : Int → Option Hd) (x : Dk) (s : Option Sup) : RoomR :=
  if (os.length : Int) < size then ⟨0, os, m, x, s⟩ else roomV os m x s

/-- A sector goes: out of the map. -/
theorem CacheIs.delHd {F : Nat → Prop} {w w' : World} {c d ml : Nat} {ov : Value} {hp : Int → Nat} {size : Int} {os : List Int} {m : Int → Option Hd} {cnt : Nat} {hits misses : Int} (h : CacheIs F w c d ml ov hp size os m cnt hits misses) {i : Int}
    (hT : Turn (fun j => j = ml) w w') (hmap : MapN w' ml misses.toNat (upd (fun k => (m k).map fun _ => .pointer (some ⟨hp k, 0, none⟩)) i none) (cnt - 1)) : CacheIs F w' c d ml ov hp size os (delm m i) (cnt - 1) hits misses := by
  have hne : ∀ j t cs, Blk w j t cs → ¬ j = ml := fun j t cs hb e => h.map.is.not_blk hb e.symm
  have hf : (fun k => (delm m i k).map fun _ => Value.pointer (some ⟨hp k, 0, none⟩)) = upd (fun k => (m k).map fun _ => Value.pointer (some ⟨hp k, 0, none⟩)) i none := by
    funext k
    unfold delm upd
    by_cases e : k = i
    · simp [e]
    · simp [e]
  have hs : ∀ q z, delm m i q = some z → q ≠ i ∧ m q = some z := fun q z hq => by
    unfold delm at hq
    by_cases e : q = i
    · rw [if_pos e] at hq; cases hq
    · rw [if_neg e] at hq; exact ⟨e, hq⟩
  exact
    { blk := h.blk.turn hT (hne _ _ _ h.blk)
      ord := h.ord.turn hT fun j hj => by obtain ⟨cs, hc⟩ := h.ord.type j hj; exact hne _ _ _ hc
      map := by rw [hf]; exact hmap
      held := fun k x hk => by
        obtain ⟨h1, h2, h3, h4, h5⟩ := h.held k x (hs k x hk).2
        exact ⟨h1.turn hT (hne _ _ _ h1), h2, h3, h4, h5⟩
      inj := fun k k' x x' hk hk' e => h.inj k k' x x' (hs k x hk).2 (hs k' x' hk').2 e
      num := h.num
      fc := h.fc
      fm := h.fm
      fo := h.fo
      lt := fun j hj => Nat.lt_of_lt_of_le (h.lt j hj) hT.size }
end Go.Proofs.Ytnbppfhnagacfaa
