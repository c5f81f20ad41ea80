/- CachePlays: an act keeps the state's bounds; what is asked of both between acts. -/
import Derived.Test.YtnbppfhnagacfaaJp7
namespace Go.Proofs.Ytnbppfhnagacfaa
open Go.RowKit
set_option linter.unusedVariables false
attribute [local go_sem ↓] Go.wp_at_zero Go.wp_at_succ

theorem key6 (i : Nat) (h : i < 6) : (key (i : Int)).wf = true := by
  rcases (show i = 0 ∨ i = 1 ∨ i = 2 ∨ i = 3 ∨ i = 4 ∨ i = 5 by omega) with rfl | rfl | rfl | rfl | rfl | rfl <;> rfl
theorem sup_le {a : CA} {n W : Int} (h : Inv a n W) (hW : 0 ≤ W) : (supS a).used ≤ W := by
  unfold supS
  have hu := h.us
  cases hs : a.s with
  | none => exact hW
  | some s => rw [hs] at hu; exact hu
theorem limS_used (s : Sup) (n : Int) : (limS s n).2.used = s.used := by unfold limS; split <;> rfl
theorem Inv.step {a : CA} {n W : Int} (h : Inv a n W) (hn : 0 ≤ n) (hW : 0 ≤ W) (x : ActD) : Inv (stepR a x) (n + 1) (W + 70) := by
  have hs := sup_le h hW
  unfold stepR
  split
  · exact (h.put hn _ _).more (by omega) (by omega)
  split
  · exact (h.force hn _ _).more (by omega) (by omega)
  split
  · exact (h.pin _).more (by omega) (by omega)
  split
  · exact (h.unpin _).more (by omega) (by omega)
  split
  · exact (h.back _).more (by omega) (by omega)
  split
  · exact h.sync.more (by omega) (by omega)
  split
  · exact h.drop.more (by omega) (by omega)
  split
  · exact (h.sup (limS (supS a) x.at_).2 (by rw [limS_used]; exact hs)).more (by omega) (by omega)
  split
  · exact (h.sup (resS (supS a)) hs).more (by omega) (by omega)
  · exact (h.hold hn _).more (by omega) (by omega)
theorem Bo.rb {U : Nat → Prop} {w : World} {c d g y e q : Nat} {a1 a2 : CA} (h : Bo U w c d g y e q a1 a2) : ∃ F G hp, St F w c d (some g) hp a1 ∧ RSt G w y e q a2 := by
  obtain ⟨F, G, hp, h1, h2, -⟩ := h
  exact ⟨F, G, hp, h1, h2⟩
theorem Bo.cells {U : Nat → Prop} {w : World} {c d g y e q : Nat} {a : CA} (h : Bo U w c d g y e q a a) : w.cell? ⟨y, 3, none⟩ = some (.int .i64 a.hits) ∧ w.cell? ⟨y, 4, none⟩ = some (.int .i64 a.misses) ∧ w.cell? ⟨q, 1, none⟩ = some (.int .i64 (supS a).used) := by
  obtain ⟨F, G, hp, h1, s, Fc, Fd, lv, sv, wv, vs, M⟩ := h.rb
  have h3 := M.blk.cell 3
  have h4 := M.blk.cell 4
  have h5 := M.sup.cell 1
  have e : supS a = s := by unfold supS; rw [M.as_]; rfl
  rw [e]
  unfold Sup.cells at h5
  simp at h3 h4 h5
  exact ⟨h3, h4, h5⟩
theorem Bo.held {U : Nat → Prop} {w : World} {c d g y e q : Nat} {a : CA} (h : Bo U w c d g y e q a a) (hl : a.os.length ≤ 1000) :
    Calls Try.prog 17 #[.pointer (some ⟨c, 0, none⟩)] w fun r w' => ∃ v', r = .returned v' ∧ IRow w' v' a.os ∧ Below w.heap.size w w' := by
  obtain ⟨F, G, hp, h1, h2⟩ := h.rb
  exact (held_any w h1 hl).mono fun r w' ⟨v', k1, k2, k3, k4⟩ => ⟨v', k1, k2, k4⟩
theorem Bo.rheld {U : Nat → Prop} {w : World} {c d g y e q : Nat} {a : CA} (h : Bo U w c d g y e q a a) :
    Calls Try.prog 28 #[.pointer (some ⟨y, 0, none⟩)] w fun r w' => ∃ v', r = .returned v' ∧ IRow w' v' a.os ∧ Below w.heap.size w w' := by
  obtain ⟨F, G, hp, h1, h2⟩ := h.rb
  exact (rheld_any w h2).mono fun r w' ⟨v', k1, k2, k3, k4⟩ => ⟨v', k1, k2, k4⟩
theorem Bo.chg {U : Nat → Prop} {w : World} {c d g y e q : Nat} {a : CA} (h : Bo U w c d g y e q a a) (hl : a.os.length ≤ 1000) :
    Calls Try.prog 14 #[.pointer (some ⟨c, 0, none⟩)] w fun r w' => ∃ v', r = .returned v' ∧ IRow w' v' (sorted (chs a)) ∧ Below w.heap.size w w' := by
  obtain ⟨F, G, hp, h1, h2⟩ := h.rb
  exact (changed_any w h1 hl).mono fun r w' ⟨v', k1, k2, k3, k4⟩ => ⟨v', k1, k2, k4⟩
theorem Bo.rchg {U : Nat → Prop} {w : World} {c d g y e q : Nat} {a : CA} {n W : Int} (h : Bo U w c d g y e q a a) (hI : Inv a n W) :
    Calls Try.prog 29 #[.pointer (some ⟨y, 0, none⟩)] w fun r w' => ∃ v', r = .returned v' ∧ IRow w' v' (sorted (chs a)) ∧ Below w.heap.size w w' := by
  obtain ⟨F, G, hp, h1, h2⟩ := h.rb
  rw [← ch_same hI]
  exact (rchanged_any w h2).mono fun r w' ⟨v', k1, k2, k3, k4⟩ => ⟨v', k1, k2, k4⟩
theorem Bo.used {U : Nat → Prop} {w : World} {c d g y e q : Nat} {a : CA} (h : Bo U w c d g y e q a a) :
    Calls Try.prog 30 #[.pointer (some ⟨g, 0, none⟩)] w fun r w' => r = .returned (.int .i64 (supS a).used) ∧ Below w.heap.size w w' := by
  obtain ⟨F, G, hp, h1, h2⟩ := h.rb
  obtain ⟨s, hs, hb, -⟩ := h1.sup
  have e : supS a = s := by unfold supS; rw [hs]; rfl
  rw [e]
  exact (used_any g s w hb).mono fun r w' ⟨k1, k2⟩ => ⟨k1, by rw [k2]; exact Below.refl _ _⟩
theorem Bo.counts {U : Nat → Prop} {w : World} {c d g y e q : Nat} {a : CA} (h : Bo U w c d g y e q a a) :
    Calls Try.prog 19 #[.pointer (some ⟨c, 0, none⟩)] w fun r w' => r = .returned (.tuple #[.int .i64 a.hits, .int .i64 a.misses]) ∧ Below w.heap.size w w' := by
  obtain ⟨F, G, hp, h1, h2⟩ := h.rb
  exact counts_any w h1
theorem Bo.read {U : Nat → Prop} {w : World} {c d g y e q : Nat} {a : CA} (h : Bo U w c d g y e q a a) (i : Int) (hk : (key i).wf = true) :
    Calls Try.prog 15 #[.pointer (some ⟨d, 0, none⟩), .int .i64 i] w fun r w' => r = .returned (.tuple #[blkV (if a.x.is i then a.x.shows i else zeroB), .int .i64 (if a.x.is i then 0 else 2)]) ∧ Below w.heap.size w w' := by
  obtain ⟨F, G, hp, h1, h2⟩ := h.rb
  obtain ⟨Fd, hD⟩ := h1.disk
  exact hD.read i w hk
theorem Bo.rread {U : Nat → Prop} {w : World} {c d g y e q : Nat} {a : CA} (h : Bo U w c d g y e q a a) (i : Int) (hw : a.x.writes ≤ 1000000) :
    (Calls Try.prog 31 #[.pointer (some ⟨e, 0, none⟩), .int .i64 i] w fun r w' => r = .returned (.tuple #[blkV (if a.x.is i then a.x.shows i else zeroB), .int .i64 (if a.x.is i then 0 else 2)]) ∧ Below w.heap.size w w') ∧ (if a.x.is i then a.x.shows i else zeroB).length = 64 := by
  obtain ⟨F, G, hp, h1, s, Fc, Fd, lv, sv, wv, vs, M⟩ := h.rb
  refine ⟨rread_any i w M.dk hw, ?_⟩
  split
  · rename_i hi; exact M.dk.shows_len hi
  · rfl
theorem same_eq (v1 v2 : Value) (l : List Int) (w : World) (h1 : IRow w v1 l) (h2 : IRow w v2 l) : Calls Try.prog 27 #[v1, v2] w fun r w' => r = .returned (.bool true) ∧ Below w.heap.size w w' := by
  refine (sameInts_any v1 v2 l l w h1 h2).mono ?_
  rintro r w' ⟨rfl, n, rfl⟩
  exact ⟨by rw [decide_eq_true rfl], below_drawnN w n⟩
theorem IRow.bel {w w' : World} {v : Value} {l : List Int} (h : IRow w v l) (hb : Below w.heap.size w w') : IRow w' v l := h.turn (S := fun _ => False) (Turn.of_below hb) fun _ _ => id
theorem Bo.bel {U : Nat → Prop} {w w' : World} {c d g y e q : Nat} {a1 a2 : CA} (h : Bo U w c d g y e q a1 a2) (hb : Below w.heap.size w w') : Bo U w' c d g y e q a1 a2 := h.turn (Turn.of_below (S := fun _ => False) hb) (fun _ _ => id) id id

set_option maxRecDepth 100000 in
theorem newC_bad (d : Nat) (size : Int) (w : World) (h : size < 1 ∨ 64 < size) : Calls Try.prog 8 #[.pointer (some ⟨d, 0, none⟩), .int .i64 size] w fun r w' => r = .returned (.tuple #[.pointer none, .int .i64 2]) ∧ w' = w := by
  by_cases h1 : size < 1
  · have hd1 : decide (size < 1) = true := decide_eq_true h1
    go_enter Try.func8, Try.ntmps8
    go_wp2
    go_ret2
    exact ⟨rfl, rfl⟩
  · have hd1 : decide (size < 1) = false := decide_eq_false h1
    have hd2 : decide (64 < size) = true := decide_eq_true (by omega)
    go_enter Try.func8, Try.ntmps8
    go_wp2
    go_ret2
    exact ⟨rfl, rfl⟩
set_option maxRecDepth 100000 in
theorem rcnew_bad (e : Nat) (size : Int) (w : World) (h : size < 1 ∨ 64 < size) : Calls Try.prog 25 #[.pointer (some ⟨e, 0, none⟩), .int .i64 size] w fun r w' => r = .returned (.tuple #[.pointer none, .int .i64 2]) ∧ w' = w := by
  by_cases h1 : size < 1
  · have hd1 : decide (size < 1) = true := decide_eq_true h1
    go_enter Try.func25, Try.ntmps25
    go_wp2
    go_ret2
    exact ⟨rfl, rfl⟩
  · have hd1 : decide (size < 1) = false := decide_eq_false h1
    have hd2 : decide (64 < size) = true := decide_eq_true (by omega)
    go_enter Try.func25, Try.ntmps25
    go_wp2
    go_ret2
    exact ⟨rfl, rfl⟩
/-- The beginning: both are new. -/
theorem Bo.start {w2 w3 w4 w5 w6 : World} {c d g y e q : Nat} {hp : Int → Nat} {a : CA} (hS : St (grow (grow (fun _ => False) w2 w3) w4 w5) w5 c d (some g) hp a) (hR : RSt (grow (grow (fun _ => False) w3 w4) w5 w6) w6 y e q a)
    (h23 : w2.heap.size ≤ w3.heap.size) (h34 : w3.heap.size ≤ w4.heap.size) (h45 : w4.heap.size ≤ w5.heap.size) (hb : Below w5.heap.size w5 w6) (hg : g < w2.heap.size) (hq : q < w2.heap.size) (hgq : g ≠ q) : Bo (fun j => w2.heap.size ≤ j ∧ j < w6.heap.size) w6 c d g y e q a a := by
  have h56 := hb.size
  refine ⟨_, _, hp, hS.turn (S := fun _ => False) (Turn.of_below hb) (fun _ _ => id) (fun _ _ => id), hR, fun j hj hG => ?_, fun j hj => ?_, fun h => by omega, fun h => by omega, hgq, fun j hj => hj.2⟩
  · rcases hj with (hj | hj) | hj
    · exact hj
    · rcases hG with (hG | hG) | hG
      · exact hG
      · omega
      · omega
    · rcases hG with (hG | hG) | hG
      · exact hG
      · omega
      · omega
  · rcases hj with ((hj | hj) | hj) | ((hj | hj) | hj)
    · exact hj.elim
    · exact ⟨by omega, by omega⟩
    · exact ⟨by omega, by omega⟩
    · exact hj.elim
    · exact ⟨by omega, by omega⟩
    · exact ⟨by omega, by omega⟩
end Go.Proofs.Ytnbppfhnagacfaa
