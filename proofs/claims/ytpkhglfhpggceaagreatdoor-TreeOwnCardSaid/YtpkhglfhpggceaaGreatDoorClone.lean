/- slices.Clone of bytes; slicing of bytes. -/
import Derived.Test.YtpkhglfhpggceaaGreatDoorOpened
import Derived.Laws.AppendOwn
namespace Go.Proofs.YtpkhglfhpggceaaGreatDoor
set_option maxRecDepth 100000
set_option maxHeartbeats 16000000
open Go.RowKit
set_option linter.unusedVariables false
set_option linter.unusedSimpArgs false

/-- A slice of bytes that reads as a list: nil, or somewhere in a block. -/
def Bs (w : World) (v : Value) (l : List UInt8) : Prop :=
 (v = .slice none 0 0 ∧ l = []) ∨ ∃ g o c, v = .slice (some ⟨g, o, none⟩) l.length c ∧ l.length ≤ c ∧ c ≤ maxLen ∧ g < w.heap.size ∧ ∀ j b, l[j]? = some b → w.cell? ⟨g, o + j, none⟩ = some (.int .u8 (b.toNat : Int))
section
variable {w w' : World} {v : Value} {l : List UInt8}
theorem Bs.rd (h : Bs w v l) : RdB w v l := by
 rcases h with ⟨rfl, rfl⟩ | ⟨g, o, c, rfl, h1, h2, h3, h4⟩
 ·exact RdB.nil w
 ·exact ⟨_, c, rfl, h1, h2, fun j b hj => ⟨g, o, rfl, h3, h4 j b hj⟩⟩
theorem Byt.bs (h : Byt w v l) : Bs w v l := by
 rcases h.shape with ⟨rfl, rfl⟩ | ⟨g, c, cur, rfl, hl, hm, hb, hc, ht⟩
 ·exact .inl ⟨rfl, rfl⟩
 ·refine .inr ⟨g, 0, c, rfl, hl, hm, hb.lt, fun j b hj => ?_⟩
  have hj2 : j < l.length := (List.getElem?_eq_some_iff.1 hj).1
  have := h.get hj2
  rw [Nat.zero_add, this, List.getD_eq_getElem?_getD, hj]
  rfl
theorem Bs.turn {S : Nat → Prop} (h : Bs w v l) (hT : Turn S w w') (hS : ∀ g o n c, v = .slice (some ⟨g, o, none⟩) n c → ¬ S g) : Bs w' v l := by
 rcases h with ⟨rfl, rfl⟩ | ⟨g, o, c, rfl, h1, h2, h3, h4⟩
 ·exact .inl ⟨rfl, rfl⟩
 ·exact .inr ⟨g, o, c, rfl, h1, h2, Nat.lt_of_lt_of_le h3 hT.size, fun j b hj => (World.cell?_of_block (a := ⟨g, o + j, none⟩) (hT.block g h3 (hS g o _ c rfl))).trans (h4 j b hj)⟩
theorem Bs.below (h : Bs w v l) (hb : Below w.heap.size w w') : Bs w' v l := h.turn (S := fun _ => False) (Turn.of_below hb) fun _ _ _ _ _ => id
theorem slice_from (w : World) (g o m cap p : Nat) (h1 : p ≤ m) (h2 : m ≤ cap) : (Instr.slice 28 (.slice (some ⟨g, o, none⟩) m cap) (some (.int .i64 (p : Nat))) none none).run Tryz.prog w = .ok (.slice (some ⟨g, if p = cap then o else o + p, none⟩) (m - p) (cap - p)) w := by
 have h3 : (p : Int) ≤ (m : Int) := by omega
 have h4 : (0 : Int) ≤ (p : Int) := by omega
 by_cases hc : p = cap
 ·subst hc
  obtain rfl : m = p := by omega
  simp [Tryz.underlying28, go_sem, h3, h4]
 ·have hc2 : cap ≠ p := fun e => hc e.symm
  simp [Tryz.underlying28, go_sem, h3, h4, hc, hc2, addr_add]
theorem slice_from_nil (w : World) : (Instr.slice 28 (.slice none 0 0) (some (.int .i64 0)) none none).run Tryz.prog w = .ok (.slice none 0 0) w := by
 simp [Tryz.underlying28, go_sem]
theorem slice_to (w : World) (A : Option Addr) (m cap q : Nat) (h1 : q ≤ cap) : (Instr.slice 28 (.slice A m cap) none (some (.int .i64 (q : Nat))) none).run Tryz.prog w = .ok (.slice A q cap) w := by
 have h3 : (q : Int) ≤ (cap : Int) := by omega
 have h4 : (0 : Int) ≤ (q : Int) := by omega
 simp [Tryz.underlying28, go_sem, h3, h4]
/-- v[p:]. -/
theorem Bs.from (h : Bs w v l) {p : Nat} (hp : p ≤ l.length) : ∃ v', (∀ W, (Instr.slice 28 v (some (.int .i64 (p : Nat))) none none).run Tryz.prog W = .ok v' W) ∧ Bs w v' (l.drop p) := by
 rcases h with ⟨rfl, rfl⟩ | ⟨g, o, c, rfl, h1, h2, h3, h4⟩
 ·obtain rfl : p = 0 := by simpa using hp
  exact ⟨_, fun W => slice_from_nil W, .inl ⟨rfl, rfl⟩⟩
 ·refine ⟨_, fun W => slice_from W g o _ c p hp h1, .inr ⟨g, _, c - p, by rw [List.length_drop], by rw [List.length_drop]; omega, by omega, h3, fun j b hj => ?_⟩⟩
  rw [List.getElem?_drop] at hj
  have hlt : p + j < l.length := (List.getElem?_eq_some_iff.1 hj).1
  rw [if_neg (by omega), show o + p + j = o + (p + j) by omega]
  exact h4 _ b hj
/-- v[:q]. -/
theorem Bs.to (h : Bs w v l) {q : Nat} (hq : q ≤ l.length) : ∃ v', (∀ W, (Instr.slice 28 v none (some (.int .i64 (q : Nat))) none).run Tryz.prog W = .ok v' W) ∧ Bs w v' (l.take q) := by
 rcases h with ⟨rfl, rfl⟩ | ⟨g, o, c, rfl, h1, h2, h3, h4⟩
 ·obtain rfl : q = 0 := by simpa using hq
  exact ⟨_, fun W => slice_to W none 0 0 0 (Nat.le_refl _), .inl ⟨rfl, rfl⟩⟩
 ·refine ⟨_, fun W => slice_to W _ _ c q (by omega), .inr ⟨g, o, c, by rw [List.length_take, Nat.min_eq_left hq], by rw [List.length_take]; omega, h2, h3, fun j b hj => ?_⟩⟩
  rw [List.getElem?_take] at hj
  split at hj
  ·exact h4 _ b hj
  ·cases hj
def ClonePost (l : List UInt8) (w : World) (e : Ending) (w' : World) : Prop := ∃ r, e = .returned r ∧ Byt w' r l ∧ (∀ j, r.ownBlock = some j → w.heap.size ≤ j) ∧ Below w.heap.size w w'
theorem own_byt {base n : Nat} (h : w.ownsRow base 5 1 v n (byts l)) : Byt w v l ∧ ∀ j, v.ownBlock = some j → base ≤ j := by
 have hn : l.length = n := by have := h.1; rw [byts_len] at this; omega
 subst hn
 refine ⟨⟨h.1, ?_⟩, fun j hj => (World.ownsRow.lt h j hj).1⟩
 rcases h.2 with h1 | ⟨g, cap, cur, hv, hb, hr⟩
 ·exact .inl h1
 ·exact .inr ⟨g, cap, cur, hv, Nat.zero_le _, hr⟩
theorem clone_any (v : Value) (l : List UInt8) (w : World) (h : Bs w v l) (hl : l.length ≤ 100000) : Calls Tryz.prog 47 #[v] w (ClonePost l w) := by
 obtain ⟨i0, hi0, hz0, hz1, hz2⟩ := info_parts info5
 have hn := fun (w : World) (a : Option Addr) (n c n' c' : Nat) => Lib.run_eql_slice_nil (P := Tryz.prog) w 28 5 a n c n' c' Tryz.underlying28
 rcases h with ⟨rfl, rfl⟩ | ⟨g, o, c, rfl, h2, h3, h4, h5⟩
 ·go_enter Tryz.func47, Tryz.ntmps47
  go_wp2
  go_ret
  exact ⟨_, rfl, Byt.nil _, (fun j hj => by cases hj), Below.refl _ _⟩
 ·have H5 := Lib.hid h5
  have H4 := Lib.hid h4
  clear h5 h2 h3 h4
  obtain ⟨xs, hxs⟩ : ∃ xs, xs = byts l := ⟨_, rfl⟩
  have hxl : xs.length = l.length := by rw [hxs, byts_len]
  have HXS := Lib.hid hxs
  have HXL := Lib.hid hxl
  have HL := Lib.hid hl
  have H1 : Hid (∀ u ∈ xs, u.oneCell' = true) := Lib.hid (by rw [hxs]; exact byts_one _)
  clear hxs hxl hl
  go_enter Tryz.func47, Tryz.ntmps47
  go_wp2_with (at_builtin; refine wpList_append_own _ rfl (.tmp 5) (.tmp 6) 28 rfl w.heap.size 5 i0 (.int .u8 0) 1 1 Tryz.underlying28 hi0 hz0 hz1 hz2 rfl (by decide) _ _ _ rfl (World.ownsRow_made w #[] 0 (Nat.le_refl _) (Nat.zero_le _) rfl) ⟨g, o, none⟩ l.length c xs rfl ?c0 ?c1 ?c2 ?c3 ?c4 ?c5 ?_)
  case c0 => rw [HXL.out]; simp
  case c1 =>
   intro j u hj
   rw [HXS.out] at hj
   unfold byts at hj
   rw [List.getElem?_map, Option.map_eq_some_iff] at hj
   obtain ⟨b, hb2, rfl⟩ := hj
   rw [addr_add]
   exact (World.cell?_of_block (a := ⟨g, o + j, none⟩) (Below.heap_alloc w _ g H4.out)).trans (H5.out j b hb2)
  case c2 => exact H1.out
  case c3 => have := HL.out; simp only [maxLen]; omega
  case c4 => have := HL.out; omega
  case c5 => simp
  intro v' w1 hown hgrow _
  have hb : Below w.heap.size w w1 := ((Below.refl _ _).alloc (Nat.le_refl _) _).grown hgrow (by simp) (fun j hj => by cases hj; exact Nat.le_refl _)
  have hown2 := hown
  rw [HXS.out] at hown2
  have HA := Lib.hid (own_byt (by simpa using hown2))
  have HB := Lib.hid hb
  clear hown hgrow hb hown2
  go_wp2
  go_ret
  exact ⟨_, rfl, HA.out.1, HA.out.2, HB.out⟩
end
end Go.Proofs.YtpkhglfhpggceaaGreatDoor
