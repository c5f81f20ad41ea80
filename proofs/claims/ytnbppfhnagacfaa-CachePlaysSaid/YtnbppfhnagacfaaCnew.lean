/- package cache: New, Held, Counts. -/
import Derived.Test.YtnbppfhnagacfaaSame
namespace Go.Proofs.Ytnbppfhnagacfaa
open Go.RowKit
set_option linter.unusedVariables false
attribute [local go_sem ↓] Go.wp_at_zero Go.wp_at_succ

def freshC (size : Int) (x : Dk) (s : Option Sup) : CA := ⟨size, [], fun _ => none, 0, 0, x, s⟩
set_option maxRecDepth 100000 in
set_option maxHeartbeats 2000000 in
theorem newC_any {Fd : Nat → Prop} {d : Nat} {sp : Option Nat} {x : Dk} {s : Option Sup} (size : Int) (w : World) (hD : Disk Fd w d sp x) (hS : SupIs w sp s) (hok : ∀ s', s = some s' → s'.ok) (hsp : ∀ g, sp = some g → ¬ Fd g ∧ g < w.heap.size) (h1 : 1 ≤ size) (h2 : size ≤ 64) :
    Calls Try.prog 8 #[.pointer (some ⟨d, 0, none⟩), .int .i64 size] w fun e w' => ∃ c, e = .returned (.tuple #[.pointer (some ⟨c, 0, none⟩), .int .i64 0]) ∧ St (grow Fd w w') w' c d sp (fun _ => 0) (freshC size x s) ∧ Below w.heap.size w w' := by
  have HF : Hid (∀ W, W = (w.alloc (.map #[] 0)).alloc (.cells #[.pointer (some ⟨d, 0, none⟩), .int .i64 size, .map (some w.heap.size), .slice none 0 0, .int .i64 0, .int .i64 0] 73) → St (grow Fd w W) W (w.heap.size + 1) d sp (fun _ => 0) (freshC size x s) ∧ Below w.heap.size w W) := Lib.hid fun W hW => by
    have hs1 : (w.alloc (.map #[] 0)).heap.size = w.heap.size + 1 := by simp
    have hs2 : W.heap.size = w.heap.size + 1 + 1 := by rw [hW]; simp
    have hB : Below w.heap.size w W := by rw [hW]; exact ((Below.refl _ _).alloc (Nat.le_refl _) _).alloc (by simp) _
    have hT : Turn (fun _ => False) w W := Turn.of_below hB
    refine ⟨⟨fun j => w.heap.size ≤ j ∧ j < W.heap.size, Fd, w.heap.size, .slice none 0 0,
      { ca :=
          { blk := by
              rw [hW]
              have := Blk.new (w.alloc (.map #[] 0)) 73 #[.pointer (some ⟨d, 0, none⟩), .int .i64 size, .map (some w.heap.size), .slice none 0 0, .int .i64 0, .int .i64 0]
              rw [hs1] at this
              exact this
            ord := IRow.nil _
            map := by
              rw [hW]
              exact (MapN.new w).keep (Below.heap_alloc _ _ _ (by rw [hs1]; omega))
            held := fun k h hk => by cases hk
            inj := fun k k' h h' hk => by cases hk
            num := ⟨Int.le_refl _, by show (0 : Int) ≤ 1000000; decide, Int.le_refl _, by show (0 : Int) ≤ 1000000; decide, h1, h2⟩
            fc := ⟨by omega, by omega⟩
            fm := ⟨by omega, by omega⟩
            fo := fun j hj => by cases hj
            lt := fun j hj => hj.2 }
        link := ⟨List.nodup_nil, fun k => by show k ∈ [] ↔ (none : Option Hd).isSome = true; simp⟩
        disk := hD.turn hT fun _ _ => id
        own := { sup := hS.turn hT fun _ _ => id
                 ok := hok
                 ap := fun j hj hd => by have := hD.lt j hd; omega
                 spc := fun g hg hj => by have := (hsp g hg).2; omega
                 spd := fun g hg => (hsp g hg).1
                 splt := fun g hg => by have := (hsp g hg).2; omega }
        sub := fun j hj => hj.elim (fun h => .inr h) (fun h => .inl h)
        flt := fun j hj => by
          rcases hj with hj | hj
          · have := hD.lt j hj; omega
          · exact hj.2
        spf := fun g hg hj => by
          rcases hj with hj | hj
          · exact (hsp g hg).1 hj
          · have := (hsp g hg).2; omega }⟩, hB⟩
  have hmm := @run_makeMap Try.prog
  have hd1 : decide (size < 1) = false := decide_eq_false (by omega)
  have hd2 : decide (64 < size) = false := decide_eq_false (by omega)
  clear hD hS hok hsp
  go_enter Try.func8, Try.ntmps8
  go_wp2
  go_ret2
  exact ⟨_, rfl, HF.out _ rfl⟩
theorem held_any {F : Nat → Prop} {c d : Nat} {sp : Option Nat} {hp : Int → Nat} {a : CA} (w : World) (h : St F w c d sp hp a) (hl : a.os.length ≤ 1000) :
    Calls Try.prog 17 #[.pointer (some ⟨c, 0, none⟩)] w fun e w' => ∃ v', e = .returned v' ∧ IRow w' v' a.os ∧ (∀ j, v'.ownBlock = some j → w.heap.size ≤ j) ∧ Below w.heap.size w w' := by
  obtain ⟨Fc, Fd, ml, ov, M⟩ := h
  have c3 := M.ca.blk.cell 3
  simp at c3
  obtain ⟨A, cp, rfl⟩ := M.ca.ord.sl'
  have HC := Lib.hid (clone_any _ a.os w M.ca.ord (by omega))
  clear M
  go_enter Try.func17, Try.ntmps17
  go_wp2_with fail
  refine HC.out.mono ?_
  rintro e w1 ⟨v1, rfl, h1, h2, h3⟩
  have HR := Lib.hid (show IRow w1 v1 a.os ∧ (∀ j, v1.ownBlock = some j → w.heap.size ≤ j) ∧ Below w.heap.size w w1 from ⟨h1, h2, h3⟩)
  clear h1 h2 h3 HC
  go_wp2
  go_ret
  exact ⟨_, rfl, HR.out⟩
end Go.Proofs.Ytnbppfhnagacfaa
