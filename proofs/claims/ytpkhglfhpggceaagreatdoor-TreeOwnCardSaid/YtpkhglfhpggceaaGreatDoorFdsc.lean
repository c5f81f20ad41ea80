/- What package fds does to memory, on: Count, Full, Copy; and all of it for a table that is none. -/
import Derived.Test.YtpkhglfhpggceaaGreatDoorFdsb
namespace Go.Proofs.YtpkhglfhpggceaaGreatDoor
set_option maxRecDepth 100000
set_option maxHeartbeats 16000000
open Go.RowKit

theorem used_at (T : Nat → Option FileT) (k : Nat) (h : k < (usedTo T 8).length) : ∃ (j : Nat) (x : FileT), (usedTo T 8)[k]? = some (j : Int) ∧ j < 8 ∧ T j = some x := by
 have hm : (usedTo T 8)[k] ∈ usedTo T 8 := List.getElem_mem h
 have he := List.getElem?_eq_getElem h
 generalize (usedTo T 8)[k] = u at *
 unfold usedTo at hm
 rw [List.mem_map] at hm
 obtain ⟨j, hj, rfl⟩ := hm
 rw [List.mem_filter, List.mem_range] at hj
 obtain ⟨x, hx⟩ := Option.isSome_iff_exists.1 hj.2
 exact ⟨j, x, he, hj.1, hx⟩

def hasIno (T : Nat → Option FileT) (ino : Int) (j : Int) : Bool := match look T j with | some x => decide (x.2.1 = ino) | none => false
def countTo (T : Nat → Option FileT) (ino : Int) (k : Nat) : Nat := (((usedTo T 8).take k).filter (hasIno T ino)).length
theorem countTo_le (T : Nat → Option FileT) (ino : Int) (k : Nat) : countTo T ino k ≤ k :=
 Nat.le_trans (List.length_filter_le _ _) (List.length_take_le _ _)
theorem countTo_succ (T : Nat → Option FileT) (ino : Int) (k j : Nat) (x : FileT) (h : (usedTo T 8)[k]? = some (j : Int)) (hj : j < 8) (hx : T j = some x) :
  countTo T ino (k + 1) = countTo T ino k + if x.2.1 = ino then 1 else 0 := by
 unfold countTo
 rw [List.take_add_one, h, List.filter_append, List.length_append]
 congr 1
 have : hasIno T ino (j : Int) = decide (x.2.1 = ino) := by unfold hasIno; rw [look_nat hj, hx]
 by_cases e : x.2.1 = ino <;> simp [this, e]

theorem count_any (T : Nat → Option FileT) (b : Nat) (ino : Int) (w : World) (ht : Tab w b T) :
  Calls Tryz.prog 103 #[.pointer (some ⟨b, 0, none⟩), .int .i64 ino] w fun e w' => e = .returned (.int .i64 (countTo T ino (usedTo T 8).length)) ∧ Below w.heap.size w w' := by
 have hU := Lib.hid (used_any T b w ht)
 have hl8 := usedTo_len T 8
 have HT := Lib.hid ht
 clear ht
 go_enter Tryz.func103, Tryz.ntmps103
 go_wp2_with fail
 refine hU.out.mono ?_
 rintro e w1 ⟨v, rfl, hown, hb1⟩
 obtain ⟨A, c, rfl, hlc, hcm, hA⟩ := Ints.of_own hown
 have HT1 := Lib.hid (HT.out.below hb1)
 have HB := Lib.hid hb1
 have HA := Lib.hid hA
 unfold maxLen at hcm
 clear hown hb1 hA
 go_wp2
 go_loop [5, 11] (fun n i => ∃ k : Nat, k ≤ (usedTo T 8).length ∧ i = .int .i64 k ∧ n = .int .i64 (countTo T ino k : Nat)) (fun _ i => (usedTo T 8).length - (intOf i).toNat)
 case atStart => exact ⟨0, Nat.zero_le _, rfl, rfl⟩
 case round =>
  obtain ⟨k, hk, rfl, rfl⟩ := hrel
  have hcl := countTo_le T ino k
  by_cases hlt : k < (usedTo T 8).length
  ·obtain ⟨j, x, hj, hj8, hx⟩ := used_at T k hlt
   obtain ⟨g, o, eA, _, hg, hc⟩ := HA.out k _ hj
   subst eA
   have hs := countTo_succ T ino k j x hj hj8 hx
   have c1 := HT1.out.cell hj8
   rw [hx] at c1
   have e1 : ptrOf (some x) = some ⟨x.1, 0, none⟩ := rfl
   rw [e1] at c1
   have f0 := (HT1.out.file j hj8 x hx).cell 0
   simp at f0
   have HS := Lib.hid hs
   clear hs hx hj e1
   by_cases he : x.2.1 = ino
   ·have ht1 : (x.2.1 == ino) = true := by simp [he]
    have HE := Lib.hid he
    clear he
    go_wp2
    go_round
    case rel => exact ⟨k + 1, by omega, by go_num, by rw [HS.out, if_pos HE.out]; go_num⟩
    case measure => simp [intOf]; omega
   ·have ht1 : (x.2.1 == ino) = false := by simp [he]
    have HE := Lib.hid he
    clear he
    go_wp2
    go_round
    case rel => exact ⟨k + 1, by omega, by go_num, by rw [HS.out, if_neg HE.out]; rfl⟩
    case measure => simp [intOf]; omega
  ·obtain rfl : k = (usedTo T 8).length := by omega
   go_wp2
   go_ret
   exact ⟨rfl, HB.out⟩

theorem full_any (T : Nat → Option FileT) (b : Nat) (w : World) (ht : Tab w b T) :
  Calls Tryz.prog 61 #[.pointer (some ⟨b, 0, none⟩)] w fun e w' => e = .returned (.bool ((((usedTo T 8).length : Int)) == 8)) ∧ Below w.heap.size w w' := by
 have hU := Lib.hid (used_any T b w ht)
 clear ht
 go_enter Tryz.func61, Tryz.ntmps61
 go_wp2_with fail
 refine hU.out.mono ?_
 rintro e w1 ⟨v, rfl, hown, hb1⟩
 obtain ⟨A, c, rfl, hlc, hcm, hA⟩ := Ints.of_own hown
 have HB := Lib.hid hb1
 clear hown hb1 hA
 go_wp2
 go_ret
 exact ⟨rfl, HB.out⟩

theorem find_nil (fd : Int) (w : World) : Calls Tryz.prog 102 #[.pointer none, .int .i64 fd] w fun e w' => e = .returned (.tuple #[.pointer none, .int .i64 1]) ∧ w = w' := by
 go_enter Tryz.func102, Tryz.ntmps102
 go_wp2
 go_ret2
 exact ⟨rfl, rfl⟩
theorem open_nil (ino mode : Int) (w : World) : Calls Tryz.prog 63 #[.pointer none, .int .i64 ino, .int .i64 mode] w fun e w' => e = .returned (.tuple #[.int .i64 0, .int .i64 1]) ∧ w = w' := by
 go_enter Tryz.func63, Tryz.ntmps63
 go_wp2
 go_ret2
 exact ⟨rfl, rfl⟩
theorem get_nil (fd : Int) (w : World) : Calls Tryz.prog 64 #[.pointer none, .int .i64 fd] w fun e w' => e = .returned (.tuple #[.agg #[.int .i64 0, .int .i64 0, .int .i64 0], .int .i64 1]) ∧ Below w.heap.size w w' := by
 go_enter Tryz.func64, Tryz.ntmps64
 go_wp2_with (go_at_call 102; refine (find_nil fd _).mono ?_; rintro e w' ⟨rfl, rfl⟩)
 exact bodyPost_ret (v := .tuple #[.agg #[.int .i64 0, .int .i64 0, .int .i64 0], .int .i64 1]) (by simp [results, Tryz.results64, go_sem]) rfl ⟨rfl, (Below.refl _ _).alloc (Nat.le_refl _) _⟩
theorem close_nil (fd : Int) (w : World) : Calls Tryz.prog 65 #[.pointer none, .int .i64 fd] w fun e w' => e = .returned (.tuple #[.agg #[.int .i64 0, .int .i64 0, .int .i64 0], .int .i64 1]) ∧ Below w.heap.size w w' := by
 go_enter Tryz.func65, Tryz.ntmps65
 go_wp2_with fail
 refine (get_nil fd _).mono ?_
 rintro e w1 ⟨rfl, hb1⟩
 have hs1 := hb1.size
 simp at hs1
 have r0 := hb1.cell (p := ⟨w.heap.size, 0, none⟩) (by simp)
 have r1 := hb1.cell (p := ⟨w.heap.size, 1, none⟩) (by simp)
 have r2 := hb1.cell (p := ⟨w.heap.size, 2, none⟩) (by simp)
 have q0 := hb1.frozen (p := ⟨w.heap.size, 0, none⟩) (by simp)
 have q1 := hb1.frozen (p := ⟨w.heap.size, 1, none⟩) (by simp)
 have q2 := hb1.frozen (p := ⟨w.heap.size, 2, none⟩) (by simp)
 simp [go_sem] at r0 r1 r2 q0 q1 q2
 have HB := Lib.hid hb1
 clear hb1
 have hl2 : w.heap.size < w1.heap.size := by omega
 clear hs1
 go_wp2_with fail
 refine bodyPost_ret (v := .tuple #[.agg #[.int .i64 0, .int .i64 0, .int .i64 0], .int .i64 1]) (by simp [results, Tryz.results65, go_sem, hl2, r0, r1, r2]) rfl ⟨rfl, ?_⟩
 have h0 : Turn (fun _ => False) w w1 := Turn.of_below ((((Below.refl w.heap.size w).alloc (Nat.le_refl _) _)).trans (HB.out.mono (by simp)))
 exact ((((h0.setCell (p := ⟨w.heap.size, 0, none⟩) (fun h => absurd h (Nat.lt_irrefl _)) _).setCell (p := ⟨w.heap.size, 1, none⟩) (fun h => absurd h (Nat.lt_irrefl _)) _).setCell (p := ⟨w.heap.size, 2, none⟩) (fun h => absurd h (Nat.lt_irrefl _)) _).alloc _).below_none
theorem seek_nil (fd pos : Int) (w : World) : Calls Tryz.prog 69 #[.pointer none, .int .i64 fd, .int .i64 pos] w fun e w' => e = .returned (.int .i64 1) ∧ w = w' := by
 go_enter Tryz.func69, Tryz.ntmps69
 go_wp2_with (go_at_call 102; refine (find_nil fd _).mono ?_; rintro e w' ⟨rfl, rfl⟩)
 go_ret
 exact ⟨rfl, rfl⟩
theorem used_nil (w : World) : Calls Tryz.prog 21 #[.pointer none] w fun e w' => e = .returned (.slice none 0 0) ∧ w = w' := by
 go_enter Tryz.func21, Tryz.ntmps21
 go_wp2
 go_ret
 exact ⟨rfl, rfl⟩
theorem full_nil (w : World) : Calls Tryz.prog 61 #[.pointer none] w fun e w' => e = .returned (.bool false) ∧ w = w' := by
 go_enter Tryz.func61, Tryz.ntmps61
 go_wp2_with (go_at_call 21; refine (used_nil _).mono ?_; rintro e w' ⟨rfl, rfl⟩)
 go_ret
 exact ⟨rfl, rfl⟩
theorem copy_nil (w : World) : Calls Tryz.prog 53 #[.pointer none] w fun e w' => e = .returned (.pointer none) ∧ w = w' := by
 go_enter Tryz.func53, Tryz.ntmps53
 go_wp2
 go_ret
 exact ⟨rfl, rfl⟩
theorem count_nil (ino : Int) (w : World) : Calls Tryz.prog 103 #[.pointer none, .int .i64 ino] w fun e w' => e = .returned (.int .i64 0) ∧ w = w' := by
 go_enter Tryz.func103, Tryz.ntmps103
 go_wp2_with (go_at_call 21; refine (used_nil _).mono ?_; rintro e w' ⟨rfl, rfl⟩)
 go_loop [5, 11] (fun n i => i = .int .i64 0 ∧ n = .int .i64 0) (fun _ _ => 0)
 case atStart => exact ⟨rfl, rfl⟩
 case round =>
  obtain ⟨rfl, rfl⟩ := hrel
  go_wp2
  go_ret
  exact ⟨rfl, rfl⟩
end Go.Proofs.YtpkhglfhpggceaaGreatDoor
