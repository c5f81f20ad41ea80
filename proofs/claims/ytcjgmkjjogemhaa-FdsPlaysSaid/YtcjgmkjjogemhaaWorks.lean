/- The example 'works' of layer 24 answers true; and the law on a table that is none. -/
import Derived.Test.YtcjgmkjjogemhaaFdsd
namespace Go.Proofs.Ytcjgmkjjogemhaa
open Go.RowKit

theorem open_at (T : Nat → Option FileT) (b k : Nat) (ino mode : Int) (w : World) (ht : Tab w b T) (hk : k < 8) (h0 : T k = none) (h1 : ∀ j, j < k → T j ≠ none) :
    Calls Try.prog 8 #[.pointer (some ⟨b, 0, none⟩), .int .i64 ino, .int .i64 mode] w fun e w' =>
      e = .returned (.tuple #[.int .i64 k, .int .i64 0]) ∧ Tab w' b (put T k (some (w.heap.size, ino, 0, mode))) ∧ Turn (· = b) w w' := by
  refine (open_any T b ino mode w ht).mono fun e w' h => ?_
  rcases h with ⟨k', hk', h0', h1', rest⟩ | ⟨h, _⟩
  · obtain rfl : k' = k := by
      rcases Nat.lt_trichotomy k' k with h | h | h
      · exact absurd h0' (h1 _ h)
      · exact h
      · exact absurd h0 (h1' _ h)
    exact rest
  · exact absurd h0 (h k hk)
theorem open_full (T : Nat → Option FileT) (b : Nat) (ino mode : Int) (w : World) (ht : Tab w b T) (h1 : ∀ j, j < 8 → T j ≠ none) :
    Calls Try.prog 8 #[.pointer (some ⟨b, 0, none⟩), .int .i64 ino, .int .i64 mode] w fun e w' => e = .returned (.tuple #[.int .i64 0, .int .i64 47]) ∧ w = w' := by
  refine (open_any T b ino mode w ht).mono fun e w' h => ?_
  rcases h with ⟨k', hk', h0', _⟩ | ⟨_, h⟩
  · exact absurd h0' (h1 _ hk')
  · exact h

set_option maxHeartbeats 400000 in
theorem works_any (w : World) : Calls Try.prog 6 #[] w fun e w' => e = .returned (.bool true) ∧ Below w.heap.size w w' := by
  go_enter Try.func6, Try.ntmps6
  go_wp2_with fail
  refine (new_any _).mono ?_
  rintro e w0 ⟨rfl, hT0, hb0⟩
  generalize hN : w.heap.size = N at *
  have HT0 := Lib.hid hT0
  have HB0 := Lib.hid hb0
  have HN := Lib.hid hN
  clear hT0 hb0 hN
  go_wp2_with fail
  refine (open_at _ N 0 5 1 _ HT0.out (by omega) rfl (fun j h => by omega)).mono ?_
  rintro e w1 ⟨rfl, hT1, ht1⟩
  have HT1 := Lib.hid hT1
  have HB1 := Lib.hid (HB0.out.trans (ht1.below (B := N) (by have := HT0.out.tab.lt; omega) fun i hi e => by omega))
  clear hT1 ht1
  go_wp2_with fail
  refine (open_at _ N 1 6 1 _ HT1.out (by omega) rfl (fun j h => by (obtain rfl : j = 0 := by omega); simp [put])).mono ?_
  rintro e w2 ⟨rfl, hT2, ht2⟩
  have HT2 := Lib.hid hT2
  have HB2 := Lib.hid (HB1.out.trans (ht2.below (B := N) (by have := HT1.out.tab.lt; omega) fun i hi e => by omega))
  clear hT2 ht2
  go_wp2_with fail
  refine (close_some _ N 0 _ _ HT2.out (by omega) rfl).mono ?_
  rintro e w3 ⟨rfl, hT3, ht3⟩
  have HT3 := Lib.hid hT3
  have HB3 := Lib.hid (HB2.out.trans (ht3.below (B := N) (by have := HT2.out.tab.lt; omega) fun i hi e => by omega))
  have hl3 := hT3.tab.lt
  clear hT3 ht3
  go_wp2_with fail
  refine (open_at _ N 0 7 2 _ (HT3.out.alloc _) (by omega) rfl (fun j h => by omega)).mono ?_
  rintro e w4 ⟨rfl, hT4, ht4⟩
  have HT4 := Lib.hid hT4
  have HB4 := Lib.hid ((HB3.out.alloc (by omega) _).trans (ht4.below (B := N) (by simp; omega) fun i hi e => by omega))
  have r0 := (World.cell?_of_block (a := ⟨w3.heap.size, 0, none⟩) (ht4.block w3.heap.size (by simp) (by omega)))
  have r1 := (World.cell?_of_block (a := ⟨w3.heap.size, 1, none⟩) (ht4.block w3.heap.size (by simp) (by omega)))
  have r2 := (World.cell?_of_block (a := ⟨w3.heap.size, 2, none⟩) (ht4.block w3.heap.size (by simp) (by omega)))
  simp [go_sem] at r0 r1 r2
  clear hT4 ht4
  go_wp2_with fail
  refine (count_any _ N 7 _ HT4.out).mono ?_
  rintro e w5 ⟨rfl, hb5⟩
  have HB5 := Lib.hid (HB4.out.trans (hb5.mono (by have := HT4.out.tab.lt; omega)))
  clear hb5
  generalize hc : countTo _ 7 _ = c
  have hc1 : c = 1 := by
    rw [← hc]
    simp [countTo, usedTo, put, List.range_succ, hasIno, look, List.filter]
  subst hc1
  clear hc
  go_wp2_with fail
  go_ret
  exact ⟨rfl, by rw [HN.out]; exact HB5.out⟩
end Go.Proofs.Ytcjgmkjjogemhaa
