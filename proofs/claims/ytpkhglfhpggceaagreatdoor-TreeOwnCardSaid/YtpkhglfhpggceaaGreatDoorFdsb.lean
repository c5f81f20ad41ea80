/- What package fds does to memory, on: Get, Close, Seek, Used, Count, Full, Copy. -/
import Derived.Test.YtpkhglfhpggceaaGreatDoorFds
import Derived.Deep.DeepMust
namespace Go.Proofs.YtpkhglfhpggceaaGreatDoor
set_option maxRecDepth 100000
set_option maxHeartbeats 16000000
open Go.RowKit

theorem get_some (T : Nat → Option FileT) (b k : Nat) (x : FileT) (w : World) (ht : Tab w b T) (hk : k < 8) (hx : T k = some x) :
  Calls Tryz.prog 64 #[.pointer (some ⟨b, 0, none⟩), .int .i64 k] w fun e w' => e = .returned (.tuple #[.agg #[.int .i64 x.2.1, .int .i64 x.2.2.1, .int .i64 x.2.2.2], .int .i64 0]) ∧ Below w.heap.size w w' := by
 have hF := Lib.hid fun W (h : Tab W b T) => find_some T b k x W h hk hx
 have hf := ht.file k hk x hx
 have hl := hf.lt
 have f0 := hf.c3
 have hne : x.1 ≠ w.heap.size := by omega
 have HT := Lib.hid ht
 clear ht hx hf
 go_enter Tryz.func64, Tryz.ntmps64
 go_wp2_with (go_at_call 102; refine (hF.out _ (HT.out.alloc _)).mono ?_; rintro e w' ⟨rfl, rfl⟩)
 exact bodyPost_ret (v := .tuple #[.agg #[.int .i64 x.2.1, .int .i64 x.2.2.1, .int .i64 x.2.2.2], .int .i64 0]) (by simp [results, Tryz.results64, go_sem]) rfl ⟨rfl, (Below.refl _ _).alloc (Nat.le_refl _) _⟩

theorem get_none (T : Nat → Option FileT) (b : Nat) (fd : Int) (w : World) (ht : Tab w b T) (hx : look T fd = none) :
  Calls Tryz.prog 64 #[.pointer (some ⟨b, 0, none⟩), .int .i64 fd] w fun e w' => e = .returned (.tuple #[.agg #[.int .i64 0, .int .i64 0, .int .i64 0], .int .i64 46]) ∧ Below w.heap.size w w' := by
 have hF := Lib.hid fun W (h : Tab W b T) => find_none T b fd W h hx
 have HT := Lib.hid ht
 clear ht hx
 go_enter Tryz.func64, Tryz.ntmps64
 go_wp2_with (go_at_call 102; refine (hF.out _ (HT.out.alloc _)).mono ?_; rintro e w' ⟨rfl, rfl⟩)
 exact bodyPost_ret (v := .tuple #[.agg #[.int .i64 0, .int .i64 0, .int .i64 0], .int .i64 46]) (by simp [results, Tryz.results64, go_sem]) rfl ⟨rfl, (Below.refl _ _).alloc (Nat.le_refl _) _⟩

theorem close_some (T : Nat → Option FileT) (b k : Nat) (x : FileT) (w : World) (ht : Tab w b T) (hk : k < 8) (hx : T k = some x) :
  Calls Tryz.prog 65 #[.pointer (some ⟨b, 0, none⟩), .int .i64 k] w fun e w' => e = .returned (.tuple #[.agg #[.int .i64 x.2.1, .int .i64 x.2.2.1, .int .i64 x.2.2.2], .int .i64 0]) ∧ Tab w' b (put T k none) ∧ Turn (· = b) w w' := by
 have hF := Lib.hid fun W (h : Tab W b T) => get_some T b k x W h hk hx
 have HT := Lib.hid ht
 have hb := ht.tab.lt
 clear ht hx
 go_enter Tryz.func65, Tryz.ntmps65
 go_wp2_with fail
 refine (hF.out _ (HT.out.alloc _)).mono ?_
 rintro e w1 ⟨rfl, hb1⟩
 have HT1 := Lib.hid ((HT.out.alloc (.cells #[.int .i64 0, .int .i64 0, .int .i64 0] 116)).below hb1)
 have hs1 := hb1.size
 simp at hs1
 have hc := HT1.out.cell hk
 have hf := HT1.out.free k
 have r0 := hb1.cell (p := ⟨w.heap.size, 0, none⟩) (by simp)
 have r1 := hb1.cell (p := ⟨w.heap.size, 1, none⟩) (by simp)
 have r2 := hb1.cell (p := ⟨w.heap.size, 2, none⟩) (by simp)
 have q0 := hb1.frozen (p := ⟨w.heap.size, 0, none⟩) (by simp)
 have q1 := hb1.frozen (p := ⟨w.heap.size, 1, none⟩) (by simp)
 have q2 := hb1.frozen (p := ⟨w.heap.size, 2, none⟩) (by simp)
 simp [go_sem] at r0 r1 r2 q0 q1 q2
 have HB := Lib.hid hb1
 clear hb1
 have hl1 : b < w1.heap.size := by omega
 have hl2 : w.heap.size < w1.heap.size := by omega
 clear hs1
 go_wp2_with fail
 refine bodyPost_ret (v := .tuple #[.agg #[.int .i64 x.2.1, .int .i64 x.2.2.1, .int .i64 x.2.2.2], .int .i64 0]) (by simp [results, Tryz.results65, go_sem, hl2, r0, r1, r2]) rfl ⟨rfl, ?_, ?_⟩
 ·have hn : ∀ i, ¬ foot b (put T k none) (⟨w.heap.size, i, none⟩ : Addr).block := fun i h => by
   have := HT.out.lt (foot_put_none h); simp at this
  exact ((((HT1.out.closed hk).far (hn 0) _).far (hn 1) _).far (hn 2) _).alloc _
 ·have h0 : Turn (· = b) w w1 := Turn.of_below ((((Below.refl w.heap.size w).alloc (Nat.le_refl _) _)).trans (HB.out.mono (by simp)))
  exact ((((h0.setCell (p := ⟨b, k, none⟩) (fun _ => rfl) _).setCell (p := ⟨w.heap.size, 0, none⟩) (fun h => absurd h (Nat.lt_irrefl _)) _).setCell (p := ⟨w.heap.size, 1, none⟩) (fun h => absurd h (Nat.lt_irrefl _)) _).setCell (p := ⟨w.heap.size, 2, none⟩) (fun h => absurd h (Nat.lt_irrefl _)) _).alloc _

theorem close_none (T : Nat → Option FileT) (b : Nat) (fd : Int) (w : World) (ht : Tab w b T) (hx : look T fd = none) :
  Calls Tryz.prog 65 #[.pointer (some ⟨b, 0, none⟩), .int .i64 fd] w fun e w' => e = .returned (.tuple #[.agg #[.int .i64 0, .int .i64 0, .int .i64 0], .int .i64 46]) ∧ Below w.heap.size w w' := by
 have hF := Lib.hid fun W (h : Tab W b T) => get_none T b fd W h hx
 have HT := Lib.hid ht
 clear ht hx
 go_enter Tryz.func65, Tryz.ntmps65
 go_wp2_with fail
 refine (hF.out _ (HT.out.alloc _)).mono ?_
 rintro e w1 ⟨rfl, hb1⟩
 have hs1 := hb1.size
 simp at hs1
 have r0 := hb1.cell (p := ⟨w.heap.size, 0, none⟩) (by simp)
 have r1 := hb1.cell (p := ⟨w.heap.size, 1, none⟩) (by simp)
 have r2 := hb1.cell (p := ⟨w.heap.size, 2, none⟩) (by simp)
 have q0 := hb1.frozen (p := ⟨w.heap.size, 0, none⟩) (by simp)
 have q1 := hb1.frozen (p := ⟨w.heap.size, 1, none⟩) (by simp)
 have q2 := hb1.frozen (p := ⟨w.heap.size, 2, none⟩) (by simp)
 simp [go_sem] at r0 r1 r2 q0 q1 q2
 have HB := Lib.hid hb1
 clear hb1
 have hl2 : w.heap.size < w1.heap.size := by omega
 clear hs1
 go_wp2_with fail
 refine bodyPost_ret (v := .tuple #[.agg #[.int .i64 0, .int .i64 0, .int .i64 0], .int .i64 46]) (by simp [results, Tryz.results65, go_sem, hl2, r0, r1, r2]) rfl ⟨rfl, ?_⟩
 have h0 : Turn (fun _ => False) w w1 := Turn.of_below ((((Below.refl w.heap.size w).alloc (Nat.le_refl _) _)).trans (HB.out.mono (by simp)))
 exact ((((h0.setCell (p := ⟨w.heap.size, 0, none⟩) (fun h => absurd h (Nat.lt_irrefl _)) _).setCell (p := ⟨w.heap.size, 1, none⟩) (fun h => absurd h (Nat.lt_irrefl _)) _).setCell (p := ⟨w.heap.size, 2, none⟩) (fun h => absurd h (Nat.lt_irrefl _)) _).alloc _).below_none

theorem seek_some (T : Nat → Option FileT) (b k : Nat) (x : FileT) (pos : Int) (w : World) (ht : Tab w b T) (hk : k < 8) (hx : T k = some x) (hp : 0 ≤ pos) :
  Calls Tryz.prog 69 #[.pointer (some ⟨b, 0, none⟩), .int .i64 k, .int .i64 pos] w fun e w' => e = .returned (.int .i64 0) ∧ Tab w' b (put T k (some (x.1, x.2.1, pos, x.2.2.2))) ∧ Turn (· = x.1) w w' := by
 have hF := Lib.hid fun W (h : Tab W b T) => find_some T b k x W h hk hx
 have hf := ht.file k hk x hx
 have f1 := hf.cell 1
 have g1 := hf.frozen 1
 simp at f1
 have HT := Lib.hid ht
 have HX := Lib.hid hx
 clear ht hx hf
 go_enter Tryz.func69, Tryz.ntmps69
 go_wp2_with (go_at_call 102; refine (hF.out _ HT.out).mono ?_; rintro e w' ⟨rfl, rfl⟩)
 go_ret
 exact ⟨rfl, HT.out.sought hk HX.out pos, (Turn.refl (· = x.1) w).setCell (p := ⟨x.1, 1, none⟩) (fun _ => rfl) _⟩

theorem seek_arg (T : Nat → Option FileT) (b k : Nat) (x : FileT) (pos : Int) (w : World) (ht : Tab w b T) (hk : k < 8) (hx : T k = some x) (hp : pos < 0) :
  Calls Tryz.prog 69 #[.pointer (some ⟨b, 0, none⟩), .int .i64 k, .int .i64 pos] w fun e w' => e = .returned (.int .i64 2) ∧ w = w' := by
 have hF := Lib.hid fun W (h : Tab W b T) => find_some T b k x W h hk hx
 have HT := Lib.hid ht
 clear ht hx
 go_enter Tryz.func69, Tryz.ntmps69
 go_wp2_with (go_at_call 102; refine (hF.out _ HT.out).mono ?_; rintro e w' ⟨rfl, rfl⟩)
 go_ret
 exact ⟨rfl, rfl⟩

theorem seek_none (T : Nat → Option FileT) (b : Nat) (fd pos : Int) (w : World) (ht : Tab w b T) (hx : look T fd = none) :
  Calls Tryz.prog 69 #[.pointer (some ⟨b, 0, none⟩), .int .i64 fd, .int .i64 pos] w fun e w' => e = .returned (.int .i64 46) ∧ w = w' := by
 have hF := Lib.hid fun W (h : Tab W b T) => find_none T b fd W h hx
 have HT := Lib.hid ht
 clear ht hx
 go_enter Tryz.func69, Tryz.ntmps69
 go_wp2_with (go_at_call 102; refine (hF.out _ HT.out).mono ?_; rintro e w' ⟨rfl, rfl⟩)
 go_ret
 exact ⟨rfl, rfl⟩

def usedTo (T : Nat → Option FileT) (k : Nat) : List Int := ((List.range k).filter fun i => (T i).isSome).map fun (i : Nat) => (i : Int)
theorem usedTo_succ (T : Nat → Option FileT) (k : Nat) : usedTo T (k + 1) = usedTo T k ++ if (T k).isSome then [(k : Int)] else [] := by
 unfold usedTo
 rw [List.range_succ, List.filter_append, List.map_append]
 congr 1
 by_cases h : (T k).isSome <;> simp [h]
theorem usedTo_len (T : Nat → Option FileT) (k : Nat) : (usedTo T k).length ≤ k := by
 unfold usedTo
 rw [List.length_map]
 exact Nat.le_trans (List.length_filter_le _ _) (by simp)

theorem info3 : (Tryz.prog.info? 3).map (fun i => (i.zero, i.size, i.bytes)) = some (some (.int .i64 0), 1, 8) := by kernel_rfl

theorem used_any (T : Nat → Option FileT) (b : Nat) (w : World) (ht : Tab w b T) :
  Calls Tryz.prog 21 #[.pointer (some ⟨b, 0, none⟩)] w fun e w' => ∃ v, e = .returned v ∧ w'.ownsRow w.heap.size 3 1 v (usedTo T 8).length ((usedTo T 8).map (Value.int .i64)) ∧ Below w.heap.size w w' := by
 obtain ⟨i0, hi0, hz0, hz1, hz2⟩ := info_parts info3
 have c0 := ht.cell (i := 0) (by omega)
 have c1 := ht.cell (i := 1) (by omega)
 have c2 := ht.cell (i := 2) (by omega)
 have c3 := ht.cell (i := 3) (by omega)
 have c4 := ht.cell (i := 4) (by omega)
 have c5 := ht.cell (i := 5) (by omega)
 have c6 := ht.cell (i := 6) (by omega)
 have c7 := ht.cell (i := 7) (by omega)
 clear ht
 go_enter Tryz.func21, Tryz.ntmps21
 go_wp2
 go_loopw [3, 13] (fun v i wr => ∃ k : Nat, k ≤ 8 ∧ i = .int .i64 k ∧ wr.ownsRow w.heap.size 3 1 v (usedTo T k).length ((usedTo T k).map (Value.int .i64)) ∧ Below w.heap.size w wr) (fun _ i _ => 8 - (intOf i).toNat)
 case atStart => exact ⟨0, by omega, rfl, World.ownsRow_nil _ _ _ _, Below.refl _ _⟩
 case round =>
  clear c0 c1 c2 c3 c4 c5 c6 c7
  obtain ⟨k, hk, rfl, hown, hbel⟩ := hrel
  by_cases hlt : k < 8
  ·have hidx := idx50 T k hlt
   have hlen := usedTo_len T k
   have hsz := hbel.size
   have HS := Lib.hid (usedTo_succ T k)
   have HO := Lib.hid hown
   have HB := Lib.hid hbel
   clear hown hbel
   rcases hTk : T k with _ | x
   ·rw [hTk] at hidx
    have e1 : ptrOf none = none := rfl
    rw [e1] at hidx
    have HTk := Lib.hid hTk
    clear hTk e1
    go_wp2
    go_roundw
    case rel => exact ⟨k + 1, by omega, by go_num, by rw [HS.out, HTk.out]; simpa using HO.out, HB.out⟩
    case measure => simp [intOf]; omega
   ·rw [hTk] at hidx
    have e1 : ptrOf (some x) = some ⟨x.1, 0, none⟩ := rfl
    rw [e1] at hidx
    have HTk := Lib.hid hTk
    clear hTk e1
    go_wp2_with (at_builtin; refine wpList_append_own _ rfl (.tmp 19) (.tmp 21) 62 rfl w.heap.size 3 i0 (.int .i64 0) 1 8 Tryz.underlying62 hi0 hz0 hz1 hz2 rfl (by decide) _ _ _ rfl (HO.out.alloc _) ⟨wr.heap.size, 0, none⟩ 1 1 [.int .i64 k] rfl rfl ?c1 ?c2 ?c3 ?c4 ?c5 ?_)
    case c1 => exact one_new _ _ _
    case c2 => simp [Value.oneCell']
    case c3 => simp only [maxLen]; omega
    case c4 => omega
    case c5 => simp; omega
    intro v' w1 hown1 hgrow1 _
    have hown2 : w1.ownsRow w.heap.size 3 1 v' (usedTo T (k + 1)).length ((usedTo T (k + 1)).map (Value.int .i64)) := by
     rw [HS.out, HTk.out]; simpa using hown1
    have hbel2 : Below w.heap.size w w1 := (HB.out.alloc HB.out.size _).grown hgrow1 (by simp; omega) (fun j hj => (HO.out.lt j hj).1)
    clear hgrow1 hown1
    go_wp2
    go_roundw
    case rel => exact ⟨k + 1, by omega, by go_num, hown2, hbel2⟩
    case measure => simp [intOf]; omega
  ·obtain rfl : k = 8 := by omega
   have HO := Lib.hid hown
   have HB := Lib.hid hbel
   clear hown hbel
   go_wp2
   go_ret
   exact ⟨_, rfl, HO.out, HB.out⟩
end Go.Proofs.YtpkhglfhpggceaaGreatDoor
