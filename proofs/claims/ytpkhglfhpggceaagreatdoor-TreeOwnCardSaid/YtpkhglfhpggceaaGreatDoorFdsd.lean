/- What Copy of package fds does to memory; the example 'works'. -/
import Derived.Test.YtpkhglfhpggceaaGreatDoorFdsc
namespace Go.Proofs.YtpkhglfhpggceaaGreatDoor
set_option maxRecDepth 100000
set_option maxHeartbeats 16000000
open Go.RowKit

/-- T' has what T has at the places of the first k of T's places in use, in blocks from B on, and else nothing. -/
def CopTo (T T' : Nat → Option FileT) (B k : Nat) : Prop :=
 ∀ i : Nat, i < 8 → if (i : Int) ∈ (usedTo T 8).take k then (T' i).map (·.2) = (T i).map (·.2) ∧ ∀ x, T' i = some x → B ≤ x.1 else T' i = none

theorem used_nodup (T : Nat → Option FileT) : (usedTo T 8).Nodup := by
 unfold usedTo
 refine List.Pairwise.map _ (R := fun a b => a ≠ b) (fun a b h e => h (by omega)) ?_
 exact (List.nodup_range).filter _
theorem mem_used (T : Nat → Option FileT) (i : Nat) (hi : i < 8) : (i : Int) ∈ usedTo T 8 ↔ (T i).isSome := by
 unfold usedTo
 rw [List.mem_map]
 constructor
 ·rintro ⟨j, hj, e⟩
  obtain rfl : j = i := by omega
  exact (List.mem_filter.1 hj).2
 ·intro h
  exact ⟨i, List.mem_filter.2 ⟨List.mem_range.2 hi, h⟩, rfl⟩

theorem copTo_zero (T : Nat → Option FileT) (B : Nat) : CopTo T (fun _ => none) B 0 := by
 intro i _
 simp
theorem copTo_succ {T T' : Nat → Option FileT} {B k j : Nat} {x : FileT} (h : CopTo T T' B k) (hj : (usedTo T 8)[k]? = some (j : Int)) (hj8 : j < 8) (hx : T j = some x) (b : Nat) (hb : B ≤ b) :
  CopTo T (put T' j (some (b, x.2.1, x.2.2.1, x.2.2.2))) B (k + 1) := by
 intro i hi
 have h1 := h i hi
 have ht : (usedTo T 8).take (k + 1) = (usedTo T 8).take k ++ [(j : Int)] := by rw [List.take_add_one, hj]; rfl
 rw [ht]
 unfold put
 by_cases e : i = j
 ·subst e
  rw [if_pos (by simp), if_pos rfl]
  refine ⟨by rw [hx]; rfl, fun y hy => ?_⟩
  injection hy with hy
  subst hy
  exact hb
 ·rw [if_neg e]
  have : ((i : Int) ∈ (usedTo T 8).take k ++ [(j : Int)]) ↔ (i : Int) ∈ (usedTo T 8).take k := by
   rw [List.mem_append, List.mem_singleton]
   constructor
   ·rintro (h | h)
    ·exact h
    ·omega
   ·exact .inl
  simp only [this]
  exact h1
theorem copTo_end {T T' : Nat → Option FileT} {B : Nat} (h : CopTo T T' B (usedTo T 8).length) : ∀ i, i < 8 → (T' i).map (·.2) = (T i).map (·.2) ∧ ∀ x, T' i = some x → B ≤ x.1 := by
 intro i hi
 have h1 := h i hi
 rw [List.take_length] at h1
 split at h1
 ·exact h1
 ·rename_i hn
  rw [mem_used T i hi] at hn
  rw [h1]
  have : T i = none := by cases hT : T i with | none => rfl | some _ => simp [hT] at hn
  rw [this]
  exact ⟨rfl, fun x hx => by cases hx⟩

def CopyPost (T : Nat → Option FileT) (w : World) (e : Ending) (w' : World) : Prop :=
 ∃ T', e = .returned (.pointer (some ⟨w.heap.size, 0, none⟩)) ∧ Tab w' w.heap.size T' ∧ (∀ i, i < 8 → (T' i).map (·.2) = (T i).map (·.2) ∧ ∀ x, T' i = some x → w.heap.size ≤ x.1) ∧ Below w.heap.size w w'

theorem copy_any (T : Nat → Option FileT) (b : Nat) (w : World) (ht : Tab w b T) :
  Calls Tryz.prog 53 #[.pointer (some ⟨b, 0, none⟩)] w (CopyPost T w) := by
 have hl8 := usedTo_len T 8
 have HT := Lib.hid ht
 clear ht
 go_enter Tryz.func53, Tryz.ntmps53
 go_wp2_with fail
 refine (new_any _).mono ?_
 rintro e w0 ⟨rfl, hT0, hb0⟩
 have hl0 := hT0.tab.lt
 have HT0 := Lib.hid hT0
 have HB0 := Lib.hid hb0
 clear hT0 hb0
 go_wp2_with fail
 refine (used_any T b _ (HT.out.below HB0.out)).mono ?_
 rintro e w1 ⟨v, rfl, hown, hb1⟩
 obtain ⟨A, c, rfl, hlc, hcm, hA⟩ := Ints.of_own hown
 have hs1 := hb1.size
 have HT1 := Lib.hid (HT0.out.below hb1)
 have HB := Lib.hid (HB0.out.trans (hb1.mono HB0.out.size))
 have HA := Lib.hid hA
 unfold maxLen at hcm
 clear hown hb1 hA
 have hN1 : w.heap.size < w1.heap.size := by omega
 go_wp2
 go_loopw [13] (fun i wr => ∃ k : Nat, k ≤ (usedTo T 8).length ∧ i = .int .i64 k ∧ ∃ T', Tab wr w.heap.size T' ∧ CopTo T T' w.heap.size k ∧ Turn (· = w.heap.size) w1 wr) (fun i _ => (usedTo T 8).length - (intOf i).toNat)
 case atStart => exact ⟨0, Nat.zero_le _, rfl, _, HT1.out, copTo_zero _ _, Turn.refl _ _⟩
 case round =>
  obtain ⟨k, hk, rfl, T', hT', hcop, htu⟩ := hrel
  have hbw : Below w.heap.size w wr := HB.out.trans (htu.below (by omega) fun i hi e => by omega)
  by_cases hlt : k < (usedTo T 8).length
  ·obtain ⟨j, x, hj, hj8, hx⟩ := used_at T k hlt
   obtain ⟨g, o, eA, hgB, hg, hc⟩ := HA.out k _ hj
   subst eA
   have hgc : wr.cell? ⟨g, o + k, none⟩ = some (.int .i64 j) := (World.cell?_of_block (a := ⟨g, o + k, none⟩) (htu.block g hg (by omega))).trans hc
   have ht' := HT.out.below hbw
   have c1 := ht'.cell hj8
   rw [hx] at c1
   have e1 : ptrOf (some x) = some ⟨x.1, 0, none⟩ := rfl
   rw [e1] at c1
   have ff := ht'.file j hj8 x hx
   have hfl := ff.lt
   have f0 := ff.c3
   have c2 := hT'.cell hj8
   have q2 := hT'.free j
   have hNr := hT'.tab.lt
   have hrel2 : ∃ T'', Tab ((wr.setCell ⟨w.heap.size, j, none⟩ (.pointer (some ⟨wr.heap.size, 0, none⟩))).alloc (.cells #[.int .i64 x.2.1, .int .i64 x.2.2.1, .int .i64 x.2.2.2] 116)) w.heap.size T'' ∧ CopTo T T'' w.heap.size (k + 1) ∧ Turn (· = w.heap.size) w1 ((wr.setCell ⟨w.heap.size, j, none⟩ (.pointer (some ⟨wr.heap.size, 0, none⟩))).alloc (.cells #[.int .i64 x.2.1, .int .i64 x.2.2.1, .int .i64 x.2.2.2] 116)) :=
    ⟨_, hT'.opened hj8 _ _ _, copTo_succ hcop hj hj8 hx _ (by omega), (htu.setCell (p := ⟨w.heap.size, j, none⟩) (fun _ => rfl) _).alloc _⟩
   have HR := Lib.hid hrel2
   have HX := Lib.hid hx
   clear hrel2 hT' hcop htu hbw ht' ff hx e1 hj hc
   go_wp2
   go_roundw
   case rel => exact ⟨k + 1, by omega, by go_num, HR.out⟩
   case measure => simp [intOf]; omega
  ·obtain rfl : k = (usedTo T 8).length := by omega
   have HF := Lib.hid (show CopyPost T w (.returned (.pointer (some ⟨w.heap.size, 0, none⟩))) wr from ⟨T', rfl, hT', copTo_end hcop, hbw⟩)
   clear hT' hcop htu hbw
   go_wp2
   go_ret
   exact HF.out
end Go.Proofs.YtpkhglfhpggceaaGreatDoor
