/- package disk: New. -/
import Derived.Test.YtnbppfhnagacfaaForce
import Derived.Laws.MakeOwn
import Derived.Carry
namespace Go.Proofs.Ytnbppfhnagacfaa
open Go.RowKit
set_option linter.unusedVariables false
attribute [local go_sem ↓] Go.wp_at_zero Go.wp_at_succ

theorem zero_info : ∃ i, Try.prog.info? 32 = some i ∧ i.zero = some (blkV zeroB) ∧ i.size = 64 ∧ i.bytes = 64 := by
  obtain ⟨i, z, hi, hz, hs, hy, -⟩ := info32
  have h : ((Try.prog.info? 32).bind fun i => i.zero) = some (blkV zeroB) := by kernel_rfl
  rw [hi] at h
  exact ⟨i, hi, h, hs, hy⟩
theorem flat_zero : ∀ n : Nat, flat (List.replicate n zeroB) = List.replicate (n * 64) (Value.int .u8 0)
  | 0 => rfl
  | n + 1 => by
    rw [List.replicate_succ]
    show bytes zeroB ++ flat (List.replicate n zeroB) = _
    rw [flat_zero n, show (n + 1) * 64 = 64 + n * 64 by omega, ← List.replicate_append_replicate]
    rfl
theorem made_zero (m : Nat) : madeCells (blkV zeroB).cells m = (List.replicate m (Value.int .u8 0)).toArray := by
  apply Array.ext
  · simp [madeCells]
  · intro i h1 h2
    have hz : (blkV zeroB).cells = (List.replicate 64 (Value.int .u8 0)).toArray := rfl
    have e : ∀ (N : Nat) (v : Value), 0 < N → ((List.replicate N v).toArray)[i % (List.replicate N v).toArray.size]! = v := by
      intro N v hN
      have : i % N < N := Nat.mod_lt _ hN
      simp [this]
    simp only [madeCells, hz, Array.getElem_map, Array.getElem_range, List.getElem_toArray, List.getElem_replicate]
    exact e 64 _ (by decide)
def freshD (n : Nat) : Dk := ⟨List.replicate n zeroB, fun _ => [], 0⟩
theorem made_rows (w : World) (n : Nat) (hn : n ≤ 2048) : Rows (w.alloc (.cells (List.replicate (n * 64) (Value.int .u8 0)).toArray 32)) (.slice (some ⟨w.heap.size, 0, none⟩) n n) (List.replicate n zeroB) := by
  refine ⟨⟨by rw [flat_len fun b hb => by rw [List.eq_of_mem_replicate hb]; rfl], .inr ⟨w.heap.size, n, _, by rw [List.length_replicate], Nat.zero_le _, Blk.new _ _ _, by rw [List.length_replicate]; exact Nat.le_refl _, by unfold maxLen; omega, by simp, ?_⟩⟩, fun b hb => by rw [List.eq_of_mem_replicate hb]; rfl⟩
  rw [flat_zero, List.length_replicate]
  simp

/-- Pointer d is disk x, its blocks in F. -/
def Disk (F : Nat → Prop) (w : World) (d : Nat) (sp : Option Nat) (x : Dk) : Prop := ∃ mw sv f, DiskIs F w d sp mw sv f x
theorem Disk.turn {F S : Nat → Prop} {w w' : World} {d : Nat} {sp : Option Nat} {x : Dk} (h : Disk F w d sp x) (hT : Turn S w w') (hS : ∀ j, F j → ¬ S j) : Disk F w' d sp x := by
  obtain ⟨mw, sv, f, h⟩ := h
  exact ⟨mw, sv, f, h.turn hT hS⟩
theorem Disk.below {F : Nat → Prop} {w w' : World} {d : Nat} {sp : Option Nat} {x : Dk} (h : Disk F w d sp x) (hT : Below w.heap.size w w') : Disk F w' d sp x := h.turn (S := fun _ => False) (Turn.of_below hT) fun _ _ => id
theorem Disk.lt {F : Nat → Prop} {w : World} {d : Nat} {sp : Option Nat} {x : Dk} (h : Disk F w d sp x) : ∀ j, F j → j < w.heap.size := by
  obtain ⟨mw, sv, f, h⟩ := h
  exact h.lt
theorem Disk.mono {F F' : Nat → Prop} {w : World} {d : Nat} {sp : Option Nat} {x : Dk} (h : Disk F w d sp x) (hF : ∀ j, F j → F' j) (hl : ∀ j, F' j → j < w.heap.size) : Disk F' w d sp x := by
  obtain ⟨mw, sv, f, h⟩ := h
  exact ⟨mw, sv, f, h.mono hF hl⟩
theorem Disk.in_ {F : Nat → Prop} {w : World} {d : Nat} {sp : Option Nat} {x : Dk} (h : Disk F w d sp x) : F d := by
  obtain ⟨mw, sv, f, h⟩ := h
  exact h.fd
theorem Disk.n {F : Nat → Prop} {w : World} {d : Nat} {sp : Option Nat} {x : Dk} (h : Disk F w d sp x) : 1 ≤ x.stable.length ∧ x.stable.length ≤ 2048 ∧ 0 ≤ x.writes := by
  obtain ⟨mw, sv, f, h⟩ := h
  exact ⟨h.n1, h.n2, h.cnt.1⟩
theorem Disk.shows_len {F : Nat → Prop} {w : World} {d : Nat} {sp : Option Nat} {x : Dk} (h : Disk F w d sp x) (i : Int) : (x.shows i).length = 64 := by
  obtain ⟨mw, sv, f, h⟩ := h
  exact Dk.shows_len h i
theorem Disk.len {F : Nat → Prop} {d : Nat} {sp : Option Nat} {x : Dk} (w : World) (h : Disk F w d sp x) :
    Calls Try.prog 53 #[.pointer (some ⟨d, 0, none⟩)] w fun e w' => e = .returned (.int .i64 x.stable.length) ∧ w' = w := by
  obtain ⟨mw, sv, f, h⟩ := h
  exact len_any w h
theorem Disk.read {F : Nat → Prop} {d : Nat} {sp : Option Nat} {x : Dk} (i : Int) (w : World) (h : Disk F w d sp x) (hk : (key i).wf = true) :
    Calls Try.prog 15 #[.pointer (some ⟨d, 0, none⟩), .int .i64 i] w fun e w' => e = .returned (.tuple #[blkV (if x.is i then x.shows i else zeroB), .int .i64 (if x.is i then 0 else 2)]) ∧ Below w.heap.size w w' := by
  obtain ⟨mw, sv, f, h⟩ := h
  exact read_any i w h hk
def codeO (x : Dk) (s : Option Sup) (i : Int) : Int := if x.is i then (useO s).1 else 2
def supO (x : Dk) (s : Option Sup) (i : Int) : Option Sup := if x.is i then (useO s).2 else s
theorem Disk.write {F : Nat → Prop} {d : Nat} {sp : Option Nat} {x : Dk} {s : Option Sup} (i : Int) (b : List Int) (w : World) (h : Disk F w d sp x) (hs : SupIs w sp s) (hok : ∀ s', s = some s' → s'.ok) (hsp : ∀ g, sp = some g → ¬ F g ∧ g < w.heap.size)
    (hb : b.length = 64) (hk : (key i).wf = true) (hw : x.writes ≤ 1000000) :
    Calls Try.prog 57 #[.pointer (some ⟨d, 0, none⟩), .int .i64 i, blkV b] w fun e w' => e = .returned (.int .i64 (codeO x s i)) ∧ SupIs w' sp (supO x s i) ∧
      Disk (grow F w w') w' d sp (if x.is i ∧ (useO s).1 = 0 then x.write i b else x) ∧ Turn (fun j => F j ∨ sp = some j) w w' := by
  obtain ⟨mw, sv, f, h⟩ := h
  exact (write_any i b w h hs hok hsp hb hk hw).mono fun e w' ⟨h1, h2, ⟨f', h3⟩, h4⟩ => ⟨h1, h2, ⟨mw, sv, f', h3⟩, h4⟩
theorem Disk.force {F : Nat → Prop} {d : Nat} {sp : Option Nat} {x : Dk} {s : Option Sup} (i : Int) (b : List Int) (w : World) (h : Disk F w d sp x) (hs : SupIs w sp s) (hok : ∀ s', s = some s' → s'.ok) (hsp : ∀ g, sp = some g → ¬ F g ∧ g < w.heap.size)
    (hb : b.length = 64) (hk : (key i).wf = true) (hw : x.writes ≤ 1000000) :
    Calls Try.prog 33 #[.pointer (some ⟨d, 0, none⟩), .int .i64 i, blkV b] w fun e w' => e = .returned (.int .i64 (codeO x s i)) ∧ SupIs w' sp (supO x s i) ∧
      Disk F w' d sp (if x.is i ∧ (useO s).1 = 0 then x.force i b else x) ∧ Turn (fun j => F j ∨ sp = some j) w w' := by
  obtain ⟨mw, sv, f, h⟩ := h
  exact (force_any i b w h hs hok hsp hb hk hw).mono fun e w' ⟨h1, h2, ⟨f', h3⟩, h4⟩ => ⟨h1, h2, ⟨mw, sv, f', h3⟩, h4⟩

set_option maxRecDepth 100000 in
set_option maxHeartbeats 1000000 in
theorem newD_any (n : Nat) (sp : Option Nat) (w : World) (h1 : 1 ≤ n) (h2 : n ≤ 2048) :
    Calls Try.prog 7 #[.int .i64 n, ptr sp] w fun e w' => ∃ d, e = .returned (.tuple #[.pointer (some ⟨d, 0, none⟩), .int .i64 0]) ∧ Disk (grow (fun _ => False) w w') w' d sp (freshD n) ∧ Below w.heap.size w w' := by
  obtain ⟨i, hi, hz, hs, hy⟩ := zero_info
  have hmk := run_make w 67 32 i (blkV zeroB) Try.underlying67 hi hz .i64 .i64 n n (by omega) (Int.le_refl _) (by rw [hy]; omega) (by omega)
  rw [hs, made_zero] at hmk
  simp only [Int.toNat_natCast] at hmk
  rw [List.toArray_replicate] at hmk
  have hmm := @run_makeMap Try.prog
  have hd1 : decide ((n : Int) < 1) = false := decide_eq_false (by omega)
  have hd2 : decide ((2048 : Int) < n) = false := decide_eq_false (by omega)
  have HR := Lib.hid (made_rows w n h2)
  rw [List.toArray_replicate] at HR
  have HF : Hid (∀ (W : World), W = ((w.alloc (.cells (Array.replicate (n * 64) (Value.int .u8 0)) 32)).alloc (.map #[] 0)).alloc (.cells #[ptr sp, .slice (some ⟨w.heap.size, 0, none⟩) n n, .map (some (w.heap.size + 1)), .int .i64 0] 70) → ∃ d mw sv f, d = w.heap.size + 1 + 1 ∧ DiskIs (grow (fun _ => False) w W) W d sp mw sv f (freshD n) ∧ Below w.heap.size w W) := Lib.hid fun W hW => by
    have hs1 : (w.alloc (.cells (Array.replicate (n * 64) (Value.int .u8 0)) 32)).heap.size = w.heap.size + 1 := by simp
    have hs2 : ((w.alloc (.cells (Array.replicate (n * 64) (Value.int .u8 0)) 32)).alloc (.map #[] 0)).heap.size = w.heap.size + 1 + 1 := by simp
    have hs3 : W.heap.size = w.heap.size + 1 + 1 + 1 := by rw [hW]; simp
    have hB : Below w.heap.size w W := by rw [hW]; exact (((Below.refl _ _).alloc (Nat.le_refl _) _).alloc (by simp) _).alloc (by simp; omega) _
    refine ⟨w.heap.size + 1 + 1, w.heap.size + 1, .slice (some ⟨w.heap.size, 0, none⟩) n n, fun _ => none, rfl, ?_, hB⟩
    exact
      { blk := by
          rw [hW]
          have := Blk.new ((w.alloc (.cells (Array.replicate (n * 64) (Value.int .u8 0)) 32)).alloc (.map #[] 0)) 70 #[ptr sp, .slice (some ⟨w.heap.size, 0, none⟩) n n, .map (some (w.heap.size + 1)), .int .i64 0]
          rw [hs2] at this
          exact this
        st := by
          rw [hW]
          exact HR.out.keep fun j hj => by
            have hjl := HR.out.lt j hj
            rw [Below.heap_alloc _ _ j (by rw [hs2]; rw [hs1] at hjl; omega), Below.heap_alloc _ _ j hjl]
        n1 := by show 1 ≤ (List.replicate n zeroB).length; rw [List.length_replicate]; exact h1
        n2 := by show (List.replicate n zeroB).length ≤ 2048; rw [List.length_replicate]; exact h2
        map := by
          rw [hW]
          have := (MapIs.new (w.alloc (.cells (Array.replicate (n * 64) (Value.int .u8 0)) 32))).alloc (.cells #[ptr sp, .slice (some ⟨w.heap.size, 0, none⟩) n n, .map (some (w.heap.size + 1)), .int .i64 0] 70)
          rw [hs1] at this
          exact this
        wt := fun k v h => by cases h
        none_ := fun k _ => rfl
        cnt := ⟨Int.le_refl _, fun k => Int.le_refl _⟩
        fd := .inr ⟨by omega, by omega⟩
        fm := .inr ⟨by omega, by omega⟩
        fs := fun j hj => .inr (by
          obtain rfl : w.heap.size = j := Option.some.inj hj
          exact ⟨Nat.le_refl _, by omega⟩)
        fw := fun k v h => by cases h
        ap := fun k v k' v' h => by cases h
        as_ := fun k v h => by cases h
        lt := fun j hj => by
          rcases hj with hj | hj
          · exact hj.elim
          · exact hj.2 }
  clear HR
  rcases sp with _ | g
  all_goals
    unfold ptr at *
    go_enter Try.func7, Try.ntmps7
    go_wp2
    go_ret2
    obtain ⟨d, mw, sv, f, rfl, hh, hB⟩ := HF.out _ rfl
    exact ⟨_, rfl, ⟨mw, sv, f, hh⟩, hB⟩
end Go.Proofs.Ytnbppfhnagacfaa
