/- The calls of package fds and of the reference, each as one contract without cases, and what they do to a pair of tables that hold the same. -/
import Derived.Test.YtcjgmkjjogemhaaSim
import Derived.Test.YtcjgmkjjogemhaaKeeps
namespace Go.Proofs.Ytcjgmkjjogemhaa
open Go.RowKit

def getF (T : Nat → Option FileT) (fd : Int) : Int × Int × Int × Int := match look T fd with | some x => (x.2.1, x.2.2.1, x.2.2.2, 0) | none => (0, 0, 0, 46)
def rgetF (I : Nat → Bool) (F : Nat → Int × Int × Int) (fd : Int) : Int × Int × Int × Int := if rlook I fd then ((F fd.toNat).1, (F fd.toNat).2.1, (F fd.toNat).2.2, 0) else (0, 0, 0, 46)
def gotten (x : Int × Int × Int × Int) : Ending := .returned (.tuple #[.agg #[.int .i64 x.1, .int .i64 x.2.1, .int .i64 x.2.2.1], .int .i64 x.2.2.2])
def closeT (T : Nat → Option FileT) (fd : Int) : Nat → Option FileT := match look T fd with | some _ => put T fd.toNat none | none => T
def rcloseI (I : Nat → Bool) (fd : Int) : Nat → Bool := if rlook I fd then put I fd.toNat false else I
def seekE (T : Nat → Option FileT) (fd pos : Int) : Int := match look T fd with | some _ => if pos < 0 then 2 else 0 | none => 46
def seekT (T : Nat → Option FileT) (fd pos : Int) : Nat → Option FileT := match look T fd with | some x => if pos < 0 then T else put T fd.toNat (some (x.1, x.2.1, pos, x.2.2.2)) | none => T
def rseekE (I : Nat → Bool) (fd pos : Int) : Int := if rlook I fd then if pos < 0 then 2 else 0 else 46
def rseekF (I : Nat → Bool) (F : Nat → Int × Int × Int) (fd pos : Int) : Nat → Int × Int × Int := if rlook I fd then if pos < 0 then F else put F fd.toNat ((F fd.toNat).1, pos, (F fd.toNat).2.2) else F

section
variable {T : Nat → Option FileT} {I : Nat → Bool} {F : Nat → Int × Int × Int} {b : Nat}

theorem get_all (T : Nat → Option FileT) (b : Nat) (fd : Int) (w : World) (ht : Tab w b T) :
    Calls Try.prog 11 #[.pointer (some ⟨b, 0, none⟩), .int .i64 fd] w fun e w' => e = gotten (getF T fd) ∧ Below w.heap.size w w' := by
  cases hl : look T fd with
  | none => exact (get_none T b fd w ht hl).mono fun e w' h => ⟨by rw [h.1]; simp [gotten, getF, hl], h.2⟩
  | some y =>
    obtain ⟨k, rfl, hk, hy⟩ := look_some hl
    exact (get_some T b k y w ht hk hy).mono fun e w' h => ⟨by rw [h.1]; simp [gotten, getF, hl], h.2⟩
theorem rget_all (I : Nat → Bool) (F : Nat → Int × Int × Int) (b : Nat) (fd : Int) (w : World) (ht : RTab w b I F) :
    Calls Try.prog 18 #[.pointer (some ⟨b, 0, none⟩), .int .i64 fd] w fun e w' => e = gotten (rgetF I F fd) ∧ Below w.heap.size w w' := by
  cases hl : rlook I fd with
  | false => exact (rget_none I F b fd w ht hl).mono fun e w' h => ⟨by rw [h.1]; simp [gotten, rgetF, hl], h.2⟩
  | true =>
    obtain ⟨k, rfl, hk, hy⟩ := rlook_true hl
    exact (rget_some I F b k w ht hk hy).mono fun e w' h => ⟨by rw [h.1]; simp [gotten, rgetF, hl], h.2⟩
theorem Sim.got (h : Sim T I F) (fd : Int) : rgetF I F fd = getF T fd := by
  cases hl : look T fd with
  | none => simp [getF, rgetF, hl, h.look_none hl]
  | some y =>
    obtain ⟨k, rfl, hk, hy⟩ := look_some hl
    obtain ⟨h1, h2⟩ := h.present hk hy
    have : rlook I (k : Int) = true := by unfold rlook; rw [if_pos (by omega)]; simpa using h1
    simp [getF, rgetF, hl, this, h2]
theorem close_all (T : Nat → Option FileT) (b : Nat) (fd : Int) (w : World) (ht : Tab w b T) :
    Calls Try.prog 10 #[.pointer (some ⟨b, 0, none⟩), .int .i64 fd] w fun e w' => e = gotten (getF T fd) ∧ Tab w' b (closeT T fd) ∧ Turn (· = b) w w' := by
  cases hl : look T fd with
  | none => exact (close_none T b fd w ht hl).mono fun e w' h => ⟨by rw [h.1]; simp [gotten, getF, hl], by simpa [closeT, hl] using ht.below h.2, Turn.of_below h.2⟩
  | some y =>
    obtain ⟨k, rfl, hk, hy⟩ := look_some hl
    exact (close_some T b k y w ht hk hy).mono fun e w' h => ⟨by rw [h.1]; simp [gotten, getF, hl], by simpa [closeT, hl] using h.2.1, h.2.2⟩
theorem rclose_all (I : Nat → Bool) (F : Nat → Int × Int × Int) (b : Nat) (fd : Int) (w : World) (ht : RTab w b I F) :
    Calls Try.prog 14 #[.pointer (some ⟨b, 0, none⟩), .int .i64 fd] w fun e w' => e = gotten (rgetF I F fd) ∧ RTab w' b (rcloseI I fd) F ∧ Turn (· = b) w w' := by
  cases hl : rlook I fd with
  | false => exact (rclose_none I F b fd w ht hl).mono fun e w' h => ⟨by rw [h.1]; simp [gotten, rgetF, hl], by simpa [rcloseI, hl] using ht.below h.2, Turn.of_below h.2⟩
  | true =>
    obtain ⟨k, rfl, hk, hy⟩ := rlook_true hl
    exact (rclose_some I F b k w ht hk hy).mono fun e w' h => ⟨by rw [h.1]; simp [gotten, rgetF, hl], by simpa [rcloseI, hl] using h.2.1, h.2.2⟩
theorem rlook_of_sim (h : Sim T I F) {k : Nat} (hk : k < 8) {y : FileT} (hy : T k = some y) : rlook I (k : Int) = true := by
  unfold rlook; rw [if_pos (by omega)]; simpa using (h.present hk hy).1
theorem Sim.closeT (h : Sim T I F) (fd : Int) : Sim (closeT T fd) (rcloseI I fd) F := by
  cases hl : look T fd with
  | none => simpa [Ytcjgmkjjogemhaa.closeT, rcloseI, hl, h.look_none hl] using h
  | some y =>
    obtain ⟨k, rfl, hk, hy⟩ := look_some hl
    simpa [Ytcjgmkjjogemhaa.closeT, rcloseI, hl, rlook_of_sim h hk hy] using h.closed k
theorem seek_all (T : Nat → Option FileT) (b : Nat) (fd pos : Int) (w : World) (ht : Tab w b T) :
    Calls Try.prog 15 #[.pointer (some ⟨b, 0, none⟩), .int .i64 fd, .int .i64 pos] w fun e w' => e = .returned (.int .i64 (seekE T fd pos)) ∧ Tab w' b (seekT T fd pos) ∧ Turn (foot b T) w w' := by
  cases hl : look T fd with
  | none => exact (seek_none T b fd pos w ht hl).mono fun e w' h => ⟨by rw [h.1]; simp [seekE, hl], by rw [← h.2]; simpa [seekT, hl] using ht, by rw [← h.2]; exact Turn.refl _ _⟩
  | some y =>
    obtain ⟨k, rfl, hk, hy⟩ := look_some hl
    by_cases hp : pos < 0
    · exact (seek_arg T b k y pos w ht hk hy hp).mono fun e w' h => ⟨by rw [h.1]; simp [seekE, hl, hp], by rw [← h.2]; simpa [seekT, hl, hp] using ht, by rw [← h.2]; exact Turn.refl _ _⟩
    · exact (seek_some T b k y pos w ht hk hy (by omega)).mono fun e w' h => ⟨by rw [h.1]; simp [seekE, hl, hp], by simpa [seekT, hl, hp] using h.2.1, h.2.2.mono fun i _ e => .inr ⟨k, y, hk, hy, e.symm⟩⟩
theorem rseek_all (I : Nat → Bool) (F : Nat → Int × Int × Int) (b : Nat) (fd pos : Int) (w : World) (ht : RTab w b I F) :
    Calls Try.prog 16 #[.pointer (some ⟨b, 0, none⟩), .int .i64 fd, .int .i64 pos] w fun e w' => e = .returned (.int .i64 (rseekE I fd pos)) ∧ RTab w' b I (rseekF I F fd pos) ∧ Turn (· = b) w w' := by
  cases hl : rlook I fd with
  | false => exact (rseek_none I F b fd pos w ht hl).mono fun e w' h => ⟨by rw [h.1]; simp [rseekE, hl], by simpa [rseekF, hl] using ht.below h.2, Turn.of_below h.2⟩
  | true =>
    obtain ⟨k, rfl, hk, hy⟩ := rlook_true hl
    by_cases hp : pos < 0
    · exact (rseek_arg I F b k pos w ht hk hy hp).mono fun e w' h => ⟨by rw [h.1]; simp [rseekE, hl, hp], by simpa [rseekF, hl, hp] using ht.below h.2, Turn.of_below h.2⟩
    · exact (rseek_some I F b k pos w ht hk hy (by omega)).mono fun e w' h => ⟨by rw [h.1]; simp [rseekE, hl, hp], by simpa [rseekF, hl, hp] using h.2.1, h.2.2⟩
theorem Sim.seekE (h : Sim T I F) (fd pos : Int) : rseekE I fd pos = seekE T fd pos := by
  cases hl : look T fd with
  | none => simp [Ytcjgmkjjogemhaa.seekE, rseekE, hl, h.look_none hl]
  | some y =>
    obtain ⟨k, rfl, hk, hy⟩ := look_some hl
    simp [Ytcjgmkjjogemhaa.seekE, rseekE, hl, rlook_of_sim h hk hy]
theorem Sim.seekT (h : Sim T I F) (fd pos : Int) : Sim (seekT T fd pos) I (rseekF I F fd pos) := by
  cases hl : look T fd with
  | none => simpa [Ytcjgmkjjogemhaa.seekT, rseekF, hl, h.look_none hl] using h
  | some y =>
    obtain ⟨k, rfl, hk, hy⟩ := look_some hl
    by_cases hp : pos < 0
    · simpa [Ytcjgmkjjogemhaa.seekT, rseekF, hl, rlook_of_sim h hk hy, hp] using h
    · simpa [Ytcjgmkjjogemhaa.seekT, rseekF, hl, rlook_of_sim h hk hy, hp] using h.sought hk hy pos

/-- What Open hands back and leaves, when the heap has s blocks. -/
def OpenRel (T : Nat → Option FileT) (s : Nat) (ino mode : Int) (m e : Int) (T' : Nat → Option FileT) : Prop :=
  (∃ k : Nat, k < 8 ∧ T k = none ∧ (∀ j, j < k → T j ≠ none) ∧ m = k ∧ e = 0 ∧ T' = put T k (some (s, ino, 0, mode))) ∨ ((∀ j, j < 8 → T j ≠ none) ∧ m = 0 ∧ e = 47 ∧ T' = T)
def ROpenRel (I : Nat → Bool) (F : Nat → Int × Int × Int) (ino mode : Int) (m e : Int) (I' : Nat → Bool) (F' : Nat → Int × Int × Int) : Prop :=
  (∃ k : Nat, k < 8 ∧ I k = false ∧ (∀ j, j < k → I j = true) ∧ m = k ∧ e = 0 ∧ I' = put I k true ∧ F' = put F k (ino, 0, mode)) ∨ ((∀ j, j < 8 → I j = true) ∧ m = 0 ∧ e = 47 ∧ I' = I ∧ F' = F)
def OpenAll (T : Nat → Option FileT) (b : Nat) (ino mode : Int) (w : World) (e : Ending) (w' : World) : Prop :=
  ∃ m q T', e = .returned (.tuple #[.int .i64 m, .int .i64 q]) ∧ OpenRel T w.heap.size ino mode m q T' ∧ Tab w' b T' ∧ Turn (· = b) w w'
def ROpenAll (I : Nat → Bool) (F : Nat → Int × Int × Int) (b : Nat) (ino mode : Int) (w : World) (e : Ending) (w' : World) : Prop :=
  ∃ m q I' F', e = .returned (.tuple #[.int .i64 m, .int .i64 q]) ∧ ROpenRel I F ino mode m q I' F' ∧ RTab w' b I' F' ∧ Turn (· = b) w w'
theorem open_all (T : Nat → Option FileT) (b : Nat) (ino mode : Int) (w : World) (ht : Tab w b T) :
    Calls Try.prog 8 #[.pointer (some ⟨b, 0, none⟩), .int .i64 ino, .int .i64 mode] w (OpenAll T b ino mode w) := by
  refine (open_any T b ino mode w ht).mono fun e w' h => ?_
  rcases h with ⟨k, hk, h0, h1, he, hT, ht'⟩ | ⟨h1, he, rfl⟩
  · exact ⟨_, _, _, he, .inl ⟨k, hk, h0, h1, rfl, rfl, rfl⟩, hT, ht'⟩
  · exact ⟨_, _, _, he, .inr ⟨h1, rfl, rfl, rfl⟩, ht, Turn.refl _ _⟩
theorem ropen_all (I : Nat → Bool) (F : Nat → Int × Int × Int) (b : Nat) (ino mode : Int) (w : World) (ht : RTab w b I F) :
    Calls Try.prog 13 #[.pointer (some ⟨b, 0, none⟩), .int .i64 ino, .int .i64 mode] w (ROpenAll I F b ino mode w) := by
  refine (ropen_any I F b ino mode w ht).mono fun e w' h => ?_
  rcases h with ⟨k, hk, h0, h1, he, hT, ht'⟩ | ⟨h1, he, rfl⟩
  · exact ⟨_, _, _, _, he, .inl ⟨k, hk, h0, h1, rfl, rfl, rfl, rfl⟩, hT, ht'⟩
  · exact ⟨_, _, _, _, he, .inr ⟨h1, rfl, rfl, rfl, rfl⟩, ht, Turn.refl _ _⟩
theorem Sim.openRel (h : Sim T I F) {s : Nat} {ino mode m q m' q' : Int} {T' : Nat → Option FileT} {I' : Nat → Bool} {F' : Nat → Int × Int × Int}
    (h1 : OpenRel T s ino mode m q T') (h2 : ROpenRel I F ino mode m' q' I' F') : m' = m ∧ q' = q ∧ Sim T' I' F' := by
  have full : (∀ j, j < 8 → T j ≠ none) ↔ (∀ j, j < 8 → I j = true) := by
    constructor
    · intro hh j hj
      rcases h j hj with ⟨h1, _⟩ | ⟨x, _, h2, _⟩
      · exact absurd h1 (hh j hj)
      · exact h2
    · intro hh j hj hn
      have := h.absent hj hn
      rw [hh j hj] at this; cases this
  rcases h1 with ⟨k, hk, a0, a1, rfl, rfl, rfl⟩ | ⟨a, rfl, rfl, rfl⟩ <;> rcases h2 with ⟨k', hk', b0, b1, rfl, rfl, rfl, rfl⟩ | ⟨b, rfl, rfl, rfl, rfl⟩
  · have hkk : k' = k := by
      rcases Nat.lt_trichotomy k' k with hlt | he | hlt
      · rcases h k' hk' with ⟨h1, _⟩ | ⟨x, _, h2, _⟩
        · exact absurd h1 (a1 _ hlt)
        · rw [b0] at h2; cases h2
      · exact he
      · have := b1 _ hlt
        rw [h.absent hk a0] at this; cases this
    subst hkk
    exact ⟨rfl, rfl, h.opened _ _ _ _⟩
  · exact absurd a0 (full.2 b k hk)
  · have := full.1 a k' hk'
    rw [b0] at this; cases this
  · exact ⟨rfl, rfl, h⟩

theorem foot_open {s : Nat} {ino mode m q : Int} {T' : Nat → Option FileT} (h : OpenRel T s ino mode m q T') {j : Nat} (hj : foot b T' j) : foot b T j ∨ s ≤ j := by
  rcases h with ⟨k, hk, _, _, _, _, rfl⟩ | ⟨_, _, _, rfl⟩
  · rcases hj with hj | ⟨i, x, hi, hx, e⟩
    · exact .inl (.inl hj)
    · unfold put at hx
      split at hx
      · injection hx with hx; subst hx; exact .inr (Nat.le_of_eq e)
      · exact .inl (.inr ⟨i, x, hi, hx, e⟩)
  · exact .inl hj
theorem foot_close {fd : Int} {j : Nat} (hj : foot b (closeT T fd) j) : foot b T j := by
  unfold closeT at hj
  split at hj
  · exact foot_put_none hj
  · exact hj
theorem foot_seek {fd pos : Int} {j : Nat} (hj : foot b (seekT T fd pos) j) : foot b T j := by
  unfold seekT at hj
  split at hj
  · rename_i x hl
    obtain ⟨k, rfl, hk, hy⟩ := look_some hl
    split at hj
    · exact hj
    · rcases hj with hj | ⟨i, y, hi, hy', e⟩
      · exact .inl hj
      · unfold put at hy'
        split at hy'
        · injection hy' with hy'; subst hy'; exact .inr ⟨k, x, hk, hy, e⟩
        · exact .inr ⟨i, y, hi, hy', e⟩
  · exact hj
end

/-- What a round of the law finds: the table of the package at bx, the reference's at N1, and both hold the same. -/
structure Both (B N1 : Nat) (w : World) (bx : Nat) (T : Nat → Option FileT) (I : Nat → Bool) (F : Nat → Int × Int × Int) : Prop where
  tab : Tab w bx T
  ref : RTab w N1 I F
  sim : Sim T I F
  apart : ∀ j, foot bx T j → j ≠ N1 ∧ B ≤ j
  low : B ≤ N1

/-- In the midst of a round: besides, the act's copy lies at ab. -/
structure Mid (B N1 ab : Nat) (x : Int × Int × Int) (W w : World) (bx : Nat) (T : Nat → Option FileT) (I : Nat → Bool) (F : Nat → Int × Int × Int) : Prop where
  both : Both B N1 w bx T I F
  below : Below B W w
  act : Blk w ab 30 #[.int .i64 x.1, .int .i64 x.2.1, .int .i64 x.2.2]
  far : ab ≠ N1 ∧ B ≤ ab ∧ ∀ j, foot bx T j → j ≠ ab

theorem Mid.start {B N1 : Nat} {W w : World} {bx : Nat} {T : Nat → Option FileT} {I : Nat → Bool} {F : Nat → Int × Int × Int} (x : Int × Int × Int) (h : Both B N1 w bx T I F) (hb : Below B W w) (hB : B ≤ W.heap.size) :
    Mid B N1 w.heap.size x W (w.alloc (.cells #[.int .i64 x.1, .int .i64 x.2.1, .int .i64 x.2.2] 30)) bx T I F :=
  ⟨⟨h.tab.alloc _, h.ref.alloc _, h.sim, h.apart, h.low⟩, hb.alloc (Nat.le_trans hB hb.size) _, Blk.new _ _ _,
    by have := h.ref.lt; omega, Nat.le_trans hB hb.size, fun j hj => by have := h.tab.lt hj; omega⟩
theorem Mid.step {B N1 ab : Nat} {x : Int × Int × Int} {W w w' : World} {bx : Nat} {T T' : Nat → Option FileT} {I I' : Nat → Bool} {F F' : Nat → Int × Int × Int} (h : Mid B N1 ab x W w bx T I F)
    (ht : Turn (fun j => foot bx T j ∨ j = N1) w w') (htab : Tab w' bx T') (href : RTab w' N1 I' F') (hsim : Sim T' I' F') (hfoot : ∀ j, foot bx T' j → foot bx T j ∨ w.heap.size ≤ j) (hB : B ≤ w.heap.size) : Mid B N1 ab x W w' bx T' I' F' := by
  refine ⟨⟨htab, href, hsim, fun j hj => ?_, h.both.low⟩, h.below.trans (ht.below hB fun i hi e => ?_), h.act.turn ht fun e => ?_, h.far.1, h.far.2.1, fun j hj => ?_⟩
  · rcases hfoot j hj with h1 | h1
    · exact h.both.apart j h1
    · have := h.both.ref.lt; exact ⟨by omega, by omega⟩
  · rcases e with e | e
    · have := (h.both.apart i e).2; omega
    · have := h.both.low; omega
  · rcases e with e | e
    · exact h.far.2.2 ab e rfl
    · exact h.far.1 e
  · rcases hfoot j hj with h1 | h1
    · exact h.far.2.2 j h1
    · have := h.act.lt; omega
/-- Behind the copy, and what is done to the old table. -/
theorem Mid.copied {B N1 ab : Nat} {x : Int × Int × Int} {W w w4 w5 w6 : World} {bx : Nat} {T T' : Nat → Option FileT} {I : Nat → Bool} {F : Nat → Int × Int × Int} (h : Mid B N1 ab x W w bx T I F)
    (hT4 : Tab w4 w.heap.size T') (hcop : ∀ i, i < 8 → (T' i).map (·.2) = (T i).map (·.2) ∧ ∀ x, T' i = some x → w.heap.size ≤ x.1) (hb4 : Below w.heap.size w w4)
    (ht5 : Turn (· = bx) w4 w5) (ht6 : Turn (foot bx (closeT T 0)) w5 w6) : Mid B N1 ab x W w6 w.heap.size T' I F := by
  have hnew : ∀ j, foot w.heap.size T' j → w.heap.size ≤ j := fun j hj => by
    rcases hj with rfl | ⟨i, y, hi, hy, rfl⟩
    · exact Nat.le_refl _
    · exact (hcop i hi).2 y hy
  have hold : ∀ j, foot bx T j → j < w.heap.size := fun j hj => h.both.tab.lt hj
  have hbx : bx < w.heap.size := hold _ (.inl rfl)
  have h45 : Turn (foot bx T) w4 w6 := (ht5.mono fun i _ e => .inl e).trans ht6 fun i _ e => foot_close e
  have hT6 : Tab w6 w.heap.size T' := hT4.turn h45 fun j hj e => by have := hnew j hj; have := hold j e; omega
  have hR6 : RTab w6 N1 I F := (h.both.ref.below hb4).turn h45 fun e => (h.both.apart _ e).1 rfl
  have hBw : B ≤ w.heap.size := by have := h.far.2.1; have := h.act.lt; omega
  refine ⟨⟨hT6, hR6, h.both.sim.copied fun i hi => (hcop i hi).1, fun j hj => ?_, h.both.low⟩, ?_, (h.act.below hb4 h.act.lt).turn h45 fun e => h.far.2.2 _ e rfl, h.far.1, h.far.2.1, fun j hj => ?_⟩
  · have := hnew j hj; have := h.both.ref.lt; exact ⟨by omega, by omega⟩
  · exact (h.below.trans (hb4.mono hBw)).trans (h45.below (Nat.le_trans hBw hb4.size) fun i hi e => by have := (h.both.apart i e).2; omega)
  · have := hnew j hj; have := h.act.lt; omega
theorem Mid.grow {B N1 ab : Nat} {x : Int × Int × Int} {W w w' : World} {bx : Nat} {T : Nat → Option FileT} {I : Nat → Bool} {F : Nat → Int × Int × Int} (h : Mid B N1 ab x W w bx T I F) (hb : Below w.heap.size w w') : Mid B N1 ab x W w' bx T I F := by
  have hBw : B ≤ w.heap.size := by have := h.far.2.1; have := h.act.lt; omega
  exact ⟨⟨h.both.tab.below hb, h.both.ref.below hb, h.both.sim, h.both.apart, h.both.low⟩, h.below.trans (hb.mono hBw), h.act.below hb h.act.lt, h.far⟩

section
variable {B N1 ab : Nat} {x : Int × Int × Int} {W w : World} {bx : Nat} {T : Nat → Option FileT} {I : Nat → Bool} {F : Nat → Int × Int × Int}
theorem count_in (h : Mid B N1 ab x W w bx T I F) (ino : Int) (V : World) (hV : Below w.heap.size w V) :
    Calls Try.prog 19 #[.pointer (some ⟨bx, 0, none⟩), .int .i64 ino] V fun e w' => e = .returned (.int .i64 (rcountTo I F ino 8)) ∧ Below w.heap.size w w' :=
  (count_any T bx ino V (h.both.tab.below hV)).mono fun e w' q => ⟨by rw [q.1, h.both.sim.counted], hV.trans (q.2.mono hV.size)⟩
theorem rcount_in (h : Mid B N1 ab x W w bx T I F) (ino : Int) (V : World) (hV : Below w.heap.size w V) :
    Calls Try.prog 20 #[.pointer (some ⟨N1, 0, none⟩), .int .i64 ino] V fun e w' => e = .returned (.int .i64 (rcountTo I F ino 8)) ∧ Below w.heap.size w w' :=
  (rcount_any I F N1 ino V (h.both.ref.below hV)).mono fun e w' q => ⟨q.1, by rw [← q.2]; exact hV⟩
theorem used_in (h : Mid B N1 ab x W w bx T I F) (V : World) (hV : Below w.heap.size w V) :
    Calls Try.prog 22 #[.pointer (some ⟨bx, 0, none⟩)] V fun e w' => ∃ v, e = .returned v ∧ Below w.heap.size w w' ∧ Ints 0 w' v (rusedTo I 8) :=
  (used_any T bx V (h.both.tab.below hV)).mono fun e w' ⟨v, q1, q2, q3⟩ => ⟨v, q1, hV.trans (q3.mono hV.size), by rw [← h.both.sim.used]; exact (Ints.of_own q2).mono (Nat.zero_le _)⟩
theorem rused_in (h : Mid B N1 ab x W w bx T I F) (V : World) (hV : Below w.heap.size w V) :
    Calls Try.prog 23 #[.pointer (some ⟨N1, 0, none⟩)] V fun e w' => ∃ A c, e = .returned (.slice A (rusedTo I 8).length c) ∧ Below w.heap.size w w' ∧ Ints 0 w' (.slice A (rusedTo I 8).length c) (rusedTo I 8) ∧ ∀ v, Ints 0 V v (rusedTo I 8) → Ints 0 w' v (rusedTo I 8) := by
  refine (rused_any I F N1 V (h.both.ref.below hV)).mono fun e w' q => ?_
  obtain ⟨v, rfl, q2, q3⟩ := q
  have hi := (Ints.of_own q2).mono (B' := 0) (Nat.zero_le _)
  obtain ⟨A, c, rfl, r⟩ := id hi
  exact ⟨A, c, rfl, hV.trans (q3.mono hV.size), hi, fun v hv => hv.below q3⟩
theorem same_in (h : Mid B N1 ab x W w bx T I F) (V : World) (a b : Value) (hV : Below w.heap.size w V) (ha : Ints 0 V a (rusedTo I 8)) (hb : Ints 0 V b (rusedTo I 8)) :
    Calls Try.prog 21 #[a, b] V fun e w' => e = .returned (.bool true) ∧ Below w.heap.size w w' := by
  have _ := h.both.low
  exact (sameInts_any a b _ _ V ha hb).mono fun e w' ⟨q1, n, q2⟩ => ⟨by rw [q1]; simp, by rw [q2]; exact ⟨hV.os, hV.tape, hV.output, hV.size, hV.block⟩⟩
theorem full_in (h : Mid B N1 ab x W w bx T I F) (V : World) (hV : Below w.heap.size w V) :
    Calls Try.prog 24 #[.pointer (some ⟨bx, 0, none⟩)] V fun e w' => e = .returned (.bool ((((rusedTo I 8).length : Int)) == 8)) ∧ Below w.heap.size w w' :=
  (full_any T bx V (h.both.tab.below hV)).mono fun e w' q => ⟨by rw [q.1, h.both.sim.used], hV.trans (q.2.mono hV.size)⟩
end
end Go.Proofs.Ytcjgmkjjogemhaa
