/- package disk: Len, may, shows, Read. -/
import Derived.Test.YtnbppfhnagacfaaMem
import Derived.Deep.RegionHeld3
import Derived.Deep.DrawnRows
import Derived.Deep.QuietTactic
import Derived.BigQuiet
import Derived.Deep.DeepCutAuto
namespace Go.Proofs.Ytnbppfhnagacfaa
open Go.RowKit
set_option linter.unusedVariables false
attribute [local go_sem ↓] Go.wp_at_zero Go.wp_at_succ

/-- A disk's state. -/
structure Dk where
  stable : List (List Int)
  waits : Int → List (List Int)
  writes : Int
def Dk.shows (x : Dk) (i : Int) : List Int := ((x.waits i).getLast?).getD (x.stable.getD i.toNat zeroB)
def ptr : Option Nat → Value
  | none => .pointer none
  | some g => .pointer (some ⟨g, 0, none⟩)

/-- Pointer d is disk x; its blocks lie in F. -/
structure DiskIs (F : Nat → Prop) (w : World) (d : Nat) (sp : Option Nat) (mw : Nat) (sv : Value) (f : Int → Option Value) (x : Dk) : Prop where
  blk : Blk w d 70 #[ptr sp, sv, .map (some mw), .int .i64 x.writes]
  st : Rows w sv x.stable
  n1 : 1 ≤ x.stable.length
  n2 : x.stable.length ≤ 2048
  map : MapIs w mw x.writes.toNat f
  wt : ∀ k v, f k = some v → Rows w v (x.waits k)
  none_ : ∀ k, f k = none → x.waits k = []
  cnt : 0 ≤ x.writes ∧ ∀ k, ((x.waits k).length : Int) ≤ x.writes
  fd : F d
  fm : F mw
  fs : ∀ j, sv.ownBlock = some j → F j
  fw : ∀ k v, f k = some v → ∀ j, v.ownBlock = some j → F j
  ap : ∀ k v k' v', f k = some v → f k' = some v' → k ≠ k' → ∀ j, v.ownBlock = some j → v'.ownBlock ≠ some j
  as_ : ∀ k v, f k = some v → ∀ j, v.ownBlock = some j → sv.ownBlock ≠ some j
  lt : ∀ j, F j → j < w.heap.size

theorem DiskIs.turn {F S : Nat → Prop} {w w' : World} {d mw : Nat} {sp : Option Nat} {sv : Value} {f : Int → Option Value} {x : Dk} (h : DiskIs F w d sp mw sv f x) (hT : Turn S w w') (hS : ∀ j, F j → ¬ S j) : DiskIs F w' d sp mw sv f x :=
  { h with
    blk := h.blk.turn hT (hS _ h.fd)
    st := h.st.turn hT fun j hj => hS _ (h.fs j hj)
    map := h.map.turn hT (hS _ h.fm)
    wt := fun k v hk => (h.wt k v hk).turn hT fun j hj => hS _ (h.fw k v hk j hj)
    lt := fun j hj => Nat.lt_of_lt_of_le (h.lt j hj) hT.size }
theorem DiskIs.below {F : Nat → Prop} {w w' : World} {d mw : Nat} {sp : Option Nat} {sv : Value} {f : Int → Option Value} {x : Dk} (h : DiskIs F w d sp mw sv f x) (hT : Below w.heap.size w w') : DiskIs F w' d sp mw sv f x :=
  h.turn (S := fun _ => False) (Turn.of_below hT) fun _ _ => id

set_option maxHeartbeats 1000000 in
theorem len_any {F : Nat → Prop} {d mw : Nat} {sp : Option Nat} {sv : Value} {f : Int → Option Value} {x : Dk} (w : World) (h : DiskIs F w d sp mw sv f x) :
    Calls Try.prog 53 #[.pointer (some ⟨d, 0, none⟩)] w fun e w' => e = .returned (.int .i64 x.stable.length) ∧ w' = w := by
  have c1 := h.blk.cell 1
  obtain ⟨A, c, rfl, h1, h2⟩ := h.st.shape
  simp at c1
  clear h
  go_enter Try.func53, Try.ntmps53
  go_wp2
  go_ret
  exact ⟨rfl, rfl⟩

set_option maxHeartbeats 1000000 in
theorem may_any {F : Nat → Prop} {d mw : Nat} {sp : Option Nat} {sv : Value} {f : Int → Option Value} {x : Dk} (i : Int) (w : World) (h : DiskIs F w d sp mw sv f x) :
    Calls Try.prog 37 #[.pointer (some ⟨d, 0, none⟩), .int .i64 i] w fun e w' => e = .returned (.int .i64 (if 0 ≤ i ∧ i < x.stable.length then 0 else 2)) ∧ ∃ n, w' = w.drewN n := by
  have c1 := h.blk.cell 1
  obtain ⟨A, c, rfl, h1, h2⟩ := h.st.shape
  simp at c1
  clear h
  by_cases a1 : 0 ≤ i
  · by_cases a2 : i < x.stable.length
    · rw [if_pos ⟨a1, a2⟩]
      go_enter Try.func37, Try.ntmps37
      go_wp2
      go_ret
      exact ⟨rfl, 0, rfl⟩
    · rw [if_neg (fun h => a2 h.2)]
      go_enter Try.func37, Try.ntmps37
      go_wp2
      go_ret
      exact ⟨rfl, 0, rfl⟩
  · rw [if_neg (fun h => a1 h.1)]
    go_enter Try.func37, Try.ntmps37
    go_wp2
    go_ret
    exact ⟨rfl, 0, rfl⟩

theorem zero67 : ∀ (w : World), (zeroValue 67).run Try.prog w = .ok (.slice none 0 0) w := Try.zeroValue67
theorem Dk.shows_len {F : Nat → Prop} {w : World} {d mw : Nat} {sp : Option Nat} {sv : Value} {f : Int → Option Value} {x : Dk} (h : DiskIs F w d sp mw sv f x) (i : Int) : (x.shows i).length = 64 := by
  unfold Dk.shows
  cases hl : (x.waits i).getLast? with
  | some b =>
    have hm := List.mem_of_getLast? hl
    cases hf : f i with
    | none => rw [h.none_ i hf] at hm; cases hm
    | some v => exact (h.wt i v hf).2 b hm
  | none =>
    show (x.stable.getD i.toNat zeroB).length = 64
    rw [List.getD_eq_getElem?_getD]
    cases hs : x.stable[i.toNat]? with
    | none => rfl
    | some b => exact h.st.2 b (List.mem_of_getElem? hs)
set_option maxRecDepth 100000 in
set_option maxHeartbeats 1000000 in
theorem shows_any {F : Nat → Prop} {d mw : Nat} {sp : Option Nat} {sv : Value} {f : Int → Option Value} {x : Dk} (i : Int) (w : World) (h : DiskIs F w d sp mw sv f x) (h0 : 0 ≤ i) (h1 : i < x.stable.length) (hk : (key i).wf = true) :
    Calls Try.prog 38 #[.pointer (some ⟨d, 0, none⟩), .int .i64 i] w fun e w' => e = .returned (blkV (x.shows i)) ∧ Below w.heap.size w w' := by
  have hlen := Dk.shows_len h i
  generalize hsh : x.shows i = sb at *
  obtain ⟨w1, hw1⟩ : ∃ w1, w1 = w.alloc (.cells (bytes zeroB).toArray 32) := ⟨_, rfl⟩
  have hb1 : Below w.heap.size w w1 := by rw [hw1]; exact (Below.refl _ _).alloc (Nat.le_refl _) _
  have hD1 := h.below hb1
  have hV1 : Var w1 w.heap.size zeroB := by rw [hw1]; exact Var.new _ zero_len
  go_enter Try.func38, Try.ntmps38
  go_upto_region 1 with (fail)
  change Code.wp _ _ _ _ (World.alloc w (.cells (bytes zeroB).toArray 32))
  rw [← hw1]
  obtain ⟨b1, hb1e⟩ : ∃ b1, b1 = w.heap.size := ⟨_, rfl⟩
  rw [← hb1e] at hV1 ⊢
  have c1 := hD1.blk.cell 1
  have c2 := hD1.blk.cell 2
  simp at c1 c2
  obtain ⟨g, c, rfl, hc1, hc2, hgl⟩ := hD1.st.form (by omega)
  have hlk := hD1.map.look Try.underlying68 (zero67 _) hk
  have HTh := Lib.hid hV1.there
  have HV1 := Lib.hid hV1
  have HB1 := Lib.hid hb1
  cases hf : f i with
  | none =>
    rw [hf] at hlk
    simp only [Option.getD_none] at hlk
    have hsb : x.stable[i.toNat]? = some sb := by
      unfold Dk.shows at hsh
      rw [hD1.none_ i hf] at hsh
      have hlt : i.toNat < x.stable.length := by omega
      simp [List.getD_eq_getElem?_getD, hlt] at hsh
      rw [List.getElem?_eq_getElem hlt, hsh]
    have HRg := Lib.hid (hD1.st.range hsb)
    clear h hD1 hsb hf hsh hb1 hw1 hV1
    go_wp2_with (first | (refine wl_load32 HRg hlen _ rfl rfl rfl ?_) | (refine wl_store32 HTh hlen _ _ rfl rfl rfl rfl ?_))
    have hV2 := HV1.out.set hlen
    have hbb : Below w.heap.size w (w1.setCells b1 0 (bytes sb)) := HB1.out.trans ((Turn.setCells (S := fun j => j = b1) (g := b1) (bytes sb) 0 (Turn.refl _ _) (fun _ => rfl)).below (by have := HB1.out.size; omega) (fun i hi e => by omega))
    exact bodyPost_ret (v := blkV sb) (res_blk rfl hV2 rfl) rfl ⟨rfl, hbb⟩
  | some v =>
    rw [hf] at hlk
    simp only [Option.getD_some] at hlk
    have hw := hD1.wt i v hf
    have hnk := hD1.cnt.2 i
    generalize hwt : x.waits i = L at *
    by_cases hL : L = []
    · subst hL
      have hsb : x.stable[i.toNat]? = some sb := by
        unfold Dk.shows at hsh
        rw [hwt] at hsh
        have hlt : i.toNat < x.stable.length := by omega
        simp [List.getD_eq_getElem?_getD, hlt] at hsh
        rw [List.getElem?_eq_getElem hlt, hsh]
      obtain ⟨A3, c3, rfl, -, -⟩ := hw.shape
      have HRg := Lib.hid (hD1.st.range hsb)
      clear h hD1 hsb hf hsh hb1 hw1 hV1 hwt hw
      go_wp2_with (first | (refine wl_load32 HRg hlen _ rfl rfl rfl ?_) | (refine wl_store32 HTh hlen _ _ rfl rfl rfl rfl ?_))
      have hV2 := HV1.out.set hlen
      have hbb : Below w.heap.size w (w1.setCells b1 0 (bytes sb)) := HB1.out.trans ((Turn.setCells (S := fun j => j = b1) (g := b1) (bytes sb) 0 (Turn.refl _ _) (fun _ => rfl)).below (by have := HB1.out.size; omega) (fun i hi e => by omega))
      exact bodyPost_ret (v := blkV sb) (res_blk rfl hV2 rfl) rfl ⟨rfl, hbb⟩
    · have hpos : 0 < L.length := List.length_pos_iff.2 hL
      obtain ⟨g3, c3, rfl, hn3, hm3, -⟩ := hw.form hpos
      have hlast : L[L.length - 1]? = some sb := by
        unfold Dk.shows at hsh
        rw [hwt, List.getLast?_eq_getElem?, List.getElem?_eq_getElem (by omega)] at hsh
        rw [List.getElem?_eq_getElem (by omega)]
        simpa using hsh
      have HRg := Lib.hid (hw.range hlast)
      have ew : IntKind.i64.wrap ((L.length : Int) - 1) = (L.length : Int) - 1 := IntWalk.i64_in _ (by unfold maxLen at hm3; omega) |>.trans rfl
      have en : ((L.length : Int) - 1).toNat = L.length - 1 := by omega
      clear h hD1 hf hsh hb1 hw1 hV1 hwt hw hlast
      go_wp2_with (first | (refine wl_load32 HRg hlen _ rfl rfl rfl ?_) | (refine wl_store32 HTh hlen _ _ rfl rfl rfl rfl ?_))
      have hV2 := HV1.out.set hlen
      have hbb : Below w.heap.size w (w1.setCells b1 0 (bytes sb)) := HB1.out.trans ((Turn.setCells (S := fun j => j = b1) (g := b1) (bytes sb) 0 (Turn.refl _ _) (fun _ => rfl)).below (by have := HB1.out.size; omega) (fun i hi e => by omega))
      exact bodyPost_ret (v := blkV sb) (res_blk rfl hV2 rfl) rfl ⟨rfl, hbb⟩

def Dk.is (x : Dk) (i : Int) : Prop := 0 ≤ i ∧ i < x.stable.length
instance (x : Dk) (i : Int) : Decidable (x.is i) := by unfold Dk.is; exact inferInstance
theorem var_set_below {B : Nat} {w w1 : World} {g : Nat} (h : Below B w w1) (hB : B ≤ g) (hb1 : B ≤ w1.heap.size) (b' : List Int) : Below B w (w1.setCells g 0 (bytes b')) :=
  h.trans ((Turn.setCells (S := fun j => j = g) (g := g) (bytes b') 0 (Turn.refl _ _) (fun _ => rfl)).below hb1 (fun i hi e => by omega))
set_option maxRecDepth 100000 in
set_option maxHeartbeats 1000000 in
theorem read_any {F : Nat → Prop} {d mw : Nat} {sp : Option Nat} {sv : Value} {f : Int → Option Value} {x : Dk} (i : Int) (w : World) (h : DiskIs F w d sp mw sv f x) (hk : (key i).wf = true) :
    Calls Try.prog 15 #[.pointer (some ⟨d, 0, none⟩), .int .i64 i] w fun e w' => e = .returned (.tuple #[blkV (if x.is i then x.shows i else zeroB), .int .i64 (if x.is i then 0 else 2)]) ∧ Below w.heap.size w w' := by
  have hsl := Dk.shows_len h i
  obtain ⟨w1, hw1⟩ : ∃ w1, w1 = w.alloc (.cells (bytes zeroB).toArray 32) := ⟨_, rfl⟩
  have hb1 : Below w.heap.size w w1 := by rw [hw1]; exact (Below.refl _ _).alloc (Nat.le_refl _) _
  have HD1 := Lib.hid (h.below hb1)
  have HB1 := Lib.hid hb1
  have hV1 : Var w1 w.heap.size zeroB := by rw [hw1]; exact Var.new _ zero_len
  have HM := Lib.hid (may_any i w1 HD1.out)
  clear h
  go_enter Try.func15, Try.ntmps15
  go_upto_region 1 with (fail)
  change Code.wp _ _ _ _ (World.alloc w (.cells (bytes zeroB).toArray 32))
  rw [← hw1]
  obtain ⟨b1, hb1e⟩ : ∃ b1, b1 = w.heap.size := ⟨_, rfl⟩
  rw [← hb1e] at hV1 ⊢
  have HV1 := Lib.hid hV1
  have hbl : w.heap.size ≤ b1 := Nat.le_of_eq hb1e.symm
  clear hw1 hb1 hV1 hb1e
  by_cases hi : x.is i
  · rw [if_pos (show 0 ≤ i ∧ i < x.stable.length from hi)] at HM
    go_wp2_with fail
    refine HM.out.mono ?_
    rintro e w2 ⟨rfl, n, rfl⟩
    have HD2 := Lib.hid (HD1.out.below (below_drawnN w1 n))
    have HV2 := Lib.hid (show Var (w1.drewN n) b1 zeroB from HV1.out)
    have HB2 := Lib.hid (show Below w.heap.size w (w1.drewN n) from bel_drawn HB1.out n)
    have HSh := Lib.hid (shows_any i (w1.drewN n) HD2.out hi.1 hi.2 hk)
    generalize w1.drewN n = w2 at *
    clear HM HD1 HV1 HB1
    go_wp2_with fail
    refine HSh.out.mono ?_
    rintro e w3 ⟨rfl, hb3⟩
    have HV3 := Lib.hid (HV2.out.below hb3 HV2.out.lt)
    have HB3 := Lib.hid (HB2.out.trans (hb3.mono HB2.out.size))
    have HTh := Lib.hid HV3.out.there
    clear hb3 HSh
    go_wp2_with (first | (refine wl_store32 HTh hsl _ _ rfl rfl rfl rfl ?_))
    exact bodyPost_ret (v := .tuple #[blkV (x.shows i), .int .i64 0]) (res_blk2 (p := 4) (u := 5) rfl (HV3.out.set hsl) rfl rfl) rfl ⟨by first | rfl | rw [if_pos hi, if_pos hi], var_set_below HB3.out hbl HB3.out.size _⟩
  · rw [if_neg (show ¬ (0 ≤ i ∧ i < x.stable.length) from hi)] at HM
    go_wp2_with fail
    refine HM.out.mono ?_
    rintro e w2 ⟨rfl, n, rfl⟩
    have HV2 := Lib.hid (show Var (w1.drewN n) b1 zeroB from HV1.out)
    have HB2 := Lib.hid (show Below w.heap.size w (w1.drewN n) from bel_drawn HB1.out n)
    generalize w1.drewN n = w2 at *
    have HTh := Lib.hid HV2.out.there
    clear HM HD1 HV1 HB1
    go_wp2_with (first | (refine wl_store32 (b := zeroB) HTh zero_len _ _ rfl rfl rfl rfl ?_))
    exact bodyPost_ret (v := .tuple #[blkV zeroB, .int .i64 2]) (res_blk2 (p := 4) (u := 5) rfl (HV2.out.set zero_len) rfl rfl) rfl ⟨by first | rfl | rw [if_neg hi, if_neg hi], var_set_below HB2.out hbl HB2.out.size _⟩
end Go.Proofs.Ytnbppfhnagacfaa
