/- The order of the cache: a row of ints of its own; Index, Delete, Insert, Clone, Sort of it. -/
import Derived.Test.YtnbppfhnagacfaaDnew
import Derived.Test.YtnbppfhnagacfaaShelf
import Derived.Sort.OwnSortedInts
import Derived.Laws.AppendOwn
namespace Go.Proofs.Ytnbppfhnagacfaa
open Go.RowKit
set_option linter.unusedVariables false
attribute [local go_sem ↓] Go.wp_at_zero Go.wp_at_succ

def ints (l : List Int) : List Value := l.map (Value.int .i64)
theorem ints_len (l : List Int) : (ints l).length = l.length := by simp [ints]
theorem ints_one (l : List Int) : ∀ v ∈ ints l, v.oneCell' = true := by
  intro v hv
  obtain ⟨x, -, rfl⟩ := List.mem_map.1 hv
  rfl
def IRow (w : World) (v : Value) (l : List Int) : Prop := w.ownsRow 0 3 1 v l.length (ints l)
theorem IRow.nil (w : World) : IRow w (.slice none 0 0) [] := World.ownsRow_nil _ _ _ _
theorem IRow.keep {w w' : World} {v : Value} {l : List Int} (h : IRow w v l) (hk : ∀ j, v.ownBlock = some j → w'.heap[j]? = w.heap[j]?) : IRow w' v l := by
  refine ⟨h.1, ?_⟩
  rcases h.2 with h1 | ⟨g, cap, cur, hv, hb, hg, hr⟩
  · exact .inl h1
  · exact .inr ⟨g, cap, cur, hv, hb, (hk g (by rw [hv]; rfl)).trans hg, hr⟩
theorem IRow.lt {w : World} {v : Value} {l : List Int} (h : IRow w v l) : ∀ j, v.ownBlock = some j → j < w.heap.size := fun j hj => (World.ownsRow.lt h j hj).2
theorem IRow.turn {S : Nat → Prop} {w w' : World} {v : Value} {l : List Int} (h : IRow w v l) (hT : Turn S w w') (hs : ∀ j, v.ownBlock = some j → ¬ S j) : IRow w' v l := h.keep fun j hj => hT.block j (h.lt j hj) (hs j hj)
theorem IRow.type {w : World} {v : Value} {l : List Int} (h : IRow w v l) : ∀ j, v.ownBlock = some j → ∃ cs, Blk w j 3 cs := by
  intro j hj
  rcases h.2 with ⟨hv, _⟩ | ⟨g, cap, cur, hv, hb, hg, _⟩
  · rw [hv] at hj; cases hj
  · rw [hv] at hj
    obtain rfl : g = j := Option.some.inj hj
    exact ⟨cur, hg⟩
theorem IRow.shape {w : World} {v : Value} {l : List Int} (h : IRow w v l) : (v = .slice none 0 0 ∧ l = []) ∨ ∃ g c cur, v = .slice (some ⟨g, 0, none⟩) l.length c ∧ l.length ≤ c ∧ c ≤ maxLen ∧ Blk w g 3 cur ∧ cur.size = c ∧ cur.toList.take l.length = ints l := by
  rcases h.2 with ⟨hv, h0⟩ | ⟨g, cap, cur, hv, hb, hg, hnc, hcm, hcs, ht⟩
  · exact .inl ⟨hv, List.eq_nil_of_length_eq_zero h0⟩
  · exact .inr ⟨g, cap, cur, hv, hnc, hcm, hg, by omega, by simpa using ht⟩
theorem IRow.mk {w : World} {g c : Nat} {cur : Array Value} {l : List Int} (hb : Blk w g 3 cur) (hc : cur.size = c) (hl : l.length ≤ c) (hm : c ≤ maxLen) (ht : cur.toList.take l.length = ints l) : IRow w (.slice (some ⟨g, 0, none⟩) l.length c) l :=
  ⟨by rw [ints_len]; omega, .inr ⟨g, c, cur, rfl, Nat.zero_le _, hb, hl, hm, by omega, by simpa using ht⟩⟩
theorem take_get {cur : Array Value} {l : List Int} (ht : cur.toList.take l.length = ints l) {j : Nat} (hj : j < l.length) : cur[j]? = some (.int .i64 (l.getD j 0)) := by
  have h1 : (cur.toList.take l.length)[j]? = (ints l)[j]? := by rw [ht]
  rw [List.getElem?_take_of_lt hj, Array.getElem?_toList] at h1
  rw [h1, List.getD_eq_getElem?_getD]
  simp [ints, hj]
theorem IRow.get {w : World} {g c : Nat} {l : List Int} (h : IRow w (.slice (some ⟨g, 0, none⟩) l.length c) l) {j : Nat} (hj : j < l.length) : w.cell? ⟨g, j, none⟩ = some (.int .i64 (l.getD j 0)) := by
  have := World.ownsRow.cellAt h j (by omega)
  rw [this, List.getD_eq_getElem?_getD]
  simp [ints, hj]

/-- Where it is; -1: nowhere. -/
def idx (l : List Int) (x : Int) : Int := if x ∈ l then (l.idxOf x : Int) else -1
theorem idx_lib (l : List Int) (x : Int) : Lib.idxOf l x = idx l x := by
  unfold idx
  have gen : ∀ (l : List Int) (i : Nat), Lib.idxFrom l x i = if x ∈ l then ((i + l.idxOf x : Nat) : Int) else -1 := by
    intro l
    induction l with
    | nil => intro i; simp [Lib.idxFrom]
    | cons a l ih =>
      intro i
      by_cases h : a = x
      · subst h
        simp [Lib.idxFrom]
      · have h' : ¬ x = a := fun e => h e.symm
        simp only [Lib.idxFrom, if_neg h, ih]
        by_cases hm : x ∈ l
        · have hb : (a == x) = false := by simpa using h
          have e : (a :: l).idxOf x = l.idxOf x + 1 := by simp [List.idxOf_cons, hb]
          rw [if_pos hm, if_pos (List.mem_cons_of_mem _ hm), e]
          congr 1
          omega
        · rw [if_neg hm, if_neg (by simp [h', hm])]
  have := gen l 0
  simpa [Lib.idxOf] using this
theorem index_any (v : Value) (l : List Int) (x : Int) (w : World) (h : IRow w v l) (hl : l.length ≤ 1000000) :
    Calls Try.prog 64 #[v, .int .i64 x] w fun e w' => e = .returned (.int .i64 (idx l x)) ∧ w' = w := by
  rcases h.shape with ⟨rfl, rfl⟩ | ⟨g, c, cur, rfl, -⟩
  · exact (Try.slices_Index_int_empty none 0 x w).mono fun e w' ⟨h1, h2⟩ => ⟨by rw [h1, idx_lib], h2⟩
  · refine (Try.slices_Index_int g 0 l.length c l x w (Nat.le_refl _) (by omega) (fun j hj => by rw [Nat.zero_add]; exact h.get hj)).mono fun e w' ⟨h1, h2⟩ => ⟨by rw [h1, List.take_length, idx_lib], h2⟩
theorem delete_any (v : Value) (l : List Int) (k : Nat) (w : World) (h : IRow w v l) (hk : k < l.length) :
    Calls Try.prog 63 #[v, .int .i64 k, .int .i64 (k + 1 : Nat)] w fun e w' => ∃ v', e = .returned v' ∧ IRow w' v' (l.eraseIdx k) ∧ v'.ownBlock = v.ownBlock ∧ Turn (fun j => v.ownBlock = some j) w w' := by
  rcases h.shape with ⟨rfl, rfl⟩ | ⟨g, c, cur, rfl, hlc, hcm, hb, hcs, ht⟩
  · cases hk
  · refine (Try.slices_Delete_int g 0 c k (k + 1) l w (holds_of_blockI hb ht) hlc (by unfold maxLen at hcm; omega) (by omega) (by omega)).mono ?_
    rintro e w' ⟨he, q, rfl⟩
    have hel : (l.eraseIdx k).length = l.length - 1 := by rw [List.length_eraseIdx]; simp [hk]
    have hL : l.take k ++ l.drop (k + 1) ++ List.replicate (k + 1 - k) 0 = l.eraseIdx k ++ [0] := by
      rw [List.eraseIdx_eq_take_drop_succ, show k + 1 - k = 1 by omega]
      rfl
    rw [hL]
    have hlen : (l.eraseIdx k ++ [0]).length = l.length := by rw [List.length_append, hel]; simp; omega
    have hheap := heap_sortedI (n := q) (os := #[]) (l.eraseIdx k ++ [0]).toArray hb
    have hgrow := grownBy_sortedI (w := w) (g := g) (n := q) (os := #[]) (l.eraseIdx k ++ [0]).toArray
    rw [Sort.grow_empty] at hheap hgrow
    refine ⟨_, he, ?_, rfl, turn_of_grown hgrow |>.mono fun j _ e => by rw [e]; rfl⟩
    have htk := take_putCellsI cur (l.eraseIdx k ++ [0]) (by omega)
    rw [show l.length - (k + 1 - k) = (l.eraseIdx k).length by omega]
    refine IRow.mk hheap (by simp [Sort.putCells, hcs]) (by omega) hcm ?_
    have h2 := congrArg (List.take (l.eraseIdx k).length) htk
    rw [List.take_take, Nat.min_eq_left (by rw [List.length_append]; omega), List.map_append, List.take_left' (by simp)] at h2
    exact h2

theorem cells_of_take {w : World} {g : Nat} {cur : Array Value} {l : List Int} (hb : Blk w g 3 cur) (ht : cur.toList.take l.length = ints l) : ∀ (j : Nat) (v : Value), (ints l)[j]? = some v → w.cell? ⟨g, 0 + j, none⟩ = some v := fun j v hv => by
  have hj : j < l.length := by
    have := (List.getElem?_eq_some_iff.1 hv).1
    rwa [ints_len] at this
  rw [Nat.zero_add, hb.cell j, ← hv, ← ht, List.getElem?_take_of_lt hj, Array.getElem?_toList]
theorem patch_take {cur : Array Value} {l m : List Int} (o : Nat) (h : cur.toList.take o = ints l) (ho : l.length = o) (hs : o + m.length ≤ cur.size) : (patch cur o (ints m)).toList.take (o + m.length) = ints (l ++ m) := by
  apply List.ext_getElem?
  intro j
  rcases Nat.lt_or_ge j (o + m.length) with hj | hj
  · rw [List.getElem?_take_of_lt hj, Array.getElem?_toList]
    rcases Nat.lt_or_ge j o with hjo | hjo
    · rw [patch_out _ _ _ _ (.inl hjo)]
      have h1 : (cur.toList.take o)[j]? = (ints l)[j]? := by rw [h]
      rw [List.getElem?_take_of_lt hjo, Array.getElem?_toList] at h1
      rw [h1]
      unfold ints
      rw [List.map_append, List.getElem?_append_left (by simp; omega)]
    · obtain ⟨k, rfl⟩ : ∃ k, j = o + k := ⟨j - o, by omega⟩
      have hk : k < (ints m).length := by rw [ints_len]; omega
      rw [patch_in (ints m) cur o k _ (List.getElem?_eq_getElem hk) (by omega)]
      unfold ints at hk ⊢
      rw [List.map_append, List.getElem?_append_right (by simp; omega), List.length_map, ho, Nat.add_sub_cancel_left, List.getElem?_eq_getElem hk]
  · rw [List.getElem?_eq_none (by rw [List.length_take]; omega), List.getElem?_eq_none (by rw [ints_len, List.length_append]; omega)]
theorem front_take {cur : Array Value} {l : List Int} {x : Int} (hs : l.length + 1 ≤ cur.size) : (patch (patch cur 1 (ints l)) 0 [.int .i64 x]).toList.take (l.length + 1) = ints (x :: l) := by
  apply List.ext_getElem?
  intro j
  rcases Nat.lt_or_ge j (l.length + 1) with hj | hj
  · rw [List.getElem?_take_of_lt hj, Array.getElem?_toList]
    cases j with
    | zero =>
      have := patch_in [.int .i64 x] (patch cur 1 (ints l)) 0 0 _ rfl (by rw [patch_size]; omega)
      rw [this]
      rfl
    | succ k =>
      rw [patch_out _ _ _ _ (.inr (by simp))]
      have hk : k < (ints l).length := by rw [ints_len]; omega
      have := patch_in (ints l) cur 1 k _ (List.getElem?_eq_getElem hk) (by omega)
      rw [Nat.add_comm k 1, this, Nat.add_comm 1 k]
      show _ = (ints l)[k]?
      rw [List.getElem?_eq_getElem hk]
  · rw [List.getElem?_eq_none (by rw [List.length_take]; omega), List.getElem?_eq_none (by rw [ints_len]; exact hj)]
theorem front_take2 {cur : Array Value} {l : List Int} {x : Int} (hs : l.length + 1 ≤ cur.size) : (patch (patch cur 0 [.int .i64 x]) 1 (ints l)).toList.take (l.length + 1) = ints (x :: l) := by
  apply List.ext_getElem?
  intro j
  rcases Nat.lt_or_ge j (l.length + 1) with hj | hj
  · rw [List.getElem?_take_of_lt hj, Array.getElem?_toList]
    cases j with
    | zero =>
      rw [patch_out _ _ _ _ (.inl (by omega))]
      have := patch_in [.int .i64 x] cur 0 0 _ rfl (by omega)
      rw [this]
      rfl
    | succ k =>
      have hk : k < (ints l).length := by rw [ints_len]; omega
      have := patch_in (ints l) (patch cur 0 [.int .i64 x]) 1 k _ (List.getElem?_eq_getElem hk) (by rw [patch_size]; omega)
      rw [Nat.add_comm k 1, this, Nat.add_comm 1 k]
      show _ = (ints l)[k]?
      rw [List.getElem?_eq_getElem hk]
  · rw [List.getElem?_eq_none (by rw [List.length_take]; omega), List.getElem?_eq_none (by rw [ints_len]; exact hj)]
/-- slices.Insert(order, 0, x), x in a block of its own. -/
theorem insert_any (v : Value) (l : List Int) (x : Int) (vb : Nat) (w : World) (h : IRow w v l) (hl : l.length ≤ 1000000) (hv : Blk w vb 3 #[.int .i64 x]) (hne : v.ownBlock ≠ some vb) :
    Calls Try.prog 65 #[v, .int .i64 0, .slice (some ⟨vb, 0, none⟩) 1 1] w fun e w' => ∃ v', e = .returned v' ∧ IRow w' v' (x :: l) ∧ (v'.ownBlock = v.ownBlock ∨ ∃ g, v'.ownBlock = some g ∧ w.heap.size ≤ g) ∧ Turn (fun j => v.ownBlock = some j) w w' := by
  have hx : ∀ (j : Nat) (u : Value), [Value.int .i64 x][j]? = some u → w.cell? ⟨vb, 0 + j, none⟩ = some u := fun j u hu => by
    rw [Nat.zero_add, hv.cell j]
    simpa using hu
  have hx1 : ∀ u ∈ [Value.int .i64 x], u.oneCell' = true := fun u hu => by rw [List.mem_singleton.1 hu]; rfl
  have hz : (Value.int .i64 0).cells = #[.int .i64 0] := rfl
  rcases h.shape with ⟨rfl, rfl⟩ | ⟨g, c, cur, rfl, hlc, hcm, hb, hcs, ht⟩
  · refine (Try.slices_Insert_int_end_grow none 0 0 vb 0 1 1 [] [.int .i64 x] w (by omega) (Nat.le_refl _) (by omega) (by omega) rfl rfl (fun _ => rfl) (fun a e => by cases e) hx hx1).mono ?_
    rintro e w' ⟨he, rfl⟩
    refine ⟨_, he, ?_, .inr ⟨w.heap.size, rfl, Nat.le_refl _⟩, ((Turn.refl _ w).drew).alloc _⟩
    have hg1 := grownCap_ge w 1 0 3
    have hg2 := grownCap_le_maxLen w 1 0 3 (by unfold maxLen; omega)
    refine IRow.mk (l := [x]) (Blk.new w.drew 3 _) ?_ hg1 hg2 ?_
    · simp [Builtin.zeroCells, hz]
      omega
    · simp [ints]
  · by_cases hl0 : l = []
    · subst hl0
      by_cases hr : 0 + 1 ≤ c
      · refine (Try.slices_Insert_int_end_room g 0 0 c vb 0 1 1 [.int .i64 x] w (by omega) hr (by unfold maxLen at hcm; omega) rfl (fun j hj => by rw [hb.cell]; simp; omega) (fun j hj => hb.frozen _) hx hx1).mono ?_
        rintro e w' ⟨he, rfl⟩
        refine ⟨_, he, ?_, .inl rfl, (Turn.setCells (S := fun j => (Value.slice (some ⟨g, 0, none⟩) 0 c).ownBlock = some j) (g := g) [.int .i64 x] 0 (Turn.refl _ _) fun _ => rfl)⟩
        refine IRow.mk (l := [x]) (Blk.patch (w := w) [.int .i64 x] cur 0 hb) (by rw [patch_size]; exact hcs) hr hcm ?_
        exact patch_take (l := []) (m := [x]) 0 (by simp [ints]) rfl (by simp; omega)
      · refine (Try.slices_Insert_int_end_grow (some ⟨g, 0, none⟩) 0 c vb 0 1 1 [] [.int .i64 x] w (by omega) (Nat.zero_le _) (by omega) (by omega) rfl rfl (fun _ => rfl) (fun a e j u hu => by cases hu) hx hx1).mono ?_
        rintro e w' ⟨he, rfl⟩
        refine ⟨_, he, ?_, .inr ⟨w.heap.size, rfl, Nat.le_refl _⟩, ((Turn.refl _ w).drew).alloc _⟩
        have hg1 := grownCap_ge w 1 c 3
        have hg2 := grownCap_le_maxLen w 1 c 3 (by unfold maxLen; omega)
        refine IRow.mk (l := [x]) (Blk.new w.drew 3 _) ?_ hg1 hg2 ?_
        · simp [Builtin.zeroCells, hz]
          omega
        · simp [ints]
    · have hpos : 0 < l.length := List.length_pos_iff.2 hl0
      by_cases hr : l.length + 1 ≤ c
      · have hsh : w.shape? g = some (3, cur.size) := by simp [World.shape?, show w.heap[g]? = some (.cells cur 3 (0, 0)) from hb]
        have hsv : w.shape? vb = some (3, 1) := by simp [World.shape?, show w.heap[vb]? = some (.cells #[.int .i64 x] 3 (0, 0)) from hv]
        refine (Try.slices_Insert_int_shift g 0 l.length c 0 vb 0 1 1 (ints l) [.int .i64 x] w hpos (by omega) hr (by unfold maxLen at hcm; omega) (fun e => hne (by rw [e]; rfl)) (ints_len l) rfl (cells_of_take hb ht) (fun j hj => by rw [hb.cell]; simp; omega) (fun j hj => hb.frozen _) hx (ints_one l) hx1 3 3 1 cur.size hsv hsh (by omega) (hv.frozen _) (hv.frozen _)).mono ?_
        rintro e w' ⟨he, rfl⟩
        refine ⟨_, he, ?_, .inl rfl, Turn.setCells (S := fun j => (Value.slice (some ⟨g, 0, none⟩) l.length c).ownBlock = some j) (g := g) _ _ (Turn.setCells (g := g) _ _ (Turn.refl _ _).drew fun _ => rfl) fun _ => rfl⟩
        refine IRow.mk (l := x :: l) (cur := patch (patch cur 1 (ints l)) 0 [.int .i64 x]) (Blk.patch (w := w.drew.setCells g 1 (ints l)) _ _ 0 (Blk.patch (w := w.drew) (ints l) cur 1 hb)) (by rw [patch_size, patch_size]; exact hcs) (by simpa using hr) hcm ?_
        exact front_take (by omega)
      · refine (Try.slices_Insert_int_grow g 0 l.length c 0 vb 0 1 1 (ints l) [.int .i64 x] w hpos (by omega) hlc (by omega) (by omega) (ints_len l) rfl (cells_of_take hb ht) hx (ints_one l) hx1).mono ?_
        rintro e w' ⟨he, rfl⟩
        have hg1 := grownCap_ge w (l.length + 1) c 3
        have hg2 := grownCap_le_maxLen w (l.length + 1) c 3 (by unfold maxLen; omega)
        refine ⟨_, he, ?_, .inr ⟨w.heap.size, rfl, Nat.le_refl _⟩, ?_⟩
        · have hbn := Blk.new w 3 (((ints l).take 0).toArray ++ Builtin.zeroCells (Value.int .i64 0).cells (l.length + 1 - 0) ++ Builtin.zeroCells (Value.int .i64 0).cells (grownCap w (l.length + 1) c 3 - (l.length + 1)))
          have hsz : (((ints l).take 0).toArray ++ Builtin.zeroCells (Value.int .i64 0).cells (l.length + 1 - 0) ++ Builtin.zeroCells (Value.int .i64 0).cells (grownCap w (l.length + 1) c 3 - (l.length + 1))).size = grownCap w (l.length + 1) c 3 := by
            simp [Builtin.zeroCells, hz]
            omega
          refine IRow.mk (l := x :: l) (Blk.patch _ _ _ (Blk.drew (Blk.patch _ _ _ (Blk.drew hbn)))) (by rw [patch_size, patch_size]; exact hsz) (by simpa using hg1) hg2 ?_
          exact front_take2 (by rw [hsz]; exact hg1)
        · refine Turn.setCells _ _ (Turn.drew (Turn.setCells _ _ (Turn.drew (Turn.alloc (Turn.refl _ w) _)) fun hlt => ?_)) fun hlt => ?_
          · exact absurd hlt (Nat.lt_irrefl _)
          · exact absurd hlt (Nat.lt_irrefl _)

theorem IRow.of_own {w : World} {base : Nat} {v : Value} {l : List Int} (h : w.ownsRow base 3 1 v l.length (l.map (Value.int .i64))) : IRow w v l ∧ ∀ j, v.ownBlock = some j → base ≤ j := by
  refine ⟨⟨h.1, ?_⟩, fun j hj => (World.ownsRow.lt h j hj).1⟩
  rcases h.2 with h1 | ⟨g, cap, cur, hv, hb, hr⟩
  · exact .inl h1
  · exact .inr ⟨g, cap, cur, hv, Nat.zero_le _, hr⟩
theorem clone_any (v : Value) (l : List Int) (w : World) (h : IRow w v l) (hl : l.length ≤ 1000000) :
    Calls Try.prog 39 #[v] w fun e w' => ∃ v', e = .returned v' ∧ IRow w' v' l ∧ (∀ j, v'.ownBlock = some j → w.heap.size ≤ j) ∧ Below w.heap.size w w' := by
  rcases h.shape with ⟨rfl, rfl⟩ | ⟨g, c, cur, rfl, -⟩
  · exact (Try.slices_Clone_int_nil 0 0 w).mono fun e w' ⟨h1, h2⟩ => ⟨_, h1, IRow.nil _, fun j hj => (by cases hj), by rw [h2]; exact Below.refl _ _⟩
  · refine (Try.slices_Clone_int g 0 l.length c l w (Nat.le_refl _) (by omega) (fun j hj => by rw [Nat.zero_add]; exact h.get hj)).mono ?_
    rintro e w' ⟨v', h1, h2, -, h3⟩
    rw [List.take_length] at h2
    obtain ⟨k1, k2⟩ := IRow.of_own h2
    exact ⟨v', h1, k1, k2, h3⟩
def sorted (l : List Int) : List Int := l.mergeSort fun x y => decide (x ≤ y)
theorem sort_any (v : Value) (l : List Int) (w : World) (h : IRow w v l) (hl : l.length ≤ 1000000) :
    Calls Try.prog 36 #[v] w fun e w' => e = .returned (.tuple #[]) ∧ IRow w' v (sorted l) ∧ Turn (fun j => v.ownBlock = some j) w w' := by
  rcases h.shape with ⟨rfl, rfl⟩ | ⟨g, c, cur, rfl, hlc, hcm, hb, hcs, ht⟩
  · exact (Try.slices_Sort_int_none none 0 w).mono fun e w' ⟨h1, h2⟩ => ⟨h1, by rw [h2, show sorted [] = [] by simp [sorted]]; exact IRow.nil _, by rw [h2]; exact Turn.refl _ _⟩
  · refine (Try.slices_Sort_int g 0 c l w (holds_of_blockI hb ht) hb.lt (by omega)).mono ?_
    rintro e w' ⟨he, n, os, rfl⟩
    have hlen : (sorted l).length = l.length := List.length_mergeSort _
    have := ownsRow_sortedI (n := n) (os := os) (ss := l) (ts := sorted l) hlen (Nat.zero_le _) hb hlc hcm (by omega)
    refine ⟨he, ?_, turn_of_grown (grownBy_sortedI (sorted l).toArray) |>.mono fun j _ e => by rw [e]; rfl⟩
    unfold IRow
    rw [hlen]
    exact this
end Go.Proofs.Ytnbppfhnagacfaa
