/- All, Written, By, About, Ready of package scupperref14. -/
import Derived.Test.YtmkfaibjjbgbbaaRwrite
namespace Go.Proofs.Ytmkfaibjjbgbbaa
open Go.RowKit
set_option linter.unusedVariables false
attribute [local go_sem ↓] Go.wp_at_zero Go.wp_at_succ

/-- One number more at the end of a list of the call's own. -/
theorem wpList_append_int {w : World} {ops : Array Oper} {rest : List Oper} {o : Oper} {a : Act} {Q : Exit → Act → World → Prop} (hgd : o.guard = none) (s x : Operand)
    (ho : o.op = .call { callee := .builtin .append, args := #[s, x], argTypes := #[28, 28] })
    (B : Nat) (v : Value) (l : List Int) (hs : a.eval s = v) (hown : Built B w v l) (y : Int) (g c : Nat) (hx : a.eval x = .slice (some ⟨g, 0, none⟩) 1 c) (hc : w.cell? ⟨g, 0, none⟩ = some (.int .i64 y))
    (hl : l.length ≤ 100000) (hbase : B ≤ w.heap.size)
    (h : ∀ v' w', Built B w' v' (l ++ [y]) → w.grownBy w' v.ownBlock → (v'.ownBlock = v.ownBlock ∨ v'.ownBlock = some w.heap.size) → wpList Try.prog ops Q rest (a.put o.dst v') w') : wpList Try.prog ops Q (o :: rest) a w := by
  obtain ⟨i3, hi3, hz3, hz31, hz32⟩ := info_parts info3
  refine wpList_append_row hgd s x 28 ho B 3 i3 (.int .i64 0) 1 8 Try.underlying28 hi3 hz3 hz31 hz32 rfl (by decide) v l.length (ints l) hs hown (some ⟨g, 0, none⟩) 1 c (ints [y]) hx rfl (fun h => by cases h) (fun ad had j u hu => ?_) ints_one ?_ ?_ hbase (fun v' w' h1 h2 h5 => ?_)
  · cases had
    rw [add_at, Nat.zero_add]
    rcases j with _ | j
    · rw [show (ints [y])[0]? = some (.int .i64 y) from rfl] at hu
      rw [← Option.some.inj hu]; exact hc
    · simp [ints] at hu
  · simp only [maxLen]; omega
  · omega
  · refine h v' w' ?_ h2 h5
    unfold Built
    rw [List.length_append, show ints (l ++ [y]) = ints l ++ ints [y] from by simp [ints]]
    exact h1
def pick (l : List Pt) (q : Pt → Bool) (k : Nat) : List Int := ((l.take k).filter q).map (·.id)
theorem pick_on {l : List Pt} {q : Pt → Bool} {k : Nat} {p : Pt} (h : l[k]? = some p) (hq : q p = true) : pick l q (k + 1) = pick l q k ++ [p.id] := by
  unfold pick
  rw [List.take_add_one, h, List.filter_append, List.map_append]
  simp [hq]
theorem pick_off {l : List Pt} {q : Pt → Bool} {k : Nat} {p : Pt} (h : l[k]? = some p) (hq : q p = false) : pick l q (k + 1) = pick l q k := by
  unfold pick
  rw [List.take_add_one, h, List.filter_append, List.map_append]
  simp [hq]
theorem pick_len (l : List Pt) (q : Pt → Bool) (k : Nat) : (pick l q k).length ≤ l.length := by
  unfold pick
  rw [List.length_map]
  exact Nat.le_trans (List.length_filter_le _ _) (by rw [List.length_take]; exact Nat.min_le_right _ _)
theorem pick_all (x : G) (q : Pt → Bool) : pick x.l q x.l.length = idsOf x q := by
  unfold pick idsOf
  rw [List.take_length]

set_option maxHeartbeats 2000000 in
theorem rall_any (b : Nat) (x : G) (w : World) (h : RG w b x) (hxl : x.l.length ≤ 1000) :
    Calls Try.prog 40 #[.pointer (some ⟨b, 0, none⟩)] w fun e w' => ∃ r, e = .returned r ∧ Built w.heap.size w' r (idsOf x fun _ => true) ∧ Below w.heap.size w w' := by
  have HG := Lib.hid h
  obtain ⟨v, hb, hl⟩ := h
  obtain ⟨A, c, rfl, hc1, hc2⟩ := hl.len
  have HL := Lib.hid hl
  have hbc := hb.cell 1
  simp at hbc
  unfold maxLen at hc2
  have hbl : b < w.heap.size := hb.lt
  clear hb hl
  go_enter Try.func40, Try.ntmps40
  go_wp2_with fail
  go_loopw [3, 4] (fun v i wr => ∃ k : Nat, k ≤ x.l.length ∧ i = .int .i64 k ∧ Built w.heap.size wr v (pick x.l (fun _ => true) k) ∧ Below w.heap.size w wr) (fun _ i _ => x.l.length - (intOf i).toNat)
  case atStart => exact ⟨0, Nat.zero_le _, rfl, World.ownsRow_made w #[] 0 (Nat.le_refl _) (Nat.zero_le _) rfl, (Below.refl _ _).alloc (Nat.le_refl _) _⟩
  case round =>
    obtain ⟨k, hk, rfl, hO, hbel⟩ := hrel
    have HO := Lib.hid hO
    have HB := Lib.hid hbel
    have hsz := hbel.size
    have hbcw : wr.cell? ⟨b, 1, none⟩ = some (.slice A x.l.length c) := (hbel.cell (p := ⟨b, 1, none⟩) hbl).trans hbc
    by_cases hlt : k < x.l.length
    · obtain ⟨p, hp⟩ : ∃ p, x.l[k]? = some p := ⟨_, List.getElem?_eq_getElem hlt⟩
      obtain ⟨g, c', A1, k1, A2, k2, e, hpc, hpv, hgp⟩ := HL.out.at hp
      injection e with e1 e2 e3
      subst e1 e3
      clear e2
      have y0 : wr.cell? ⟨g, k * 9, none⟩ = some (.int .i64 p.id) := (hbel.cell (p := ⟨g, k * 9, none⟩) hgp).trans (hpc 0 _ rfl)
      have hpl := pick_len x.l (fun _ => true) k
      have HPk := Lib.hid (pick_on (q := fun _ => true) hp rfl)
      clear hO hbel hpc hpv hp
      go_wp2_with (at_builtin; refine wpList_append_int rfl (.tmp 15) (.tmp 24) rfl w.heap.size _ _ rfl (World.ownsRow.alloc HO.out _) p.id wr.heap.size 1 rfl ?c1 ?c2 ?c3 ?_)
      case c1 => exact (Blk.new wr 3 #[.int .i64 p.id]).cell 0
      case c2 => omega
      case c3 => simp; omega
      intro v' w5 hown5 hg5 _
      rw [← HPk.out] at hown5
      have HO5 := Lib.hid hown5
      have HB5 := Lib.hid ((HB.out.alloc HB.out.size (.cells #[.int .i64 p.id] 3)).grown hg5 (by have := HB.out.size; simp; omega) (fun j hj => (World.ownsRow.lt HO.out j hj).1))
      clear hown5 hg5
      go_wp2
      go_roundw
      case rel => exact ⟨k + 1, by omega, by go_num, HO5.out, HB5.out⟩
      case measure => simp [intOf]; omega
    · obtain rfl : k = x.l.length := by omega
      rw [pick_all] at HO
      clear hO hbel
      go_wp2
      go_ret
      exact ⟨_, rfl, HO.out, HB.out⟩
-- generated by genrask.py
set_option maxHeartbeats 2000000 in
theorem rwritten_any (b : Nat) (x : G) (w : World) (h : RG w b x) (hxl : x.l.length ≤ 1000) :
    Calls Try.prog 43 #[.pointer (some ⟨b, 0, none⟩)] w fun e w' => ∃ r, e = .returned r ∧ Built w.heap.size w' r (idsOf x fun p => p.written) ∧ Below w.heap.size w w' := by
  have HG := Lib.hid h
  obtain ⟨v, hb, hl⟩ := h
  obtain ⟨A, c, rfl, hc1, hc2⟩ := hl.len
  have HL := Lib.hid hl
  have hbc := hb.cell 1
  simp at hbc
  unfold maxLen at hc2
  have hbl : b < w.heap.size := hb.lt
  clear hb hl
  go_enter Try.func43, Try.ntmps43
  go_wp2_with fail
  go_loopw [3, 4] (fun v i wr => ∃ k : Nat, k ≤ x.l.length ∧ i = .int .i64 k ∧ Built w.heap.size wr v (pick x.l (fun p => p.written) k) ∧ Below w.heap.size w wr) (fun _ i _ => x.l.length - (intOf i).toNat)
  case atStart => exact ⟨0, Nat.zero_le _, rfl, World.ownsRow_made w #[] 0 (Nat.le_refl _) (Nat.zero_le _) rfl, (Below.refl _ _).alloc (Nat.le_refl _) _⟩
  case round =>
    obtain ⟨k, hk, rfl, hO, hbel⟩ := hrel
    have HO := Lib.hid hO
    have HB := Lib.hid hbel
    have hsz := hbel.size
    have hbcw : wr.cell? ⟨b, 1, none⟩ = some (.slice A x.l.length c) := (hbel.cell (p := ⟨b, 1, none⟩) hbl).trans hbc
    by_cases hlt : k < x.l.length
    · obtain ⟨p, hp⟩ : ∃ p, x.l[k]? = some p := ⟨_, List.getElem?_eq_getElem hlt⟩
      obtain ⟨g, c', A1, k1, A2, k2, e, hpc, hpv, hgp⟩ := HL.out.at hp
      injection e with e1 e2 e3
      subst e1 e3
      clear e2
      have y0 : wr.cell? ⟨g, k * 9, none⟩ = some (.int .i64 p.id) := (hbel.cell (p := ⟨g, k * 9, none⟩) hgp).trans (hpc 0 _ rfl)
      have hpl := pick_len x.l (fun p => p.written) k
      have yc : wr.cell? ⟨g, k * 9 + 8, none⟩ = some (.bool p.written) := (hbel.cell (p := ⟨g, k * 9 + 8, none⟩) hgp).trans (hpc 8 _ rfl)
      by_cases hq : p.written = true
      · have HPk := Lib.hid (pick_on (q := fun p => p.written) hp (by simp [hq]))
        rw [hq] at yc
        clear hO hbel hpc hpv hp hq
        go_wp2_with (at_builtin; refine wpList_append_int rfl (.tmp 23) (.tmp 32) rfl w.heap.size _ _ rfl (World.ownsRow.alloc HO.out _) p.id wr.heap.size 1 rfl ?c1 ?c2 ?c3 ?_)
        case c1 => exact (Blk.new wr 3 #[.int .i64 p.id]).cell 0
        case c2 => omega
        case c3 => simp; omega
        intro v' w5 hown5 hg5 _
        rw [← HPk.out] at hown5
        have HO5 := Lib.hid hown5
        have HB5 := Lib.hid ((HB.out.alloc HB.out.size (.cells #[.int .i64 p.id] 3)).grown hg5 (by have := HB.out.size; simp; omega) (fun j hj => (World.ownsRow.lt HO.out j hj).1))
        clear hown5 hg5
        go_wp2
        go_roundw
        case rel => exact ⟨k + 1, by omega, by go_num, HO5.out, HB5.out⟩
        case measure => simp [intOf]; omega
      · have HPk := Lib.hid (pick_off (q := fun p => p.written) hp (by simp [hq]))
        rw [show p.written = false from by simpa using hq] at yc
        rw [← HPk.out] at HO
        clear hO hbel hpc hpv hp hq
        go_wp2
        go_roundw
        case rel => exact ⟨k + 1, by omega, by go_num, HO.out, HB.out⟩
        case measure => simp [intOf]; omega
    · obtain rfl : k = x.l.length := by omega
      rw [pick_all] at HO
      clear hO hbel
      go_wp2
      go_ret
      exact ⟨_, rfl, HO.out, HB.out⟩
set_option maxHeartbeats 2000000 in
theorem rby_any (b : Nat) (x : G) (s : Int) (w : World) (h : RG w b x) (hxl : x.l.length ≤ 1000) :
    Calls Try.prog 68 #[.pointer (some ⟨b, 0, none⟩), .int .i64 s] w fun e w' => ∃ r, e = .returned r ∧ Built w.heap.size w' r (idsOf x fun p => decide (p.owner = s)) ∧ Below w.heap.size w w' := by
  have HG := Lib.hid h
  obtain ⟨v, hb, hl⟩ := h
  obtain ⟨A, c, rfl, hc1, hc2⟩ := hl.len
  have HL := Lib.hid hl
  have hbc := hb.cell 1
  simp at hbc
  unfold maxLen at hc2
  have hbl : b < w.heap.size := hb.lt
  clear hb hl
  go_enter Try.func68, Try.ntmps68
  go_wp2_with fail
  go_loopw [5, 6] (fun v i wr => ∃ k : Nat, k ≤ x.l.length ∧ i = .int .i64 k ∧ Built w.heap.size wr v (pick x.l (fun p => decide (p.owner = s)) k) ∧ Below w.heap.size w wr) (fun _ i _ => x.l.length - (intOf i).toNat)
  case atStart => exact ⟨0, Nat.zero_le _, rfl, World.ownsRow_made w #[] 0 (Nat.le_refl _) (Nat.zero_le _) rfl, (Below.refl _ _).alloc (Nat.le_refl _) _⟩
  case round =>
    obtain ⟨k, hk, rfl, hO, hbel⟩ := hrel
    have HO := Lib.hid hO
    have HB := Lib.hid hbel
    have hsz := hbel.size
    have hbcw : wr.cell? ⟨b, 1, none⟩ = some (.slice A x.l.length c) := (hbel.cell (p := ⟨b, 1, none⟩) hbl).trans hbc
    by_cases hlt : k < x.l.length
    · obtain ⟨p, hp⟩ : ∃ p, x.l[k]? = some p := ⟨_, List.getElem?_eq_getElem hlt⟩
      obtain ⟨g, c', A1, k1, A2, k2, e, hpc, hpv, hgp⟩ := HL.out.at hp
      injection e with e1 e2 e3
      subst e1 e3
      clear e2
      have y0 : wr.cell? ⟨g, k * 9, none⟩ = some (.int .i64 p.id) := (hbel.cell (p := ⟨g, k * 9, none⟩) hgp).trans (hpc 0 _ rfl)
      have hpl := pick_len x.l (fun p => decide (p.owner = s)) k
      have yc : wr.cell? ⟨g, k * 9 + 6, none⟩ = some (.int .i64 p.owner) := (hbel.cell (p := ⟨g, k * 9 + 6, none⟩) hgp).trans (hpc 6 _ rfl)
      by_cases hq : p.owner = s
      · have HPk := Lib.hid (pick_on (q := fun p => decide (p.owner = s)) hp (by simp [hq]))
        have ht : (p.owner == s) = true := by simp [hq]
        clear hO hbel hpc hpv hp hq
        go_wp2_with (at_builtin; refine wpList_append_int rfl (.tmp 27) (.tmp 36) rfl w.heap.size _ _ rfl (World.ownsRow.alloc HO.out _) p.id wr.heap.size 1 rfl ?c1 ?c2 ?c3 ?_)
        case c1 => exact (Blk.new wr 3 #[.int .i64 p.id]).cell 0
        case c2 => omega
        case c3 => simp; omega
        intro v' w5 hown5 hg5 _
        rw [← HPk.out] at hown5
        have HO5 := Lib.hid hown5
        have HB5 := Lib.hid ((HB.out.alloc HB.out.size (.cells #[.int .i64 p.id] 3)).grown hg5 (by have := HB.out.size; simp; omega) (fun j hj => (World.ownsRow.lt HO.out j hj).1))
        clear hown5 hg5
        go_wp2
        go_roundw
        case rel => exact ⟨k + 1, by omega, by go_num, HO5.out, HB5.out⟩
        case measure => simp [intOf]; omega
      · have HPk := Lib.hid (pick_off (q := fun p => decide (p.owner = s)) hp (by simp [hq]))
        have ht : (p.owner == s) = false := by simp [hq]
        rw [← HPk.out] at HO
        clear hO hbel hpc hpv hp hq
        go_wp2
        go_roundw
        case rel => exact ⟨k + 1, by omega, by go_num, HO.out, HB.out⟩
        case measure => simp [intOf]; omega
    · obtain rfl : k = x.l.length := by omega
      rw [pick_all] at HO
      clear hO hbel
      go_wp2
      go_ret
      exact ⟨_, rfl, HO.out, HB.out⟩
set_option maxHeartbeats 2000000 in
theorem rabout_any (b : Nat) (x : G) (s : Int) (w : World) (h : RG w b x) (hxl : x.l.length ≤ 1000) :
    Calls Try.prog 69 #[.pointer (some ⟨b, 0, none⟩), .int .i64 s] w fun e w' => ∃ r, e = .returned r ∧ Built w.heap.size w' r (idsOf x fun p => decide (p.child = s)) ∧ Below w.heap.size w w' := by
  have HG := Lib.hid h
  obtain ⟨v, hb, hl⟩ := h
  obtain ⟨A, c, rfl, hc1, hc2⟩ := hl.len
  have HL := Lib.hid hl
  have hbc := hb.cell 1
  simp at hbc
  unfold maxLen at hc2
  have hbl : b < w.heap.size := hb.lt
  clear hb hl
  go_enter Try.func69, Try.ntmps69
  go_wp2_with fail
  go_loopw [5, 6] (fun v i wr => ∃ k : Nat, k ≤ x.l.length ∧ i = .int .i64 k ∧ Built w.heap.size wr v (pick x.l (fun p => decide (p.child = s)) k) ∧ Below w.heap.size w wr) (fun _ i _ => x.l.length - (intOf i).toNat)
  case atStart => exact ⟨0, Nat.zero_le _, rfl, World.ownsRow_made w #[] 0 (Nat.le_refl _) (Nat.zero_le _) rfl, (Below.refl _ _).alloc (Nat.le_refl _) _⟩
  case round =>
    obtain ⟨k, hk, rfl, hO, hbel⟩ := hrel
    have HO := Lib.hid hO
    have HB := Lib.hid hbel
    have hsz := hbel.size
    have hbcw : wr.cell? ⟨b, 1, none⟩ = some (.slice A x.l.length c) := (hbel.cell (p := ⟨b, 1, none⟩) hbl).trans hbc
    by_cases hlt : k < x.l.length
    · obtain ⟨p, hp⟩ : ∃ p, x.l[k]? = some p := ⟨_, List.getElem?_eq_getElem hlt⟩
      obtain ⟨g, c', A1, k1, A2, k2, e, hpc, hpv, hgp⟩ := HL.out.at hp
      injection e with e1 e2 e3
      subst e1 e3
      clear e2
      have y0 : wr.cell? ⟨g, k * 9, none⟩ = some (.int .i64 p.id) := (hbel.cell (p := ⟨g, k * 9, none⟩) hgp).trans (hpc 0 _ rfl)
      have hpl := pick_len x.l (fun p => decide (p.child = s)) k
      have yc : wr.cell? ⟨g, k * 9 + 7, none⟩ = some (.int .i64 p.child) := (hbel.cell (p := ⟨g, k * 9 + 7, none⟩) hgp).trans (hpc 7 _ rfl)
      by_cases hq : p.child = s
      · have HPk := Lib.hid (pick_on (q := fun p => decide (p.child = s)) hp (by simp [hq]))
        have ht : (p.child == s) = true := by simp [hq]
        clear hO hbel hpc hpv hp hq
        go_wp2_with (at_builtin; refine wpList_append_int rfl (.tmp 27) (.tmp 36) rfl w.heap.size _ _ rfl (World.ownsRow.alloc HO.out _) p.id wr.heap.size 1 rfl ?c1 ?c2 ?c3 ?_)
        case c1 => exact (Blk.new wr 3 #[.int .i64 p.id]).cell 0
        case c2 => omega
        case c3 => simp; omega
        intro v' w5 hown5 hg5 _
        rw [← HPk.out] at hown5
        have HO5 := Lib.hid hown5
        have HB5 := Lib.hid ((HB.out.alloc HB.out.size (.cells #[.int .i64 p.id] 3)).grown hg5 (by have := HB.out.size; simp; omega) (fun j hj => (World.ownsRow.lt HO.out j hj).1))
        clear hown5 hg5
        go_wp2
        go_roundw
        case rel => exact ⟨k + 1, by omega, by go_num, HO5.out, HB5.out⟩
        case measure => simp [intOf]; omega
      · have HPk := Lib.hid (pick_off (q := fun p => decide (p.child = s)) hp (by simp [hq]))
        have ht : (p.child == s) = false := by simp [hq]
        rw [← HPk.out] at HO
        clear hO hbel hpc hpv hp hq
        go_wp2
        go_roundw
        case rel => exact ⟨k + 1, by omega, by go_num, HO.out, HB.out⟩
        case measure => simp [intOf]; omega
    · obtain rfl : k = x.l.length := by omega
      rw [pick_all] at HO
      clear hO hbel
      go_wp2
      go_ret
      exact ⟨_, rfl, HO.out, HB.out⟩
end Go.Proofs.Ytmkfaibjjbgbbaa
