/- settle, Settle, SettleAll of package scupperref14. Sectors by insertion, what is needed by marks: as package graph has them. No program in sight. -/
import Derived.Test.YtmkfaibjjbgbbaaJn1
import Derived.Test.YtmkfaibjjbgbbaaRwLaw
namespace Go.Proofs.Ytmkfaibjjbgbbaa
open Go.RowKit
set_option linter.unusedVariables false
attribute [local go_sem ↓] Go.wp_at_zero Go.wp_at_succ

theorem ptCells_app (L : List (Value × Value × Pt)) (e : Value × Value × Pt) : ptCells (L ++ [e]) = ptCells L ++ (e.2.2.cells e.1 e.2.1).toList := by
  unfold ptCells
  rw [List.flatMap_append]
  simp
/-- One patch more at the end of a list of the call's own. -/
theorem wpList_append_pt {w : World} {ops : Array Oper} {rest : List Oper} {o : Oper} {a : Act} {Q : Exit → Act → World → Prop} (hgd : o.guard = none) (s x : Operand)
    (ho : o.op = .call { callee := .builtin .append, args := #[s, x], argTypes := #[50, 50] })
    (B : Nat) (v : Value) (L : List (Value × Value × Pt)) (hs : a.eval s = v) (hown : w.ownsRow B 30 9 v L.length (ptCells L)) (p : Pt) (A1 : Option Addr) (m1 k1 : Nat) (A2 : Option Addr) (m2 k2 : Nat) (g c : Nat) (hx : a.eval x = .slice (some ⟨g, 0, none⟩) 1 c)
    (hc : Blk w g 30 (p.cells (.slice A1 m1 k1) (.slice A2 m2 k2))) (hl : L.length ≤ 100000) (hbase : B ≤ w.heap.size)
    (h : ∀ v' w', w'.ownsRow B 30 9 v' (L ++ [(Value.slice A1 m1 k1, Value.slice A2 m2 k2, p)]).length (ptCells (L ++ [(Value.slice A1 m1 k1, Value.slice A2 m2 k2, p)])) → w.grownBy w' v.ownBlock → wpList Try.prog ops Q rest (a.put o.dst v') w') : wpList Try.prog ops Q (o :: rest) a w := by
  obtain ⟨i0, hi0, hz0, hz1, hz2⟩ := info_parts info30
  refine wpList_append_row hgd s x 50 ho B 30 i0 _ 9 104 Try.underlying50 hi0 hz0 hz1 hz2 rfl (by decide) v L.length (ptCells L) hs hown (some ⟨g, 0, none⟩) 1 c (p.cells (.slice A1 m1 k1) (.slice A2 m2 k2)).toList hx (by simp [Pt.cells]) (fun h => by cases h) (fun ad had j u hu => ?_) ?_ ?_ ?_ hbase (fun v' w' h1 h2 _ => ?_)
  · cases had
    rw [add_at, Nat.zero_add, hc.cell]
    simpa using hu
  · intro u hu
    simp [Pt.cells] at hu
    rcases hu with rfl | rfl | rfl | rfl | rfl | rfl | rfl | rfl | rfl <;> simp [Value.oneCell']
  · simp only [maxLen]; omega
  · omega
  · refine h v' w' ?_ h2
    rw [List.length_append, ptCells_app]
    exact h1

def setQ (s : Int) (p : Pt) : Bool := decide (s < 0) || decide (p.sec = s)
def keepQ (s : Int) (p : Pt) : Bool := !(p.written && setQ s p)
theorem keep_on {l : List Pt} {q : Pt → Bool} {k : Nat} {p : Pt} (h : l[k]? = some p) (hq : q p = true) : (l.take (k + 1)).filter q = (l.take k).filter q ++ [p] := by
  rw [List.take_add_one, h, List.filter_append]
  simp [hq]
theorem keep_off {l : List Pt} {q : Pt → Bool} {k : Nat} {p : Pt} (h : l[k]? = some p) (hq : q p = false) : (l.take (k + 1)).filter q = (l.take k).filter q := by
  rw [List.take_add_one, h, List.filter_append]
  simp [hq]

set_option maxHeartbeats 4000000 in
set_option maxRecDepth 100000 in
theorem rsettle_any (b : Nat) (x : G) (s : Int) (w : World) (h : RG w b x) (hxl : x.l.length ≤ 1000) :
    Calls Try.prog 99 #[.pointer (some ⟨b, 0, none⟩), .int .i64 s] w fun e w' => e = .returned (.int .i64 (x.l.length - (settleG x (setQ s)).l.length : Int)) ∧ RG w' b (settleG x (setQ s)) ∧ Turn (fun j => j = b) w w' := by
  have HG := Lib.hid h
  obtain ⟨v, hb, hl⟩ := h
  obtain ⟨A, c, rfl, hc1, hc2⟩ := hl.len
  have HL := Lib.hid hl
  have HBk := Lib.hid hb
  have hbc := hb.cell 1
  simp at hbc
  unfold maxLen at hc2
  have hbl : b < w.heap.size := hb.lt
  have HS := Lib.hid (show (settleG x (setQ s)).l = x.l.filter (keepQ s) from rfl)
  clear hb hl
  go_enter Try.func99, Try.ntmps99
  go_wp2_with fail
  go_loopw [5, 6] (fun v i wr => ∃ (k : Nat) (L : List (Value × Value × Pt)), k ≤ x.l.length ∧ i = .int .i64 k ∧ Hid (L.map (·.2.2) = (x.l.take k).filter (keepQ s)) ∧ wr.ownsRow w.heap.size 30 9 v L.length (ptCells L) ∧ Hid (∀ e ∈ L, Arr w 5 e.1 (bytes e.2.2.data) ∧ Arr w 3 e.2.1 (ints e.2.2.needs)) ∧ Below w.heap.size w wr) (fun _ i _ => x.l.length - (intOf i).toNat)
  case atStart => exact ⟨0, [], Nat.zero_le _, rfl, by unfold Hid; simp, World.ownsRow_made w #[] 0 (Nat.le_refl _) (Nat.zero_le _) rfl, (fun e h => by cases h), (Below.refl _ _).alloc (Nat.le_refl _) _⟩
  case round =>
    obtain ⟨k, L, hk, rfl, hL, hO, hAr, hbel⟩ := hrel
    have HO := Lib.hid hO
    have HB := Lib.hid hbel
    have hsz := hbel.size
    have hLl : L.length ≤ x.l.length := by
      have h1 := congrArg List.length hL.out
      rw [List.length_map] at h1
      rw [h1]
      exact Nat.le_trans (List.length_filter_le _ _) (by rw [List.length_take]; exact Nat.min_le_right _ _)
    have hbcw : wr.cell? ⟨b, 1, none⟩ = some (.slice A x.l.length c) := (hbel.cell (p := ⟨b, 1, none⟩) hbl).trans hbc
    by_cases hlt : k < x.l.length
    · obtain ⟨p, hp⟩ : ∃ p, x.l[k]? = some p := ⟨_, List.getElem?_eq_getElem hlt⟩
      obtain ⟨g, c', A1, k1, A2, k2, e, hpc, hpv, hgp⟩ := HL.out.at hp
      injection e with e1 e2 e3
      subst e1 e3
      clear e2
      have mv : ∀ (j : Nat) (u : Value), (p.cells (.slice A1 (bytes p.data).length k1) (.slice A2 (ints p.needs).length k2))[j]? = some u → wr.cell? ⟨g, k * 9 + j, none⟩ = some u := fun j u hu => (hbel.cell (p := ⟨g, k * 9 + j, none⟩) hgp).trans (hpc j u hu)
      have y0 : wr.cell? ⟨g, k * 9, none⟩ = some (.int .i64 p.id) := mv 0 _ rfl
      have y1 : wr.cell? ⟨g, k * 9 + 1, none⟩ = some (.int .i64 p.sec) := mv 1 _ rfl
      have y2 : wr.cell? ⟨g, k * 9 + 2, none⟩ = some (.int .i64 p.off) := mv 2 _ rfl
      have y3 : wr.cell? ⟨g, k * 9 + 3, none⟩ = some (.slice A1 (bytes p.data).length k1) := mv 3 _ rfl
      have y4 : wr.cell? ⟨g, k * 9 + 4, none⟩ = some (.int .i64 p.kind) := mv 4 _ rfl
      have y5 : wr.cell? ⟨g, k * 9 + 5, none⟩ = some (.slice A2 (ints p.needs).length k2) := mv 5 _ rfl
      have y6 : wr.cell? ⟨g, k * 9 + 6, none⟩ = some (.int .i64 p.owner) := mv 6 _ rfl
      have y7 : wr.cell? ⟨g, k * 9 + 7, none⟩ = some (.int .i64 p.child) := mv 7 _ rfl
      have y8 : wr.cell? ⟨g, k * 9 + 8, none⟩ = some (.bool p.written) := mv 8 _ rfl
      have HP := Lib.hid hp
      have HPv := Lib.hid hpv.parts'
      have hk0 : (0 : Int) ≤ (k : Int) := by omega
      have hk1 : (k : Int) < (x.l.length : Int) := by omega
      have hcases : (p.written = false ∧ keepQ s p = true) ∨ (p.written = true ∧ ¬ s < 0 ∧ ¬ p.sec = s ∧ keepQ s p = true) ∨ (p.written = true ∧ s < 0 ∧ keepQ s p = false) ∨ (p.written = true ∧ ¬ s < 0 ∧ p.sec = s ∧ keepQ s p = false) := by
        unfold keepQ setQ
        cases hw : p.written with
        | false => left; simp
        | true =>
          right
          by_cases h1 : s < 0
          · right; left; simp [h1]
          · by_cases h2 : p.sec = s
            · right; right; simp [h2, h1]
            · left; simp [h1, h2]
      clear hO hbel mv hpc hpv hp
      rcases hcases with ⟨hw, hq⟩ | ⟨hw, hs, hps, hq⟩ | ⟨hw, hs, hq⟩ | ⟨hw, hs, hps, hq⟩
      · rw [hw] at y8
        have HX := Lib.hid (Blk.new wr 30 (p.cells (.slice A1 (bytes p.data).length k1) (.slice A2 (ints p.needs).length k2)))
        have HLn := Lib.hid (show (L ++ [(Value.slice A1 (bytes p.data).length k1, Value.slice A2 (ints p.needs).length k2, p)]).map (·.2.2) = (x.l.take (k + 1)).filter (keepQ s) from by rw [keep_on HP.out hq, List.map_append, hL.out]; rfl)
        have HPW := Lib.hid (show Value.bool p.written = .bool false from by rw [hw])
        clear hq hw
        unfold Pt.cells at HX
        rw [HPW.out] at HX
        go_wp2_with (at_builtin; refine wpList_append_pt rfl (.tmp 43) (.tmp 51) rfl w.heap.size _ L rfl (World.ownsRow.alloc HO.out _) p A1 (bytes p.data).length k1 A2 (ints p.needs).length k2 wr.heap.size 1 rfl ?c1 ?c2 ?c3 ?_)
        case c1 => unfold Pt.cells; rw [HPW.out]; exact HX.out
        case c2 => omega
        case c3 => simp; omega
        intro v' w5 hown5 hg5
        have HO5 := Lib.hid hown5
        have HB5 := Lib.hid ((HB.out.alloc HB.out.size _).grown hg5 (by have := HB.out.size; simp; omega) (fun j hj => (World.ownsRow.lt HO.out j hj).1))
        have HA5 := Lib.hid (show ∀ e ∈ L ++ [(Value.slice A1 (bytes p.data).length k1, Value.slice A2 (ints p.needs).length k2, p)], Arr w 5 e.1 (bytes e.2.2.data) ∧ Arr w 3 e.2.1 (ints e.2.2.needs) from fun e he => by
          rcases List.mem_append.1 he with h | h
          · exact hAr.out e h
          · rw [List.mem_singleton.1 h]; exact HPv.out)
        clear hown5 hg5
        go_wp2
        go_roundw
        case rel => exact ⟨k + 1, _, by omega, by go_num, HLn, by rw [List.length_append]; exact HO5.out, HA5, HB5.out⟩
        case measure => simp [intOf]; omega
      · rw [hw] at y8
        have HX := Lib.hid (Blk.new wr 30 (p.cells (.slice A1 (bytes p.data).length k1) (.slice A2 (ints p.needs).length k2)))
        have HLn := Lib.hid (show (L ++ [(Value.slice A1 (bytes p.data).length k1, Value.slice A2 (ints p.needs).length k2, p)]).map (·.2.2) = (x.l.take (k + 1)).filter (keepQ s) from by rw [keep_on HP.out hq, List.map_append, hL.out]; rfl)
        have HPW := Lib.hid (show Value.bool p.written = .bool true from by rw [hw])
        have d1 : decide (0 ≤ s) = true := decide_eq_true (by omega)
        have d2 : (p.sec != s) = true := by simp [hps]
        clear hq hw hs hps
        unfold Pt.cells at HX
        rw [HPW.out] at HX
        go_wp2_with (at_builtin; refine wpList_append_pt rfl (.tmp 43) (.tmp 51) rfl w.heap.size _ L rfl (World.ownsRow.alloc HO.out _) p A1 (bytes p.data).length k1 A2 (ints p.needs).length k2 wr.heap.size 1 rfl ?c1 ?c2 ?c3 ?_)
        case c1 => unfold Pt.cells; rw [HPW.out]; exact HX.out
        case c2 => omega
        case c3 => simp; omega
        intro v' w5 hown5 hg5
        have HO5 := Lib.hid hown5
        have HB5 := Lib.hid ((HB.out.alloc HB.out.size _).grown hg5 (by have := HB.out.size; simp; omega) (fun j hj => (World.ownsRow.lt HO.out j hj).1))
        have HA5 := Lib.hid (show ∀ e ∈ L ++ [(Value.slice A1 (bytes p.data).length k1, Value.slice A2 (ints p.needs).length k2, p)], Arr w 5 e.1 (bytes e.2.2.data) ∧ Arr w 3 e.2.1 (ints e.2.2.needs) from fun e he => by
          rcases List.mem_append.1 he with h | h
          · exact hAr.out e h
          · rw [List.mem_singleton.1 h]; exact HPv.out)
        clear hown5 hg5
        go_wp2
        go_roundw
        case rel => exact ⟨k + 1, _, by omega, by go_num, HLn, by rw [List.length_append]; exact HO5.out, HA5, HB5.out⟩
        case measure => simp [intOf]; omega
      · rw [hw] at y8
        have HLn := Lib.hid (show L.map (·.2.2) = (x.l.take (k + 1)).filter (keepQ s) from by rw [keep_off HP.out hq, hL.out])
        have d1 : decide (0 ≤ s) = false := decide_eq_false (by omega)
        clear hq hw hs
        go_wp2
        go_roundw
        case rel => exact ⟨k + 1, L, by omega, by go_num, HLn, HO.out, hAr, HB.out⟩
        case measure => simp [intOf]; omega
      · rw [hw] at y8
        have HLn := Lib.hid (show L.map (·.2.2) = (x.l.take (k + 1)).filter (keepQ s) from by rw [keep_off HP.out hq, hL.out])
        have d1 : decide (0 ≤ s) = true := decide_eq_true (by omega)
        have d2 : (p.sec != s) = false := by simp [hps]
        clear hq hw hs hps
        go_wp2
        go_roundw
        case rel => exact ⟨k + 1, L, by omega, by go_num, HLn, HO.out, hAr, HB.out⟩
        case measure => simp [intOf]; omega
    · obtain rfl : k = x.l.length := by omega
      have hLe : L.map (·.2.2) = (settleG x (setQ s)).l := by rw [hL.out, List.take_length, HS.out]
      have hLn2 : (settleG x (setQ s)).l.length = L.length := by rw [← hLe, List.length_map]
      obtain ⟨A5, m5, c5, rfl⟩ := owns_shape hO
      have hR := RL.of_own (L := L) hO rfl (fun e he => ⟨(hAr.out e he).1.below hbel, (hAr.out e he).2.below hbel⟩)
      rw [hLe] at hR
      have hm5 : m5 = L.length := by
        obtain ⟨A', c', e, _⟩ := hR.len
        injection e with _ e _
        rw [e, hLn2]
      subst hm5
      have HR := Lib.hid hR
      have hX := HBk.out.below hbel hbl
      have HX := Lib.hid hX
      have f1 := hX.frozen 1
      have hblw : b < wr.heap.size := hX.lt
      have HLe := Lib.hid hLn2
      have HTT := Lib.hid ((Turn.of_below (S := fun j => j = b) hbel).setCell (p := ⟨b, 1, none⟩) (fun _ => rfl) (.slice A5 L.length c5))
      have HRR := Lib.hid (hR.move (w' := wr.setCell ⟨b, 1, none⟩ (.slice A5 L.length c5)) (fun g t cs ht kk => kk.far (p := ⟨b, 1, none⟩) (kk.ne_ hX (by rcases ht with rfl | rfl | rfl <;> decide)) _))
      have ew : IntKind.i64.wrap ((x.l.length : Int) - (L.length : Int)) = (x.l.length : Int) - (L.length : Int) := IntWalk.i64_in _ (by omega) |>.trans rfl
      clear hO hbel hLe hLn2 hR hX
      go_wp2
      go_ret
      exact ⟨by rw [HLe.out]; rfl, ⟨_, HX.out.set_ 1 _, HRR.out⟩, HTT.out⟩
end Go.Proofs.Ytmkfaibjjbgbbaa
namespace Go.Proofs.Ytmkfaibjjbgbbaa
set_option linter.unusedVariables false

/-! Insertion. -/
def posS (L : List Int) (a : Int) : Nat := (L.takeWhile fun y => decide (y < a)).length
def insS (L : List Int) (a : Int) : List Int := if L[posS L a]? = some a then L else L.take (posS L a) ++ a :: L.drop (posS L a)
theorem pos_is {a : Int} : ∀ (L : List Int) (k : Nat), (∀ (j : Nat) (y : Int), j < k → L[j]? = some y → y < a) → k ≤ L.length → (∀ y, L[k]? = some y → ¬ y < a) → posS L a = k := by
  intro L
  induction L with
  | nil => intro k _ hk _; simp at hk; rw [hk]; rfl
  | cons y L ih =>
    intro k h1 hk h2
    unfold posS
    cases k with
    | zero =>
      have := h2 y rfl
      rw [List.takeWhile_cons, if_neg (by simpa using this)]
      rfl
    | succ k =>
      have := h1 0 y (by omega) rfl
      rw [List.takeWhile_cons, if_pos (by simpa using this), List.length_cons]
      have := ih k (fun j z hj hz => h1 (j + 1) z (by omega) (by simpa using hz)) (by simpa using hk) (fun z hz => h2 z (by simpa using hz))
      unfold posS at this
      rw [this]
theorem insS_nil (a : Int) : insS [] a = [a] := rfl
theorem insS_cons (y : Int) (L : List Int) (a : Int) : insS (y :: L) a = if y < a then y :: insS L a else if y = a then y :: L else a :: y :: L := by
  by_cases h : y < a
  · have hp : posS (y :: L) a = posS L a + 1 := by unfold posS; rw [List.takeWhile_cons, if_pos (by simpa using h), List.length_cons]
    rw [if_pos h]
    unfold insS
    rw [hp]
    simp only [List.getElem?_cons_succ, List.take_succ_cons, List.drop_succ_cons]
    split <;> rfl
  · have hp : posS (y :: L) a = 0 := by unfold posS; rw [List.takeWhile_cons, if_neg (by simpa using h)]; rfl
    rw [if_neg h]
    unfold insS
    rw [hp]
    simp
theorem insS_spec (a : Int) : ∀ L : List Int, L.Pairwise (· < ·) → (insS L a).Pairwise (· < ·) ∧ ∀ y, y ∈ insS L a ↔ y ∈ L ∨ y = a := by
  intro L
  induction L with
  | nil => intro _; rw [insS_nil]; simp
  | cons z L ih =>
    intro hL
    obtain ⟨hz, hL'⟩ := List.pairwise_cons.1 hL
    obtain ⟨h1, h2⟩ := ih hL'
    rw [insS_cons]
    split
    · rename_i h
      refine ⟨List.pairwise_cons.2 ⟨fun y hy => ?_, h1⟩, fun y => ?_⟩
      · rcases (h2 y).1 hy with h3 | h3
        · exact hz y h3
        · rw [h3]; exact h
      · rw [List.mem_cons, h2 y, List.mem_cons, or_assoc]
    · split
      · rename_i h1' h
        refine ⟨hL, fun y => ?_⟩
        rw [List.mem_cons, h]
        constructor
        · exact fun h => .inl h
        · rintro (h | h)
          · exact h
          · exact .inl h
      · rename_i ha hb
        refine ⟨List.pairwise_cons.2 ⟨fun y hy => ?_, hL⟩, fun y => ?_⟩
        · rcases List.mem_cons.1 hy with h3 | h3
          · omega
          · have := hz y h3; omega
        · simp only [List.mem_cons]
          constructor
          · rintro (h | h)
            · exact .inr h
            · exact .inl h
          · rintro (h | h)
            · exact .inr h
            · exact .inl h
theorem insS_len (L : List Int) (a : Int) : (insS L a).length ≤ L.length + 1 := by
  unfold insS
  split
  · omega
  · rw [List.length_append, List.length_cons, List.length_take, List.length_drop]; omega
def secsK (l : List Pt) (k : Nat) : List Int := ((l.take k).filter fun p => !p.written).foldl (fun L p => insS L p.sec) []
theorem secsK_on {l : List Pt} {k : Nat} {p : Pt} (h : l[k]? = some p) (hw : p.written = false) : secsK l (k + 1) = insS (secsK l k) p.sec := by
  unfold secsK
  rw [List.take_add_one, h, List.filter_append]
  simp [hw]
theorem secsK_off {l : List Pt} {k : Nat} {p : Pt} (h : l[k]? = some p) (hw : p.written = true) : secsK l (k + 1) = secsK l k := by
  unfold secsK
  rw [List.take_add_one, h, List.filter_append]
  simp [hw]
theorem secsF_spec : ∀ (P : List Pt) (L : List Int), L.Pairwise (· < ·) → (P.foldl (fun L p => insS L p.sec) L).Pairwise (· < ·) ∧ (P.foldl (fun L p => insS L p.sec) L).length ≤ L.length + P.length ∧ ∀ b, b ∈ P.foldl (fun L p => insS L p.sec) L ↔ b ∈ L ∨ ∃ p ∈ P, p.sec = b := by
  intro P
  induction P with
  | nil => intro L h; exact ⟨h, by simp, by simp⟩
  | cons p P ih =>
    intro L h
    obtain ⟨h1, h2⟩ := insS_spec p.sec L h
    obtain ⟨h3, h4, h5⟩ := ih _ h1
    refine ⟨h3, ?_, fun b => ?_⟩
    · have := insS_len L p.sec
      rw [List.foldl_cons, List.length_cons]
      omega
    · rw [List.foldl_cons, h5 b, h2 b]
      simp only [List.mem_cons, exists_eq_or_imp]
      constructor
      · rintro ((h | h) | h)
        · exact .inl h
        · exact .inr (.inl h.symm)
        · exact .inr (.inr h)
      · rintro (h | h | h)
        · exact .inl (.inl h)
        · exact .inl (.inr h.symm)
        · exact .inr h
theorem secsK_len (l : List Pt) (k : Nat) : (secsK l k).length ≤ l.length := by
  have h1 := (secsF_spec ((l.take k).filter fun p => !p.written) [] List.Pairwise.nil).2.1
  have h2 := List.length_filter_le (fun p : Pt => !p.written) (l.take k)
  rw [List.length_take] at h2
  unfold secsK
  simp at h1
  omega
theorem secsK_all (x : G) : secsK x.l x.l.length = secsG x := by
  obtain ⟨h1, h2, h3⟩ := secsF_spec (liveL x) [] List.Pairwise.nil
  obtain ⟨h4, h5⟩ := secsRaw_spec (liveL x) [] List.nodup_nil
  unfold secsK secsG
  rw [List.take_length]
  exact (sort_is h4 h1 (fun k => by rw [h3, ← h5])).symm

/-! Marks. -/
def orId (f : Pt → Bool) (id : Int) (q : Pt) : Bool := f q || decide (q.id = id)
theorem set_mark {l : List Pt} (hl : Rise l) (f : Pt → Bool) {k : Nat} {p : Pt} (hk : l[k]? = some p) : (l.map f).set k true = l.map (orId f p.id) := by
  apply List.ext_getElem?
  intro i
  rw [List.getElem?_set, List.getElem?_map, List.getElem?_map, List.length_map]
  split
  · rename_i h
    subst h
    rw [if_pos (idx_lt hk), hk]
    simp [orId]
  · rename_i h
    cases hi : l[i]? with
    | none => rfl
    | some q =>
      have : q.id ≠ p.id := fun e => by
        rcases Nat.lt_trichotomy i k with h1 | h1 | h1
        · have := rise_lt hl hi hk h1; omega
        · exact h h1.symm
        · have := rise_lt hl hk hi h1; omega
      simp [orId, this]
theorem mark_id (x : G) (hx : Rise x.l) (f : Pt → Bool) (id : Int) : (findI x.l id = -1 ∧ x.l.map (orId f id) = x.l.map f) ∨ ∃ k : Nat, k < x.l.length ∧ findI x.l id = k ∧ (x.l.map f).set k true = x.l.map (orId f id) := by
  rcases findI_ref x id with ⟨h1, h2⟩ | ⟨k, p, h1, h2, h3, h4⟩
  · left
    refine ⟨h2, List.map_congr_left fun q hq => ?_⟩
    have : ¬ q.id = id := find_none h1 q hq
    simp [orId, this]
  · right
    exact ⟨k, idx_lt h2, h4, by rw [← h3]; exact set_mark hx f h2⟩
def firstF (ids : List Int) (j : Nat) (p : Pt) : Bool := (ids.take j).contains p.id
theorem firstF_on {ids : List Int} {j : Nat} {id : Int} (h : ids[j]? = some id) : firstF ids (j + 1) = orId (firstF ids j) id := by
  funext p
  unfold firstF orId
  rw [List.take_add_one, h, Bool.eq_iff_iff]
  simp
/-- What is marked when the patches from place m on have been looked at. -/
def markF (l : List Pt) (ids : List Int) (m : Nat) (p : Pt) : Bool := ids.contains p.id || (neededL (l.drop m) ids).any fun q => depB q p
theorem markF_all (l : List Pt) (ids : List Int) : markF l ids l.length = firstF ids ids.length := by
  funext p
  unfold markF firstF
  rw [List.drop_length, List.take_length]
  show (ids.contains p.id || false) = _
  simp
def needF (f : Pt → Bool) (needs : List Int) (i : Nat) (p : Pt) : Bool := f p || (needs.take i).contains p.id
theorem needF_zero (f : Pt → Bool) (needs : List Int) : needF f needs 0 = f := by funext p; simp [needF]
theorem needF_on {f : Pt → Bool} {needs : List Int} {j : Nat} {id : Int} (h : needs[j]? = some id) : needF f needs (j + 1) = orId (needF f needs j) id := by
  funext p
  unfold needF orId
  rw [List.take_add_one, h, Bool.eq_iff_iff]
  simp [or_assoc]
def inT (l : List Pt) (i : Nat) (p : Pt) : Bool := (l.take i).any fun r => decide (r.id = p.id)
def hitF (g : Pt → Bool) (l : List Pt) (p : Pt) (i : Nat) (q : Pt) : Bool := g q || (inT l i q && (!q.written && meetR q p))
theorem hitF_zero (g : Pt → Bool) (l : List Pt) (p : Pt) : hitF g l p 0 = g := by funext q; simp [hitF, inT]
theorem inT_on {l : List Pt} {i : Nat} {r : Pt} (h : l[i]? = some r) (q : Pt) : inT l (i + 1) q = (inT l i q || decide (r.id = q.id)) := by
  unfold inT
  rw [List.take_add_one, h, List.any_append]
  simp
theorem hitF_on {l : List Pt} (hl : Rise l) (g : Pt → Bool) (p : Pt) {i : Nat} {r : Pt} (h : l[i]? = some r) (hc : (!r.written && meetR r p) = true) : (l.map (hitF g l p i)).set i true = l.map (hitF g l p (i + 1)) := by
  rw [set_mark hl _ h]
  refine List.map_congr_left fun q hq => ?_
  unfold orId hitF
  rw [inT_on h]
  by_cases e : q.id = r.id
  · have := rise_eq hl (List.mem_of_getElem? h) hq e
    subst this
    simp [hc]
  · have e' : ¬ r.id = q.id := fun h => e h.symm
    simp [e, e']
theorem hitF_off {l : List Pt} (hl : Rise l) (g : Pt → Bool) (p : Pt) {i : Nat} {r : Pt} (h : l[i]? = some r) (hc : (!r.written && meetR r p) = false) : l.map (hitF g l p (i + 1)) = l.map (hitF g l p i) := by
  refine List.map_congr_left fun q hq => ?_
  unfold hitF
  rw [inT_on h]
  by_cases e : r.id = q.id
  · have := rise_eq hl (List.mem_of_getElem? h) hq e.symm
    subst this
    simp [hc]
  · simp [e]
theorem inT_iff {l : List Pt} (hl : Rise l) {k : Nat} {p q : Pt} (hk : l[k]? = some p) (hq : q ∈ l) : inT l k q = decide (q.id < p.id) := by
  obtain ⟨i, hi⟩ := List.mem_iff_getElem?.1 hq
  rw [Bool.eq_iff_iff, decide_eq_true_iff]
  unfold inT
  rw [List.any_eq_true]
  constructor
  · rintro ⟨r, hr, e⟩
    obtain ⟨j, hj⟩ := List.mem_iff_getElem?.1 hr
    rw [List.getElem?_take] at hj
    split at hj
    · rename_i hjk
      have := rise_lt hl hj hk hjk
      have e : r.id = q.id := by simpa using e
      omega
    · cases hj
  · intro h
    have := rise_idx hl hi hk h
    exact ⟨q, List.mem_iff_getElem?.2 ⟨i, by rw [List.getElem?_take, if_pos this]; exact hi⟩, by simp⟩
theorem drop_at {l : List Pt} {k : Nat} {p : Pt} (hk : l[k]? = some p) : l.drop k = p :: l.drop (k + 1) := by
  have h := idx_lt hk
  rw [List.drop_eq_getElem_cons h]
  congr 1
  rw [List.getElem?_eq_getElem h] at hk
  exact Option.some.inj hk
theorem markF_skip {l : List Pt} {ids : List Int} {k : Nat} {p : Pt} (hk : l[k]? = some p) (h : markF l ids (k + 1) p = false) : markF l ids k = markF l ids (k + 1) := by
  funext q
  unfold markF at h ⊢
  rw [drop_at hk]
  have : neededL (p :: l.drop (k + 1)) ids = neededL (l.drop (k + 1)) ids := by
    show (if ids.contains p.id || (neededL (l.drop (k + 1)) ids).any (fun q => depB q p) then p :: neededL (l.drop (k + 1)) ids else neededL (l.drop (k + 1)) ids) = _
    rw [h]; rfl
  rw [this]
theorem markF_take {l : List Pt} {ids : List Int} {k : Nat} {p : Pt} (hk : l[k]? = some p) (h : markF l ids (k + 1) p = true) (q : Pt) : markF l ids k q = (markF l ids (k + 1) q || depB p q) := by
  unfold markF at h ⊢
  rw [drop_at hk]
  have : neededL (p :: l.drop (k + 1)) ids = p :: neededL (l.drop (k + 1)) ids := by
    show (if ids.contains p.id || (neededL (l.drop (k + 1)) ids).any (fun q => depB q p) then p :: neededL (l.drop (k + 1)) ids else neededL (l.drop (k + 1)) ids) = _
    rw [h]; rfl
  rw [this, List.any_cons]
  cases depB p q <;> simp
theorem markF_live {l : List Pt} (hl : Rise l) {ids : List Int} {k : Nat} {p : Pt} (hk : l[k]? = some p) (h : markF l ids (k + 1) p = true) (hw : p.written = false) :
    l.map (hitF (needF (markF l ids (k + 1)) p.needs p.needs.length) l p k) = l.map (markF l ids k) := by
  refine List.map_congr_left fun q hq => ?_
  rw [markF_take hk h]
  unfold hitF needF depB
  rw [inT_iff hl hk hq, List.take_length, hw]
  have e1 : meetR q p = (decide (q.sec = p.sec) && meetB q p) := rfl
  rw [e1]
  cases markF l ids (k + 1) q <;> cases p.needs.contains q.id <;> cases q.written <;> cases decide (q.id < p.id) <;> cases decide (q.sec = p.sec) <;> cases meetB q p <;> rfl
theorem markF_done {l : List Pt} {ids : List Int} {k : Nat} {p : Pt} (hk : l[k]? = some p) (h : markF l ids (k + 1) p = true) (hw : p.written = true) :
    l.map (needF (markF l ids (k + 1)) p.needs p.needs.length) = l.map (markF l ids k) := by
  refine List.map_congr_left fun q hq => ?_
  rw [markF_take hk h]
  unfold needF depB
  rw [List.take_length, hw]
  simp
theorem needed_suf (t : List Pt) (ids : List Int) : ∀ pre : List Pt, ∃ s, neededL (pre ++ t) ids = s ++ neededL t ids ∧ ∀ q ∈ s, q ∈ pre := by
  intro pre
  induction pre with
  | nil => exact ⟨[], rfl, fun q h => by cases h⟩
  | cons p pre ih =>
    obtain ⟨s, h1, h2⟩ := ih
    have e : neededL (p :: pre ++ t) ids = if ids.contains p.id || (neededL (pre ++ t) ids).any (fun q => depB q p) then p :: neededL (pre ++ t) ids else neededL (pre ++ t) ids := rfl
    rw [e]
    split
    · exact ⟨p :: s, by rw [h1]; rfl, fun q hq => (List.mem_cons.1 hq).elim (fun h => by rw [h]; simp) (fun h => List.mem_cons_of_mem _ (h2 q h))⟩
    · exact ⟨s, h1, fun q hq => List.mem_cons_of_mem _ (h2 q hq)⟩
theorem markF_end {x : G} (hx : Rise x.l) (hn : ∀ p ∈ x.l, ∀ k ∈ p.needs, k < p.id) (ids : List Int) : idsOf x (markF x.l ids 0) = neededG x ids := by
  have key : ∀ (t pre : List Pt), x.l = pre ++ t → neededL t ids = t.filter (markF x.l ids 0) := by
    intro t
    induction t with
    | nil => intro _ _; rfl
    | cons p t ih =>
      intro pre hpre
      have hpre' : x.l = (pre ++ [p]) ++ t := by rw [hpre]; simp
      have iht := ih (pre ++ [p]) hpre'
      obtain ⟨s, h1, h2⟩ := needed_suf t ids (pre ++ [p])
      rw [← hpre'] at h1
      have hc : markF x.l ids 0 p = (ids.contains p.id || (neededL t ids).any fun q => depB q p) := by
        unfold markF
        rw [List.drop_zero, h1, List.any_append]
        have hs : (s.any fun q => depB q p) = false := by
          rw [List.any_eq_false]
          intro q hq hd
          have hqp := h2 q hq
          have hqx : q ∈ x.l := by rw [hpre']; exact List.mem_append_left _ hqp
          have hlt := dep_less hn hqx hd
          rcases List.mem_append.1 hqp with h | h
          · rw [hpre] at hx
            have := (List.pairwise_append.1 hx).2.2 q h p (by simp)
            omega
          · rw [List.mem_singleton.1 h] at hlt; omega
        rw [hs, Bool.false_or]
      show (if ids.contains p.id || (neededL t ids).any (fun q => depB q p) then p :: neededL t ids else neededL t ids) = _
      rw [List.filter_cons, hc, ← iht]
  unfold idsOf neededG
  rw [key x.l [] rfl]
end Go.Proofs.Ytmkfaibjjbgbbaa
