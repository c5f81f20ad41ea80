/- settle, Settle, SettleAll of package scupperref14. -/
import Derived.Test.YtmkfaibjjbgbbaaRask
namespace Go.Proofs.Ytmkfaibjjbgbbaa
open Go.RowKit
set_option linter.unusedVariables false
attribute [local go_sem ↓] Go.wp_at_zero Go.wp_at_succ

theorem ptCells_app (L : List (Value × Value × Pt)) (e : Value × Value × Pt) : ptCells (L ++ [e]) = ptCells L ++ (e.2.2.cells e.1 e.2.1).toList := by
  unfold ptCells
  rw [List.flatMap_append]
  simp
/-- One patch more at the end of a list of the call's own. -/
theorem wpList_append_pt {w : World} {ops : Array Oper} {rest : List Oper} {o : Oper} {a : Act} {Q : Exit → Act → World → Prop} (hgd : o.guard = none) (s x : Operand)
    (ho : o.op = .call { callee := .builtin .append, args := #[s, x], argTypes := #[50, 50] })
    (B : Nat) (v : Value) (L : List (Value × Value × Pt)) (hs : a.eval s = v) (hown : w.ownsRow B 30 9 v L.length (ptCells L)) (p : Pt) (A1 : Option Addr) (m1 k1 : Nat) (A2 : Option Addr) (m2 k2 : Nat) (g c : Nat) (hx : a.eval x = .slice (some ⟨g, 0, none⟩) 1 c)
    (hc : Blk w g 30 (p.cells (.slice A1 m1 k1) (.slice A2 m2 k2))) (hl : L.length ≤ 100000) (hbase : B ≤ w.heap.size)
    (h : ∀ v' w', w'.ownsRow B 30 9 v' (L ++ [(Value.slice A1 m1 k1, Value.slice A2 m2 k2, p)]).length (ptCells (L ++ [(Value.slice A1 m1 k1, Value.slice A2 m2 k2, p)])) → w.grownBy w' v.ownBlock → wpList Try.prog ops Q rest (a.put o.dst v') w') : wpList Try.prog ops Q (o :: rest) a w := by
  obtain ⟨i0, hi0, hz0, hz1, hz2⟩ := info_parts info30
  refine wpList_append_row hgd s x 50 ho B 30 i0 _ 9 104 Try.underlying50 hi0 hz0 hz1 hz2 rfl (by decide) v L.length (ptCells L) hs hown (some ⟨g, 0, none⟩) 1 c (p.cells (.slice A1 m1 k1) (.slice A2 m2 k2)).toList hx (by simp [Pt.cells]) (fun h => by cases h) (fun ad had j u hu => ?_) ?_ ?_ ?_ hbase (fun v' w' h1 h2 _ => ?_)
  · cases had
    rw [add_at, Nat.zero_add, hc.cell]
    simpa using hu
  · intro u hu
    simp [Pt.cells] at hu
    rcases hu with rfl | rfl | rfl | rfl | rfl | rfl | rfl | rfl | rfl <;> simp [Value.oneCell']
  · simp only [maxLen]; omega
  · omega
  · refine h v' w' ?_ h2
    rw [List.length_append, ptCells_app]
    exact h1

def setQ (s : Int) (p : Pt) : Bool := decide (s < 0) || decide (p.sec = s)
def keepQ (s : Int) (p : Pt) : Bool := !(p.written && setQ s p)
theorem keep_on {l : List Pt} {q : Pt → Bool} {k : Nat} {p : Pt} (h : l[k]? = some p) (hq : q p = true) : (l.take (k + 1)).filter q = (l.take k).filter q ++ [p] := by
  rw [List.take_add_one, h, List.filter_append]
  simp [hq]
theorem keep_off {l : List Pt} {q : Pt → Bool} {k : Nat} {p : Pt} (h : l[k]? = some p) (hq : q p = false) : (l.take (k + 1)).filter q = (l.take k).filter q := by
  rw [List.take_add_one, h, List.filter_append]
  simp [hq]

set_option maxHeartbeats 4000000 in
set_option maxRecDepth 100000 in
theorem rsettle_any (b : Nat) (x : G) (s : Int) (w : World) (h : RG w b x) (hxl : x.l.length ≤ 1000) :
    Calls Try.prog 99 #[.pointer (some ⟨b, 0, none⟩), .int .i64 s] w fun e w' => e = .returned (.int .i64 (x.l.length - (settleG x (setQ s)).l.length : Int)) ∧ RG w' b (settleG x (setQ s)) ∧ Turn (fun j => j = b) w w' := by
  have HG := Lib.hid h
  obtain ⟨v, hb, hl⟩ := h
  obtain ⟨A, c, rfl, hc1, hc2⟩ := hl.len
  have HL := Lib.hid hl
  have HBk := Lib.hid hb
  have hbc := hb.cell 1
  simp at hbc
  unfold maxLen at hc2
  have hbl : b < w.heap.size := hb.lt
  have HS := Lib.hid (show (settleG x (setQ s)).l = x.l.filter (keepQ s) from rfl)
  clear hb hl
  go_enter Try.func99, Try.ntmps99
  go_wp2_with fail
  go_loopw [5, 6] (fun v i wr => ∃ (k : Nat) (L : List (Value × Value × Pt)), k ≤ x.l.length ∧ i = .int .i64 k ∧ Hid (L.map (·.2.2) = (x.l.take k).filter (keepQ s)) ∧ wr.ownsRow w.heap.size 30 9 v L.length (ptCells L) ∧ Hid (∀ e ∈ L, Arr w 5 e.1 (bytes e.2.2.data) ∧ Arr w 3 e.2.1 (ints e.2.2.needs)) ∧ Below w.heap.size w wr) (fun _ i _ => x.l.length - (intOf i).toNat)
  case atStart => exact ⟨0, [], Nat.zero_le _, rfl, by unfold Hid; simp, World.ownsRow_made w #[] 0 (Nat.le_refl _) (Nat.zero_le _) rfl, (fun e h => by cases h), (Below.refl _ _).alloc (Nat.le_refl _) _⟩
  case round =>
    obtain ⟨k, L, hk, rfl, hL, hO, hAr, hbel⟩ := hrel
    have HO := Lib.hid hO
    have HB := Lib.hid hbel
    have hsz := hbel.size
    have hLl : L.length ≤ x.l.length := by
      have h1 := congrArg List.length hL.out
      rw [List.length_map] at h1
      rw [h1]
      exact Nat.le_trans (List.length_filter_le _ _) (by rw [List.length_take]; exact Nat.min_le_right _ _)
    have hbcw : wr.cell? ⟨b, 1, none⟩ = some (.slice A x.l.length c) := (hbel.cell (p := ⟨b, 1, none⟩) hbl).trans hbc
    by_cases hlt : k < x.l.length
    · obtain ⟨p, hp⟩ : ∃ p, x.l[k]? = some p := ⟨_, List.getElem?_eq_getElem hlt⟩
      obtain ⟨g, c', A1, k1, A2, k2, e, hpc, hpv, hgp⟩ := HL.out.at hp
      injection e with e1 e2 e3
      subst e1 e3
      clear e2
      have mv : ∀ (j : Nat) (u : Value), (p.cells (.slice A1 (bytes p.data).length k1) (.slice A2 (ints p.needs).length k2))[j]? = some u → wr.cell? ⟨g, k * 9 + j, none⟩ = some u := fun j u hu => (hbel.cell (p := ⟨g, k * 9 + j, none⟩) hgp).trans (hpc j u hu)
      have y0 : wr.cell? ⟨g, k * 9, none⟩ = some (.int .i64 p.id) := mv 0 _ rfl
      have y1 : wr.cell? ⟨g, k * 9 + 1, none⟩ = some (.int .i64 p.sec) := mv 1 _ rfl
      have y2 : wr.cell? ⟨g, k * 9 + 2, none⟩ = some (.int .i64 p.off) := mv 2 _ rfl
      have y3 : wr.cell? ⟨g, k * 9 + 3, none⟩ = some (.slice A1 (bytes p.data).length k1) := mv 3 _ rfl
      have y4 : wr.cell? ⟨g, k * 9 + 4, none⟩ = some (.int .i64 p.kind) := mv 4 _ rfl
      have y5 : wr.cell? ⟨g, k * 9 + 5, none⟩ = some (.slice A2 (ints p.needs).length k2) := mv 5 _ rfl
      have y6 : wr.cell? ⟨g, k * 9 + 6, none⟩ = some (.int .i64 p.owner) := mv 6 _ rfl
      have y7 : wr.cell? ⟨g, k * 9 + 7, none⟩ = some (.int .i64 p.child) := mv 7 _ rfl
      have y8 : wr.cell? ⟨g, k * 9 + 8, none⟩ = some (.bool p.written) := mv 8 _ rfl
      have HP := Lib.hid hp
      have HPv := Lib.hid hpv.parts'
      have hk0 : (0 : Int) ≤ (k : Int) := by omega
      have hk1 : (k : Int) < (x.l.length : Int) := by omega
      have hcases : (p.written = false ∧ keepQ s p = true) ∨ (p.written = true ∧ ¬ s < 0 ∧ ¬ p.sec = s ∧ keepQ s p = true) ∨ (p.written = true ∧ s < 0 ∧ keepQ s p = false) ∨ (p.written = true ∧ ¬ s < 0 ∧ p.sec = s ∧ keepQ s p = false) := by
        unfold keepQ setQ
        cases hw : p.written with
        | false => left; simp
        | true =>
          right
          by_cases h1 : s < 0
          · right; left; simp [h1]
          · by_cases h2 : p.sec = s
            · right; right; simp [h2, h1]
            · left; simp [h1, h2]
      clear hO hbel mv hpc hpv hp
      rcases hcases with ⟨hw, hq⟩ | ⟨hw, hs, hps, hq⟩ | ⟨hw, hs, hq⟩ | ⟨hw, hs, hps, hq⟩
      · rw [hw] at y8
        have HX := Lib.hid (Blk.new wr 30 (p.cells (.slice A1 (bytes p.data).length k1) (.slice A2 (ints p.needs).length k2)))
        have HLn := Lib.hid (show (L ++ [(Value.slice A1 (bytes p.data).length k1, Value.slice A2 (ints p.needs).length k2, p)]).map (·.2.2) = (x.l.take (k + 1)).filter (keepQ s) from by rw [keep_on HP.out hq, List.map_append, hL.out]; rfl)
        have HPW := Lib.hid (show Value.bool p.written = .bool false from by rw [hw])
        clear hq hw
        unfold Pt.cells at HX
        rw [HPW.out] at HX
        go_wp2_with (at_builtin; refine wpList_append_pt rfl (.tmp 43) (.tmp 51) rfl w.heap.size _ L rfl (World.ownsRow.alloc HO.out _) p A1 (bytes p.data).length k1 A2 (ints p.needs).length k2 wr.heap.size 1 rfl ?c1 ?c2 ?c3 ?_)
        case c1 => unfold Pt.cells; rw [HPW.out]; exact HX.out
        case c2 => omega
        case c3 => simp; omega
        intro v' w5 hown5 hg5
        have HO5 := Lib.hid hown5
        have HB5 := Lib.hid ((HB.out.alloc HB.out.size _).grown hg5 (by have := HB.out.size; simp; omega) (fun j hj => (World.ownsRow.lt HO.out j hj).1))
        have HA5 := Lib.hid (show ∀ e ∈ L ++ [(Value.slice A1 (bytes p.data).length k1, Value.slice A2 (ints p.needs).length k2, p)], Arr w 5 e.1 (bytes e.2.2.data) ∧ Arr w 3 e.2.1 (ints e.2.2.needs) from fun e he => by
          rcases List.mem_append.1 he with h | h
          · exact hAr.out e h
          · rw [List.mem_singleton.1 h]; exact HPv.out)
        clear hown5 hg5
        go_wp2
        go_roundw
        case rel => exact ⟨k + 1, _, by omega, by go_num, HLn, by rw [List.length_append]; exact HO5.out, HA5, HB5.out⟩
        case measure => simp [intOf]; omega
      · rw [hw] at y8
        have HX := Lib.hid (Blk.new wr 30 (p.cells (.slice A1 (bytes p.data).length k1) (.slice A2 (ints p.needs).length k2)))
        have HLn := Lib.hid (show (L ++ [(Value.slice A1 (bytes p.data).length k1, Value.slice A2 (ints p.needs).length k2, p)]).map (·.2.2) = (x.l.take (k + 1)).filter (keepQ s) from by rw [keep_on HP.out hq, List.map_append, hL.out]; rfl)
        have HPW := Lib.hid (show Value.bool p.written = .bool true from by rw [hw])
        have d1 : decide (0 ≤ s) = true := decide_eq_true (by omega)
        have d2 : (p.sec != s) = true := by simp [hps]
        clear hq hw hs hps
        unfold Pt.cells at HX
        rw [HPW.out] at HX
        go_wp2_with (at_builtin; refine wpList_append_pt rfl (.tmp 43) (.tmp 51) rfl w.heap.size _ L rfl (World.ownsRow.alloc HO.out _) p A1 (bytes p.data).length k1 A2 (ints p.needs).length k2 wr.heap.size 1 rfl ?c1 ?c2 ?c3 ?_)
        case c1 => unfold Pt.cells; rw [HPW.out]; exact HX.out
        case c2 => omega
        case c3 => simp; omega
        intro v' w5 hown5 hg5
        have HO5 := Lib.hid hown5
        have HB5 := Lib.hid ((HB.out.alloc HB.out.size _).grown hg5 (by have := HB.out.size; simp; omega) (fun j hj => (World.ownsRow.lt HO.out j hj).1))
        have HA5 := Lib.hid (show ∀ e ∈ L ++ [(Value.slice A1 (bytes p.data).length k1, Value.slice A2 (ints p.needs).length k2, p)], Arr w 5 e.1 (bytes e.2.2.data) ∧ Arr w 3 e.2.1 (ints e.2.2.needs) from fun e he => by
          rcases List.mem_append.1 he with h | h
          · exact hAr.out e h
          · rw [List.mem_singleton.1 h]; exact HPv.out)
        clear hown5 hg5
        go_wp2
        go_roundw
        case rel => exact ⟨k + 1, _, by omega, by go_num, HLn, by rw [List.length_append]; exact HO5.out, HA5, HB5.out⟩
        case measure => simp [intOf]; omega
      · rw [hw] at y8
        have HLn := Lib.hid (show L.map (·.2.2) = (x.l.take (k + 1)).filter (keepQ s) from by rw [keep_off HP.out hq, hL.out])
        have d1 : decide (0 ≤ s) = false := decide_eq_false (by omega)
        clear hq hw hs
        go_wp2
        go_roundw
        case rel => exact ⟨k + 1, L, by omega, by go_num, HLn, HO.out, hAr, HB.out⟩
        case measure => simp [intOf]; omega
      · rw [hw] at y8
        have HLn := Lib.hid (show L.map (·.2.2) = (x.l.take (k + 1)).filter (keepQ s) from by rw [keep_off HP.out hq, hL.out])
        have d1 : decide (0 ≤ s) = true := decide_eq_true (by omega)
        have d2 : (p.sec != s) = false := by simp [hps]
        clear hq hw hs hps
        go_wp2
        go_roundw
        case rel => exact ⟨k + 1, L, by omega, by go_num, HLn, HO.out, hAr, HB.out⟩
        case measure => simp [intOf]; omega
    · obtain rfl : k = x.l.length := by omega
      have hLe : L.map (·.2.2) = (settleG x (setQ s)).l := by rw [hL.out, List.take_length, HS.out]
      have hLn2 : (settleG x (setQ s)).l.length = L.length := by rw [← hLe, List.length_map]
      obtain ⟨A5, m5, c5, rfl⟩ := owns_shape hO
      have hR := RL.of_own (L := L) hO rfl (fun e he => ⟨(hAr.out e he).1.below hbel, (hAr.out e he).2.below hbel⟩)
      rw [hLe] at hR
      have hm5 : m5 = L.length := by
        obtain ⟨A', c', e, _⟩ := hR.len
        injection e with _ e _
        rw [e, hLn2]
      subst hm5
      have HR := Lib.hid hR
      have hX := HBk.out.below hbel hbl
      have HX := Lib.hid hX
      have f1 := hX.frozen 1
      have hblw : b < wr.heap.size := hX.lt
      have HLe := Lib.hid hLn2
      have HTT := Lib.hid ((Turn.of_below (S := fun j => j = b) hbel).setCell (p := ⟨b, 1, none⟩) (fun _ => rfl) (.slice A5 L.length c5))
      have HRR := Lib.hid (hR.move (w' := wr.setCell ⟨b, 1, none⟩ (.slice A5 L.length c5)) (fun g t cs ht kk => kk.far (p := ⟨b, 1, none⟩) (kk.ne_ hX (by rcases ht with rfl | rfl | rfl <;> decide)) _))
      have ew : IntKind.i64.wrap ((x.l.length : Int) - (L.length : Int)) = (x.l.length : Int) - (L.length : Int) := IntWalk.i64_in _ (by omega) |>.trans rfl
      clear hO hbel hLe hLn2 hR hX
      go_wp2
      go_ret
      exact ⟨by rw [HLe.out]; rfl, ⟨_, HX.out.set_ 1 _, HRR.out⟩, HTT.out⟩
end Go.Proofs.Ytmkfaibjjbgbbaa
