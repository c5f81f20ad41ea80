/- A list of ints of the call's own from which the head was cut off; append to it; slices.Clone of a list of ints is the call's own. -/
import Derived.Test.YtmkfaibjjbgbbaaCopy
import Derived.Test.YtmkfaibjjbgbbaaFew
import Derived.Laws.OwnMore
namespace Go.Proofs.Ytmkfaibjjbgbbaa
open Go.RowKit
set_option linter.unusedVariables false

def Tail (B : Nat) (w : World) (v : Value) (l : List Int) : Prop :=
  (v = .slice none 0 0 ∧ l = []) ∨ ∃ g o cap cs, v = .slice (some ⟨g, o, none⟩) l.length cap ∧ B ≤ g ∧ Blk w g 3 cs ∧ l.length ≤ cap ∧ cap ≤ maxLen ∧ o + cap ≤ cs.size ∧ ∀ (i : Nat) (u : Int), l[i]? = some u → cs[o + i]? = some (.int .i64 u)

section
variable {B : Nat} {w w' : World} {v : Value} {l : List Int}
theorem Tail.of_own (h : Built B w v l) : Tail B w v l := by
  rcases h.2 with ⟨hv, h0⟩ | ⟨g, cap, cur, hv, hb, hg, hnc, hcm, hcs, ht⟩
  · exact .inl ⟨hv, List.eq_nil_of_length_eq_zero h0⟩
  · refine .inr ⟨g, 0, cap, cur, hv, hb, hg, hnc, hcm, by omega, fun i u hu => ?_⟩
    have hu2 := ints_at hu
    rw [← ht, List.getElem?_take] at hu2
    split at hu2
    · simpa using hu2
    · cases hu2
theorem Tail.keep (h : Tail B w v l) (hb : ∀ g, v.ownBlock = some g → w'.heap[g]? = w.heap[g]?) : Tail B w' v l := by
  rcases h with h0 | ⟨g, o, cap, cs, hv, h1, h2, h3⟩
  · exact .inl h0
  · exact .inr ⟨g, o, cap, cs, hv, h1, (hb g (by rw [hv]; rfl)).trans h2, h3⟩
theorem Tail.own (h : Tail B w v l) : ∀ k, v.ownBlock = some k → B ≤ k ∧ k < w.heap.size := by
  intro k hk
  rcases h with ⟨rfl, _⟩ | ⟨g, o, cap, cs, rfl, h1, h2, _⟩
  · cases hk
  · injection hk with hk
    rw [← hk]
    exact ⟨h1, h2.lt⟩
theorem Tail.below (h : Tail B w v l) (hb : Below w.heap.size w w') : Tail B w' v l := h.keep fun g hg => hb.block g (h.own g hg).2
theorem Tail.shape (h : Tail B w v l) : ∃ A c, v = .slice A l.length c ∧ l.length ≤ c ∧ c ≤ maxLen := by
  rcases h with ⟨rfl, rfl⟩ | ⟨g, o, cap, cs, rfl, h1, h2, h3, h4, _⟩
  · exact ⟨_, _, rfl, Nat.le_refl _, Nat.zero_le _⟩
  · exact ⟨_, _, rfl, h3, h4⟩
end

theorem add_at (g o j : Nat) : (⟨g, o, none⟩ : Addr).add j = ⟨g, o + j, none⟩ := by unfold Addr.add; split <;> simp_all

theorem run_append_off {P : Program} (w : World) (t ty e : TypeId) (i : TypeInfo) (ht : P.underlying t = some (.slice e)) (hi : P.info? e = some i)
    (g o sLen sCap : Nat) (cur : Array Value) (hg : w.heap[g]? = some (.cells cur e (0, 0)))
    (a : Addr) (m c : Nat) (news : List Value) (hl : news.length = m * i.size) (hnews : ∀ j u, news[j]? = some u → w.cell? (a.add j) = some u) (h1 : ∀ u ∈ news, u.oneCell' = true)
    (hroom : sLen + m ≤ sCap) (hfit : (o + sLen * i.size) + news.length ≤ cur.size) :
    (Builtin.append_ #[t, t] ty #[.slice (some ⟨g, o, none⟩) sLen sCap, .slice (some a) m c]).run P w =
      .ok (.slice (some ⟨g, o, none⟩) (sLen + m) sCap) (w.setRow g (cur.toList.take (o + sLen * i.size) ++ news ++ cur.toList.drop (o + sLen * i.size + news.length)).toArray) := by
  have hf := run_firstCells_some (P := P) w i.size m a m c news hl hnews
  have hst := run_storeCells_at P g (o + sLen * i.size) e news 0 cur w hg (by simpa using hfit) h1
  simp only [Nat.add_zero] at hst
  simp [Builtin.append_, run_underlying ht, sizeOf, typeInfo, hi, Builtin.lenOf, hroom, hf, add_at, hst]

theorem run_append_tail {B : Nat} {w : World} {v : Value} {l : List Int} (h : Tail B w v l) (ty : TypeId) (y : Value) (ys : List Int) (hy : Row w y (ints ys)) (hsz : l.length + ys.length ≤ 10000000) (hB : B ≤ w.heap.size) :
    ∃ v' w', (Builtin.append_ #[28, 28] ty #[v, y]).run Try.prog w = .ok v' w' ∧ Tail B w' v' (l ++ ys) ∧ w.grownBy w' v.ownBlock ∧ (v'.ownBlock = v.ownBlock ∨ v'.ownBlock = some w.heap.size) := by
  obtain ⟨i0, hi0, hz0, hz1, hz2⟩ := info_parts info3
  obtain ⟨A, c, rfl, hyl, hyc, hA, hcell⟩ := hy
  rw [ints_len] at hyl ⊢
  have hmx : maxLen = 9223372036854775807 := by decide
  have hnl : (ints ys).length = ys.length * i0.size := by rw [ints_len, hz1, Nat.mul_one]
  have hnil : ys = [] → ∃ v' w', (Builtin.append_ #[28, 28] ty #[v, .slice none 0 0]).run Try.prog w = .ok v' w' ∧ Tail B w' v' (l ++ ys) ∧ w.grownBy w' v.ownBlock ∧ (v'.ownBlock = v.ownBlock ∨ v'.ownBlock = some w.heap.size) := by
    rintro rfl
    rw [List.append_nil]
    refine ⟨v, w, ?_, h, ⟨rfl, rfl, rfl, Nat.le_refl _, fun _ _ _ => rfl⟩, .inl rfl⟩
    rcases h with ⟨rfl, _⟩ | ⟨g, o, cap, cs, rfl, h1, h2, h3, _⟩
    · simp [Builtin.append_, run_underlying Try.underlying28, sizeOf, typeInfo, hi0, Builtin.lenOf, Builtin.firstCells]
    · simp [Builtin.append_, run_underlying Try.underlying28, sizeOf, typeInfo, hi0, Builtin.lenOf, Builtin.firstCells, h3, storeCells]
  rcases A with _ | ad
  · obtain rfl := hA rfl
    have hy0 : ys.length = 0 := by omega
    rw [hy0]
    exact hnil (List.eq_nil_of_length_eq_zero hy0)
  have hc := hcell ad rfl
  have fresh : ∀ (old : Nat), old < l.length + ys.length → ∀ (row : Option Nat), 
      Tail B (w.drew.alloc (.cells ((ints l).toArray ++ (ints ys).toArray ++ Builtin.zeroCells (Value.int .i64 0).cells (grownCap w (l.length + ys.length) old 3 - (l.length + ys.length))) 3)) (.slice (some ⟨w.heap.size, 0, none⟩) (l.length + ys.length) (grownCap w (l.length + ys.length) old 3)) (l ++ ys) ∧
      w.grownBy (w.drew.alloc (.cells ((ints l).toArray ++ (ints ys).toArray ++ Builtin.zeroCells (Value.int .i64 0).cells (grownCap w (l.length + ys.length) old 3 - (l.length + ys.length))) 3)) row := by
    intro old ho row
    have hge := grownCap_ge w (l.length + ys.length) old 3
    have hcm : grownCap w (l.length + ys.length) old 3 ≤ maxLen := grownCap_le_maxLen w (l.length + ys.length) old 3 (by omega)
    refine ⟨.inr ⟨w.heap.size, 0, grownCap w (l.length + ys.length) old 3, _, by rw [List.length_append], hB, heap_alloc_new w.drew _, by rw [List.length_append]; exact hge, hcm, ?_, fun i u hu => ?_⟩, ⟨rfl, rfl, rfl, by simp, fun k hk _ => Below.heap_alloc w.drew _ k hk⟩⟩
    · simp [ints_len, size_zeroCells, Value.cells]
      omega
    · have hi : i < (l ++ ys).length := by
        rcases Nat.lt_or_ge i (l ++ ys).length with h | h
        · exact h
        · rw [List.getElem?_eq_none h] at hu; cases hu
      have hu2 := ints_at hu
      rw [← Array.getElem?_toList, Nat.zero_add]
      simp only [Array.toList_append]
      rw [List.getElem?_append_left (by simp [ints_len]; simpa using hi)]
      have e : ints (l ++ ys) = ints l ++ ints ys := by simp [ints]
      rw [e] at hu2
      exact hu2
  rcases h with ⟨rfl, rfl⟩ | ⟨g, o, cap, cs, rfl, hBg, hbk, hlc, hcm, hfit, hcs⟩
  · by_cases hm : ys.length = 0
    · have hyn := List.eq_nil_of_length_eq_zero hm
      subst hyn
      refine ⟨.slice none 0 0, w, ?_, .inl ⟨rfl, rfl⟩, ⟨rfl, rfl, rfl, Nat.le_refl _, fun _ _ _ => rfl⟩, .inl rfl⟩
      simp [Builtin.append_, run_underlying Try.underlying28, sizeOf, typeInfo, hi0, Builtin.lenOf, Builtin.firstCells, loadCells, loadCellsFrom]
    · have hr := run_append_nil (P := Try.prog) w 28 ty 3 i0 (.int .i64 0) Try.underlying28 hi0 hz0 ad ys.length c (ints ys) hnl (fun j u hu => (hc j u hu).2) (by omega) (by simp at hsz; omega) (by rw [hz2]; simp at hsz; omega)
      have hgr := fresh 0 (by simp; omega) (Value.ownBlock (.slice none 0 0))
      simp only [List.length_nil, Nat.zero_add, List.nil_append, show ints [] = [] from rfl, Array.empty_append] at hgr ⊢
      refine ⟨_, _, hr, ?_, ?_, .inr rfl⟩
      · simpa using hgr.1
      · simpa using hgr.2
  · by_cases hroom : l.length + ys.length ≤ cap
    · have hr := run_append_off (P := Try.prog) w 28 ty 3 i0 Try.underlying28 hi0 g o l.length cap cs hbk ad ys.length c (ints ys) hnl (fun j u hu => (hc j u hu).2) ints_one hroom (by rw [hz1, ints_len]; omega)
      rw [hz1, Nat.mul_one] at hr
      refine ⟨_, _, hr, .inr ⟨g, o, cap, _, by rw [List.length_append], hBg, setRow_heap w g cs _ 3 _ hbk, by rw [List.length_append]; exact hroom, hcm, ?_, fun i u hu => ?_⟩, ⟨rfl, rfl, rfl, by simp, fun k _ hk => setRow_other w g k _ (fun e => hk (by simp [Value.ownBlock, e]))⟩, .inl rfl⟩
      · simp [ints_len]
        omega
      · have hi : i < (l ++ ys).length := by
          rcases Nat.lt_or_ge i (l ++ ys).length with h | h
          · exact h
          · rw [List.getElem?_eq_none h] at hu; cases hu
        rw [List.length_append] at hi
        rw [← Array.getElem?_toList]
        by_cases hil : i < l.length
        · rw [List.getElem?_append_left hil] at hu
          rw [List.append_assoc, List.getElem?_append_left (by simp; omega), List.getElem?_take_of_lt (by omega)]
          simpa using hcs i u hu
        · rw [List.getElem?_append_right (by omega)] at hu
          have hu2 := ints_at hu
          have ht : (cs.toList.take (o + l.length)).length = o + l.length := by simp; omega
          rw [List.append_assoc, List.getElem?_append_right (by omega), ht, List.getElem?_append_left (by rw [ints_len]; omega)]
          rw [show o + i - (o + l.length) = i - l.length by omega]
          exact hu2
    · have hr := run_append_grow (P := Try.prog) w 28 ty 3 i0 (.int .i64 0) Try.underlying28 hi0 hz0 ⟨g, o, none⟩ l.length cap (ints l) (by rw [ints_len, hz1, Nat.mul_one])
        (fun j u hu => by
          have hj : j < l.length := by
            rcases Nat.lt_or_ge j l.length with h | h
            · exact h
            · rw [List.getElem?_eq_none (by rw [ints_len]; exact h)] at hu; cases hu
          have h2 : (ints l)[j]? = some (.int .i64 l[j]) := ints_at (List.getElem?_eq_getElem hj)
          rw [h2] at hu
          rw [add_at, hbk.cell, ← hu]
          exact hcs j _ (List.getElem?_eq_getElem hj)) ad ys.length c (ints ys) hnl (fun j u hu => (hc j u hu).2) (by omega) (by omega) (growslice_fits (by omega) (by rw [hz2]; omega))
      have hgr := fresh cap (by omega) (Value.ownBlock (.slice (some ⟨g, o, none⟩) l.length cap))
      exact ⟨_, _, hr, hgr.1, hgr.2, .inr rfl⟩

theorem wpList_append_tail {B : Nat} {w : World} {ops : Array Oper} {rest : List Oper} {o : Oper} {a : Act} {Q : Exit → Act → World → Prop} (hgd : o.guard = none) (s x : Operand)
    (ho : o.op = .call { callee := .builtin .append, args := #[s, x], argTypes := #[28, 28] }) (v : Value) (l : List Int) (hs : a.eval s = v) (h : Tail B w v l) (y : Value) (ys : List Int) (hx : a.eval x = y) (hy : Row w y (ints ys))
    (hsz : l.length + ys.length ≤ 10000000) (hB : B ≤ w.heap.size)
    (hk : ∀ v' w', Tail B w' v' (l ++ ys) → w.grownBy w' v.ownBlock → (v'.ownBlock = v.ownBlock ∨ v'.ownBlock = some w.heap.size) → wpList Try.prog ops Q rest (a.put o.dst v') w') : wpList Try.prog ops Q (o :: rest) a w := by
  refine wpList_plain hgd fun K hK => ?_
  obtain ⟨v', w', hr, h2, h3, h4⟩ := run_append_tail h o.type y ys hy hsz hB
  unfold Oper.wp execOp
  simp only [ho, resolve, invoke, builtin, Sem.run_bind, Sem.run_pure, Result.andThen_ok, List.map_toArray, List.map_cons, List.map_nil, hs, hx, hr]
  exact hK _ _ (hk v' w' h2 h3 h4)

theorem clone_own (v : Value) (l : List Int) (w : World) (h : Arr w 3 v (ints l)) (hl : l.length ≤ 100000) :
    Calls Try.prog 78 #[v] w fun e w' => ∃ r, e = .returned r ∧ Built w.heap.size w' r l ∧ Below w.heap.size w w' := by
  obtain ⟨i0, hi0, hz0, hz1, hz2⟩ := info_parts info3
  have hn := fun (w : World) (a : Option Addr) (n c n' c' : Nat) => Lib.run_eql_slice_nil (P := Try.prog) w 28 3 a n c n' c' Try.underlying28
  have H := Lib.hid h
  rcases h with ⟨rfl, e⟩ | ⟨g, o, c, cs, rfl, h2, h3, h4, h5⟩
  · have e2 := List.eq_nil_of_map_eq_nil e
    subst e2
    go_enter Try.func78, Try.ntmps78
    go_wp2
    go_ret
    exact ⟨_, rfl, World.ownsRow_nil _ _ _ _, Below.refl _ _⟩
  · clear h4 h5
    rw [ints_len] at h2 H ⊢
    go_enter Try.func78, Try.ntmps78
    go_wp2_with (at_builtin; refine wpList_append_own _ rfl (.tmp 5) (.tmp 6) 28 rfl w.heap.size 3 i0 (.int .i64 0) 1 8 Try.underlying28 hi0 hz0 hz1 hz2 rfl (by decide) _ _ _ rfl (World.ownsRow_made w #[] 0 (Nat.le_refl _) (Nat.zero_le _) rfl) ⟨g, o, none⟩ l.length c (ints l) rfl ?c0 ?c1 ?c2 ?c3 ?c4 ?c5 ?_)
    case c0 => simp [ints_len]
    case c1 => exact H.out.news ((Below.refl _ _).alloc (Nat.le_refl _) _)
    case c2 => exact ints_one
    case c3 => simp only [maxLen]; omega
    case c4 => omega
    case c5 => simp
    intro v' w1 hown hgrow _
    have hb : Below w.heap.size w w1 := ((Below.refl _ _).alloc (Nat.le_refl _) _).grown hgrow (by simp) (fun j hj => by cases hj; exact Nat.le_refl _)
    have HA := Lib.hid (show Built w.heap.size w1 v' l from by simpa [Built] using hown)
    have HB := Lib.hid hb
    clear hown hgrow hb
    go_wp2
    go_ret
    exact ⟨_, rfl, HA.out, HB.out⟩
end Go.Proofs.Ytmkfaibjjbgbbaa
