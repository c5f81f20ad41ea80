/- plan.Batches. -/
import Derived.Test.YtmkfaibjjbgbbaaBatLaw
import Derived.Deep.LoopGhost
namespace Go.Proofs.Ytmkfaibjjbgbbaa
open Go.RowKit
set_option linter.unusedVariables false
attribute [local go_sem ↓] Go.wp_at_zero Go.wp_at_succ

theorem info61 : (Try.prog.info? 61).map (fun i => (i.zero, i.size, i.bytes)) = some (some (.agg #[.slice none 0 0, .bool false]), 2, 32) := by kernel_rfl
/-- A list of batches of the call's own. -/
def batCells (L : List (Value × List Int × Bool)) : List Value := L.flatMap fun b => [b.1, .bool b.2.2]
def Bats (B : Nat) (w : World) (v : Value) (bs : List (List Int × Bool)) : Prop :=
  ∃ L : List (Value × List Int × Bool), bs = L.map (·.2) ∧ w.ownsRow B 61 2 v L.length (batCells L) ∧ ∀ b ∈ L, Arr w 3 b.1 (ints b.2.1)

theorem Bats.nil (B : Nat) (w : World) : Bats B w (.slice none 0 0) [] := ⟨[], rfl, World.ownsRow_nil _ _ _ _, fun b h => by cases h⟩
theorem Bats.below {B : Nat} {w w' : World} {v : Value} {bs : List (List Int × Bool)} (h : Bats B w v bs) (hb : Below w.heap.size w w') : Bats B w' v bs := by
  obtain ⟨L, e, h1, h2⟩ := h
  exact ⟨L, e, owns_keep h1 fun g hg => hb.block g (World.ownsRow.lt h1 g hg).2, fun b hb' => (h2 b hb').below hb⟩
theorem Bats.turn {B : Nat} {S : Nat → Prop} {w w' : World} {v : Value} {bs : List (List Int × Bool)} (h : Bats B w v bs) (hb : Turn S w w') (hs : ∀ k t cs, Blk w k t cs → ¬ S k) : Bats B w' v bs := by
  obtain ⟨L, e, h1, h2⟩ := h
  refine ⟨L, e, owns_keep h1 fun g hg => ?_, fun b hb' => (h2 b hb').turn hb fun g cs k => hs g 3 cs k⟩
  rcases h1.2 with ⟨hv, _⟩ | ⟨g', cap, cur, hv, _, hg', _⟩
  · rw [hv] at hg; cases hg
  · rw [hv] at hg
    injection hg with hg
    subst hg
    exact hb.block _ (Array.getElem?_eq_some_iff.1 hg').1 (hs _ 61 cur hg')
theorem Bats.len {B : Nat} {w : World} {v : Value} {bs : List (List Int × Bool)} (h : Bats B w v bs) : ∃ A c, v = .slice A bs.length c := by
  obtain ⟨L, rfl, h1, _⟩ := h
  rw [List.length_map]
  rcases h1.2 with ⟨hv, h0⟩ | ⟨g, cap, cur, hv, _⟩
  · rw [h0]; exact ⟨_, _, hv⟩
  · exact ⟨_, _, hv⟩
theorem two_new (w : World) (t : TypeId) (a b : Value) : ∀ (j : Nat) (u : Value), [a, b][j]? = some u → (w.alloc (.cells #[a, b] t)).cell? ((⟨w.heap.size, 0, none⟩ : Addr).add j) = some u := by
  intro j u hj
  rw [add_at, Nat.zero_add, (Blk.new w t #[a, b]).cell]
  rcases j with _ | _ | j
  · simpa using hj
  · simpa using hj
  · simp at hj
theorem batCells_app (L : List (Value × List Int × Bool)) (b : Value × List Int × Bool) : batCells (L ++ [b]) = batCells L ++ [b.1, .bool b.2.2] := by
  unfold batCells
  rw [List.flatMap_append]
  rfl

theorem own_type {B n : Nat} {w : World} {v : Value} {xs : List Value} (h : w.ownsRow B 61 2 v n xs) : ∀ j, v.ownBlock = some j → ∃ cs, Blk w j 61 cs := by
  intro j hj
  rcases h.2 with ⟨hv, _⟩ | ⟨g', cap, cur, hv, _, hg', _⟩
  · rw [hv] at hj; cases hj
  · rw [hv] at hj
    injection hj with hj
    subst hj
    exact ⟨cur, hg'⟩
theorem Gr.typed {w w' : World} {g mb n : Nat} {x : G} {S : Nat → Prop} (h : Gr w g mb n x) (hT : Turn S w w') (hS : ∀ j, S j → ∃ cs, Blk w j 61 cs) : Gr w' g mb n x := by
  obtain ⟨hg, f, hm, hh⟩ := h
  refine ⟨hg.turn hT (fun e => by obtain ⟨cs, h'⟩ := hS _ e; exact absurd rfl (hg.ne_ h' (by decide))), f, hm.turn hT (fun e => by obtain ⟨cs, h'⟩ := hS _ e; exact hm.not_blk h' rfl), hh.move fun k t cs ht kk => kk.turn hT fun e => ?_⟩
  obtain ⟨cs', h'⟩ := hS _ e
  exact absurd rfl (kk.ne_ h' (by rcases ht with rfl | rfl <;> decide))

set_option maxHeartbeats 4000000 in
theorem batches_any (g mb n : Nat) (x : G) (v : Value) (ids : List Int) (w : World) (hG : Gr w g mb n x) (hF : Fine x) (hl : x.l.length ≤ 100) (hv : Arr w 3 v (ints ids)) (hil : ids.length ≤ 1000) (hik : ∀ k ∈ ids, (key k).wf = true) :
    Calls Try.prog 34 #[.pointer (some ⟨g, 0, none⟩), v] w fun e w' => ∃ r, e = .returned r ∧ Bats w.heap.size w' r (batchesG x ids) ∧ Below w.heap.size w w' := by
  obtain ⟨i0, hi0, hz0, hz1, hz2⟩ := info_parts info61
  have HV := Lib.hid hv
  have HF := Lib.hid hF
  have HK := Lib.hid hik
  have HC := Lib.hid (copy_any g mb n x w hG hF.rise (by omega))
  have HBt := Lib.hid (show batchesG x ids = batchesF ids (x.l.length + 1) x from rfl)
  clear hG hF hv hik
  go_enter Try.func34, Try.ntmps34
  go_wp2_with fail
  refine HC.out.mono ?_
  rintro e w1 ⟨gc, mc, rfl, hG1, hb1, hgn, hmn⟩
  have HG1 := Lib.hid hG1
  have HB1 := Lib.hid hb1
  have hs1 := hb1.size
  clear hG1 hb1 HC
  go_wp2_with fail
  go_loopg [5] x.l.length (fun gk v wr => ∃ (y : G) (nb : Nat) (bs : List (List Int × Bool)), gk = y.l.length ∧ Hid (Fine y ∧ batchesG x ids = bs ++ batchesF ids (y.l.length + 1) y) ∧ y.l.length ≤ x.l.length ∧ nb ≤ 100 + 1000 * (x.l.length - y.l.length) ∧ bs.length + y.l.length ≤ x.l.length ∧ Gr wr gc mc nb y ∧ Bats w.heap.size wr v bs ∧ Below w.heap.size w wr)
  case atStart => exact ⟨x, x.l.length, [], rfl, ⟨HF.out, HBt.out⟩, Nat.le_refl _, by omega, by simp, HG1.out, Bats.nil _ _, HB1.out⟩
  case round =>
    obtain ⟨y, nb, bs, hgk, hFy, hyx, hnb, hbl, hG, hB, hbel⟩ := hrel
    have Hgk := Lib.hid hgk
    have HG := Lib.hid hG
    have HB := Lib.hid hB
    have HBw := Lib.hid hbel
    have hsz := hbel.size
    have HN := Lib.hid (next_some gc mc nb y _ ids wr hG hFy.out.1 (HV.out.below hbel) hil HK.out)
    clear hgk hG hB hbel
    cases hp : planNext y ids with
    | none =>
      have HE := Lib.hid (show batchesG x ids = bs from by rw [hFy.out.2, batches_off hp, List.append_nil])
      rw [hp] at HN
      simp only [Option.map_none, Option.getD_none, Option.isSome_none] at HN
      clear hp
      go_wp2_with fail
      refine HN.out.mono ?_
      rintro e w3 ⟨sv, rfl, hsv, hb3⟩
      obtain ⟨A3, c3, rfl, -, -⟩ := hsv.arr.len
      have HB3 := Lib.hid (HB.out.below hb3)
      have HW3 := Lib.hid (HBw.out.trans (hb3.mono hsz))
      clear hsv hb3
      unfold batV
      go_wp2
      go_ret
      exact ⟨_, rfl, by rw [HE.out]; exact HB3.out.below ((Below.refl _ _).alloc (Nat.le_refl _) _), HW3.out.alloc HW3.out.size _⟩
    | some b =>
      have hless := next_less hFy.out.1 hp
      have HE := Lib.hid (show batchesG x ids = (bs ++ [b]) ++ batchesF ids ((carryG y b.1).l.length + 1) (carryG y b.1) from by rw [hFy.out.2, batches_on hFy.out.1 hp _ (Nat.le_refl _), List.append_assoc]; rfl)
      have HFc := Lib.hid (hFy.out.1.carry b.1)
      rw [hp] at HN
      simp only [Option.map_some, Option.getD_some, Option.isSome_some] at HN
      clear hp
      obtain ⟨S, fb⟩ := b
      simp only at HN HE HFc hless
      go_wp2_with fail
      refine HN.out.mono ?_
      rintro e w3 ⟨sv, rfl, hsv, hb3⟩
      have HS3 := Lib.hid hsv.arr
      obtain ⟨A3, c3, rfl, h31, h32⟩ := hsv.arr.len
      rw [ints_len] at HS3 ⊢
      have hown0 := HB.out.below hb3
      obtain ⟨L0, hL0, hown00, -⟩ := hown0
      have HB3o := Lib.hid (show ∀ j, u5.ownBlock = some j → j < w3.heap.size from fun j hj => (World.ownsRow.lt hown00 j hj).2)
      clear hown00 hL0
      have HB3 := Lib.hid ((HB.out.below hb3).below ((Below.refl _ _).alloc (Nat.le_refl _) (.cells #[.slice A3 S.length c3, .bool fb] 61)))
      have HG3 := Lib.hid ((HG.out.below hb3).alloc (.cells #[.slice A3 S.length c3, .bool fb] 61))
      have HW3 := Lib.hid ((HBw.out.trans (hb3.mono hsz)).alloc (HBw.out.trans (hb3.mono hsz)).size (.cells #[.slice A3 S.length c3, .bool fb] 61))
      have HX3 := Lib.hid (Blk.new w3 61 #[.slice A3 S.length c3, .bool fb])
      have hs3 := hb3.size
      obtain ⟨L, hL, hown, hLa⟩ := HB3.out
      have HLa := Lib.hid hLa
      have hLl : L.length = bs.length := by rw [hL, List.length_map]
      have HL := Lib.hid hL
      have HO3 := Lib.hid hown
      clear hsv hb3 hL hown hLa
      unfold batV
      go_wp2_with (at_builtin; refine wpList_append_own _ rfl (.tmp 20) (.tmp 22) 57 rfl w.heap.size 61 i0 (.agg #[.slice none 0 0, .bool false]) 2 32 Try.underlying57 hi0 hz0 hz1 hz2 rfl (by decide) _ _ _ rfl (World.ownsRow.alloc HO3.out _) ⟨w3.heap.size + 1, 0, none⟩ 1 1 [.slice A3 S.length c3, .bool fb] rfl rfl ?c1 ?c2 ?c3 ?c4 ?c5 ?_)
      case c1 =>
        have := two_new (w3.alloc (.cells #[.slice A3 S.length c3, .bool fb] 61)) 61 (.slice A3 S.length c3) (.bool fb)
        simpa using this
      case c2 => simp [Value.oneCell']
      case c3 => simp only [maxLen]; omega
      case c4 => omega
      case c5 => simp; omega
      intro v' w5 hown5 hg5 _
      have HT5 := Lib.hid (show Turn (fun j => (u5).ownBlock = some j) ((w3.alloc (.cells #[.slice A3 S.length c3, .bool fb] 61)).alloc (.cells #[.slice A3 S.length c3, .bool fb] 61)) w5 from ⟨hg5.os, hg5.tape, hg5.output, hg5.size, fun i hi hn => hg5.block i hi (fun e => hn e.symm)⟩)
      have HO4 := Lib.hid (World.ownsRow.alloc HO3.out (.cells #[.slice A3 S.length c3, .bool fb] 61))
      have hty : ∀ j, u5.ownBlock = some j → ∃ cs, Blk ((w3.alloc (.cells #[.slice A3 S.length c3, .bool fb] 61)).alloc (.cells #[.slice A3 S.length c3, .bool fb] 61)) j 61 cs := own_type HO4.out
      have hs5 := hg5.size
      simp at hs5
      have hG4 := HG3.out.alloc (.cells #[.slice A3 S.length c3, .bool fb] 61)
      have HG5 := Lib.hid (hG4.typed HT5.out hty)
      have HS5 := Lib.hid (((HS3.out.alloc (.cells #[.slice A3 S.length c3, .bool fb] 61)).alloc (.cells #[.slice A3 S.length c3, .bool fb] 61)).turn HT5.out (fun k cs kk e => by obtain ⟨cs', h'⟩ := hty k e; exact absurd rfl (kk.ne_ h' (by decide))))
      have hxl := HX3.out.lt
      have HX5 := Lib.hid ((HX3.out.alloc (.cells #[.slice A3 S.length c3, .bool fb] 61)).turn HT5.out (fun e => by
        have h2 := HB3o.out _ e
        omega))
      have HB5 := Lib.hid (show Bats w.heap.size w5 v' (bs ++ [(S, fb)]) from ⟨L ++ [(.slice A3 S.length c3, S, fb)], by rw [HL.out, List.map_append]; rfl, by
        rw [List.length_append, batCells_app, hLl]
        exact hown5, fun b hb => by
          rcases List.mem_append.1 hb with hb | hb
          · exact (((HLa.out b hb).alloc (.cells #[.slice A3 S.length c3, .bool fb] 61))).turn HT5.out (fun k cs kk e => by obtain ⟨cs', h'⟩ := hty k e; exact absurd rfl (kk.ne_ h' (by decide)))
          · rw [List.mem_singleton.1 hb]; exact HS5.out⟩)
      have HW5 := Lib.hid ((HW3.out.alloc HW3.out.size (.cells #[.slice A3 S.length c3, .bool fb] 61)).grown hg5 (by have := HW3.out.size; simp at this ⊢; omega) (fun j hj => (World.ownsRow.lt HO3.out j hj).1))
      have HC5 := Lib.hid (carry_any gc mc nb y _ S fb w5 HG5.out hFy.out.1 (by omega) HS5.out)
      have x0 := HX5.out.cell 0
      have x1 := HX5.out.cell 1
      simp at x0 x1
      unfold batV at HC5
      clear hown5 hg5 hty hG4
      go_wp2_with fail
      refine HC5.out.mono ?_
      rintro e w6 ⟨r6, nb6, rfl, -, hG6, hnb6, hT6⟩
      have HG6 := Lib.hid hG6
      have HB6 := Lib.hid (HB5.out.turn hT6 (fun k t cs kk e => by
        subst e
        obtain ⟨_, f, hm, _⟩ := HG5.out
        exact hm.not_blk kk rfl))
      have HW6 := Lib.hid (HW5.out.trans (hT6.below (B := w.heap.size) HW5.out.size (fun i hi e => by omega)))
      clear hG6 hT6 HC5
      go_wp2
      go_roundg ((carryG y S).l.length)
      case measure => rw [Hgk.out]; exact hless
      case rel => exact ⟨carryG y S, nb6, bs ++ [(S, fb)], rfl, ⟨HFc.out, HE.out⟩, by omega, by omega, by simp; omega, HG6.out, HB6.out, HW6.out⟩
end Go.Proofs.Ytmkfaibjjbgbbaa
