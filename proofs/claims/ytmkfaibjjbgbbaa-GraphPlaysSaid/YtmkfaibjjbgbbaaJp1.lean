/- Sectors of package scupperref14. When all batches were carried out nothing that was needed is there. No program in sight. -/
import Derived.Test.YtmkfaibjjbgbbaaRset
import Derived.Test.YtmkfaibjjbgbbaaRnLaw
import Derived.Test.YtmkfaibjjbgbbaaBatLaw
namespace Go.Proofs.Ytmkfaibjjbgbbaa
open Go.RowKit
set_option linter.unusedVariables false
attribute [local go_sem ↓] Go.wp_at_zero Go.wp_at_succ

theorem slice_from (w : World) (g o m cap j : Nat) (h1 : j ≤ m) (h2 : m ≤ cap) : (Instr.slice 28 (.slice (some ⟨g, o, none⟩) m cap) (some (.int .i64 j)) none none).run Try.prog w = .ok (.slice (some ⟨g, if cap = j then o else o + j, none⟩) (m - j) (cap - j)) w := by
  have h3 : (j : Int) ≤ (m : Int) := by omega
  by_cases hc : cap = j
  · simp [Try.underlying28, go_sem, h3, hc]
  · simp [Try.underlying28, go_sem, h3, hc]
theorem slice_to (w : World) (g o m cap j : Nat) (h1 : j ≤ m) (h2 : m ≤ cap) : (Instr.slice 28 (.slice (some ⟨g, o, none⟩) m cap) none (some (.int .i64 j)) none).run Try.prog w = .ok (.slice (some ⟨g, o, none⟩) j cap) w := by
  have h3 : (j : Int) ≤ (cap : Int) := by omega
  by_cases hc : cap = 0
  · obtain rfl : j = 0 := by omega
    simp [Try.underlying28, go_sem, hc]
  · simp [Try.underlying28, go_sem, h3, hc]

theorem one_cells (V : World) (y : Int) : ∀ (ad : Addr), some (⟨V.heap.size, 0, none⟩ : Addr) = some ad → ∀ (j : Nat) (u : Value), (ints [y])[j]? = some u → (V.alloc (.cells #[.int .i64 y] 3)).cell? (ad.add j) = some u := fun ad h j u hu => by
  cases h
  exact one_new V 3 (.int .i64 y) j u hu
theorem ins_ints (M : List Int) (a : Int) (j : Nat) (hp : posS M a = j) (hn : M[j]? ≠ some a) : ints (M.take j) ++ ints [a] ++ ints (M.drop j) = ints (insS M a) := by
  unfold insS
  rw [hp, if_neg hn]
  unfold ints
  simp
theorem ins_same (M : List Int) (a : Int) (j : Nat) (hp : posS M a = j) (hn : M[j]? = some a) : insS M a = M := by
  unfold insS
  rw [hp, if_pos hn]
theorem ins_len2 (M : List Int) (a : Int) (j : Nat) (hj : j ≤ M.length) (hp : posS M a = j) (hn : M[j]? ≠ some a) : (insS M a).length = j + 1 + (M.length - j) := by
  unfold insS
  rw [hp, if_neg hn]
  simp
  omega

set_option maxHeartbeats 8000000 in
set_option maxRecDepth 100000 in
theorem rsectors_any (b : Nat) (x : G) (w : World) (h : RG w b x) (hxl : x.l.length ≤ 1000) :
    Calls Try.prog 67 #[.pointer (some ⟨b, 0, none⟩)] w fun e w' => ∃ r, e = .returned r ∧ Built w.heap.size w' r (secsG x) ∧ Below w.heap.size w w' := by
  obtain ⟨i0, hi0, hz0, hz1, hz2⟩ := info_parts info3
  have HG := Lib.hid h
  obtain ⟨v, hb, hl⟩ := h
  obtain ⟨A, c, rfl, hc1, hc2⟩ := hl.len
  have HL := Lib.hid hl
  have hbc := hb.cell 1
  simp at hbc
  unfold maxLen at hc2
  have hbl : b < w.heap.size := hb.lt
  clear hb hl
  go_enter Try.func67, Try.ntmps67
  go_wp2_with fail
  go_loopw [3, 4] (fun v i wr => ∃ k : Nat, k ≤ x.l.length ∧ i = .int .i64 k ∧ Hid (∃ g0 c0, v = .slice (some ⟨g0, 0, none⟩) (secsK x.l k).length c0) ∧ Built w.heap.size wr v (secsK x.l k) ∧ Below w.heap.size w wr) (fun _ i _ => x.l.length - (intOf i).toNat)
  case atStart => exact ⟨0, Nat.zero_le _, rfl, ⟨_, _, rfl⟩, World.ownsRow_made w #[] 0 (Nat.le_refl _) (Nat.zero_le _) rfl, (Below.refl _ _).alloc (Nat.le_refl _) _⟩
  case round =>
    rename World => wo
    obtain ⟨k, hk, rfl, hform, hO, hbel⟩ := hrel
    have HO := Lib.hid hO
    have HB := Lib.hid hbel
    have hsz := hbel.size
    have hbcw : wo.cell? ⟨b, 1, none⟩ = some (.slice A x.l.length c) := (hbel.cell (p := ⟨b, 1, none⟩) hbl).trans hbc
    by_cases hlt : k < x.l.length
    · obtain ⟨p, hp⟩ : ∃ p, x.l[k]? = some p := ⟨_, List.getElem?_eq_getElem hlt⟩
      obtain ⟨g, c', A1, k1, A2, k2, e, hpc, hpv, hgp⟩ := HL.out.at hp
      injection e with e1 e2 e3
      subst e1 e3
      clear e2
      have yw : wo.cell? ⟨g, k * 9 + 8, none⟩ = some (.bool p.written) := (hbel.cell (p := ⟨g, k * 9 + 8, none⟩) hgp).trans (hpc 8 _ rfl)
      have ys : wo.cell? ⟨g, k * 9 + 1, none⟩ = some (.int .i64 p.sec) := (hbel.cell (p := ⟨g, k * 9 + 1, none⟩) hgp).trans (hpc 1 _ rfl)
      have hk0 : (0 : Int) ≤ (k : Int) := by omega
      have hk1 : (k : Int) < (x.l.length : Int) := by omega
      have hMl := secsK_len x.l k
      cases hw : p.written with
      | true =>
        have HOn := Lib.hid (secsK_off hp hw)
        have HFm := hform
        rw [hw] at yw
        rw [← HOn.out] at HO HFm
        clear hO hbel hpc hpv hp hw hform
        go_wp2
        go_roundw
        case rel => exact ⟨k + 1, by omega, by go_num, HFm, HO.out, HB.out⟩
        case measure => simp [intOf]; omega
      | false =>
        have HOn := Lib.hid (secsK_on hp hw)
        rw [hw] at yw
        obtain ⟨g0, c0, rfl⟩ := hform.out
        generalize secsK x.l k = M at *
        have HCell := Lib.hid (show ∀ (j : Nat) (y : Int), M[j]? = some y → wo.cell? ⟨g0, j, none⟩ = some (.int .i64 y) from fun j y hy => by
          have hj : j < M.length := by
            rcases Nat.lt_or_ge j M.length with h | h
            · exact h
            · rw [List.getElem?_eq_none h] at hy; cases hy
          exact (World.ownsRow.cellAt hO j (by omega)).trans (ints_at hy))
        have hcap : M.length ≤ c0 ∧ c0 ≤ 9223372036854775807 := by
          obtain ⟨A', c', e, h1, h2⟩ := hO.arr.len
          injection e with _ _ e
          subst e
          rw [ints_len] at h1
          unfold maxLen at h2
          exact ⟨h1, h2⟩
        obtain ⟨hcap1, hcap2⟩ := hcap
        have hg0 := World.ownsRow.lt hO g0 rfl
        obtain ⟨hg0a, hg0b⟩ := hg0
        have HPk := Lib.hid hp
        clear hO hbel hpc hpv hp hw hform
        go_wp2_with fail
        go_loopw [5] (fun i W => ∃ j : Nat, j ≤ M.length ∧ i = .int .i64 j ∧ (∃ n, W = wo.drewN n) ∧ Hid (∀ (j' : Nat) (y : Int), j' < j → M[j']? = some y → y < p.sec)) (fun i _ => M.length - (intOf i).toNat)
        case atStart => exact ⟨0, Nat.zero_le _, rfl, ⟨0, rfl⟩, fun j y hj => by omega⟩
        case round =>
          obtain ⟨j, hj, rfl, ⟨n, rfl⟩, hT⟩ := hrel
          have hcases : (∃ y, j < M.length ∧ M[j]? = some y ∧ y < p.sec) ∨ (∃ y, j < M.length ∧ M[j]? = some y ∧ y = p.sec) ∨ (∃ y, j < M.length ∧ M[j]? = some y ∧ p.sec < y) ∨ j = M.length := by
            rcases Nat.lt_or_ge j M.length with h | h
            · obtain ⟨y, hy⟩ : ∃ y, M[j]? = some y := ⟨_, List.getElem?_eq_getElem h⟩
              rcases Int.lt_trichotomy y p.sec with h1 | h1 | h1
              · exact .inl ⟨y, h, hy, h1⟩
              · exact .inr (.inl ⟨y, h, hy, h1⟩)
              · exact .inr (.inr (.inl ⟨y, h, hy, h1⟩))
            · exact .inr (.inr (.inr (by omega)))
          rcases hcases with ⟨y, hjl, hy, hlt2⟩ | ⟨y, hjl, hy, hlt2⟩ | ⟨y, hjl, hy, hlt2⟩ | hjl
          · have cj := HCell.out j y hy
            have HY := Lib.hid hy
            clear hy
            go_wp2
            go_quiet (fail)
            go_wp2
            go_roundw
            case rel => exact ⟨j + 1, by omega, by go_num, ⟨_, rfl⟩, fun j' z hj' hz => by
              rcases Nat.lt_or_ge j' j with h | h
              · exact hT.out j' z h hz
              · obtain rfl : j' = j := by omega
                rw [HY.out] at hz
                rw [← Option.some.inj hz]; omega⟩
            case measure => simp [intOf]; omega
          · have cj := HCell.out j y hy
            have HP := Lib.hid (pos_is M j hT.out hj (fun z hz => by rw [hy] at hz; rw [← Option.some.inj hz]; omega))
            have HF := Lib.hid (show secsK x.l (k + 1) = M from by rw [HOn.out]; exact ins_same M p.sec j HP.out (by rw [hy, hlt2]))
            subst hlt2
            have t1 : decide (p.sec < p.sec) = false := by simp
            have t2 : (p.sec != p.sec) = false := by simp
            have t3 : ((j : Int) == (M.length : Int)) = false := by simp; omega
            clear hy
            go_wp2
            go_quiet (fail)
            go_wp2
            go_quiet (fail)
            go_wp2
            go_roundw
            case rel => exact ⟨k + 1, by omega, by go_num, (by rw [HF.out]; exact ⟨_, _, rfl⟩), by rw [HF.out]; exact HO.out, (by have h := HB.out; exact ⟨h.os, h.tape, h.output, h.size, h.block⟩)⟩
            case measure => simp [intOf]; omega
          · have cj := HCell.out j y hy
            have HP := Lib.hid (pos_is M j hT.out hj (fun z hz => by rw [hy] at hz; rw [← Option.some.inj hz]; omega))
            have HN := Lib.hid (show M[j]? ≠ some p.sec from by rw [hy]; intro e; rw [Option.some.inj e] at hlt2; omega)
            have t1 : decide (y < p.sec) = false := by simp; omega
            have t2 : (y != p.sec) = true := by simp; omega
            have t3 : ((j : Int) == (M.length : Int)) = false := by simp; omega
            clear hy
            go_wp2
            go_quiet (fail)
            obtain ⟨m1, hm1⟩ : ∃ m1, m1 = nq := ⟨_, rfl⟩
            subst hm1
            go_wp2
            go_quiet (fail)
            go_wp2
            obtain ⟨W, hW⟩ : ∃ W, W = ((wo.drewN n).drewN m1).drewN nq := ⟨_, rfl⟩
            have hBW : Below wo.heap.size wo W := by rw [hW]; exact ⟨rfl, rfl, rfl, Nat.le_refl _, fun _ _ => rfl⟩
            rw [← hW]
            clear hW
            have HBW := Lib.hid hBW
            have hszW := hBW.size
            have HS := Lib.hid fun (V : World) (h : Below W.heap.size W V) => show V.cell? ⟨b, 1, none⟩ = some (.slice (some ⟨g, 0, none⟩) x.l.length c) ∧ V.cell? ⟨g, k * 9 + 1, none⟩ = some (.int .i64 p.sec) from by
              have h1 := hBW.trans (h.mono hszW)
              exact ⟨(h1.cell (p := ⟨b, 1, none⟩) (show b < wo.heap.size by omega)).trans hbcw, (h1.cell (p := ⟨g, k * 9 + 1, none⟩) (show g < wo.heap.size by omega)).trans ys⟩
            have HNT := Lib.hid fun (V : World) (h : Below W.heap.size W V) => show ∀ (ad : Addr), some (⟨g0, 0, none⟩ : Addr) = some ad → ∀ (i : Nat) (u : Value), (ints (M.take j))[i]? = some u → V.cell? (ad.add i) = some u from fun ad ha i u hu => by
              have h1 := hBW.trans (h.mono hszW)
              cases ha
              rw [add_at, Nat.zero_add]
              unfold ints at hu
              rw [List.getElem?_map] at hu
              cases hy' : (M.take j)[i]? with
              | none => rw [hy'] at hu; cases hu
              | some z =>
                rw [hy'] at hu
                rw [← Option.some.inj hu]
                rw [List.getElem?_take] at hy'
                split at hy'
                · exact (h1.cell (p := ⟨g0, i, none⟩) hg0b).trans (HCell.out i z hy')
                · cases hy'
            have hs1 := fun (V : World) => slice_to V g0 0 M.length c0 j hj hcap1
            have hs2 := fun (V : World) => slice_from V g0 0 M.length c0 j hj hcap1
            obtain ⟨o2, ho2⟩ : ∃ o2, o2 = (if c0 = j then 0 else 0 + j) := ⟨_, rfl⟩
            rw [← ho2] at hs2
            have HND := Lib.hid fun (V : World) (h : Below W.heap.size W V) => show ∀ (ad : Addr), some (⟨g0, o2, none⟩ : Addr) = some ad → ∀ (i : Nat) (u : Value), (ints (M.drop j))[i]? = some u → V.cell? (ad.add i) = some u from fun ad ha i u hu => by
              have h1 := hBW.trans (h.mono hszW)
              cases ha
              rw [add_at]
              unfold ints at hu
              rw [List.getElem?_map] at hu
              cases hy' : (M.drop j)[i]? with
              | none => rw [hy'] at hu; cases hu
              | some z =>
                rw [hy'] at hu
                rw [← Option.some.inj hu]
                rw [List.getElem?_drop] at hy'
                have hjl' : j + i < M.length := by
                  rcases Nat.lt_or_ge (j + i) M.length with h | h
                  · exact h
                  · rw [List.getElem?_eq_none h] at hy'; cases hy'
                rw [show o2 = j from by rw [ho2, if_neg (by omega), Nat.zero_add]]
                exact (h1.cell (p := ⟨g0, j + i, none⟩) hg0b).trans (HCell.out (j + i) z hy')
            have HRC := Lib.hid (show (((W.alloc (.cells #[.int .i64 p.sec] 3)).alloc (.cells #[] 3)).drew).ownsRow W.heap.size 3 1 (.slice (some ⟨W.heap.size + 1, 0, none⟩) 0 0) 0 [] from by
              have h := World.ownsRow_made (base := W.heap.size) (e := 3) (size := 1) (W.alloc (.cells #[.int .i64 p.sec] 3)) #[] 0 (by simp) (Nat.zero_le _) rfl
              have e : (W.alloc (.cells #[.int .i64 p.sec] 3)).heap.size = W.heap.size + 1 := by simp
              rw [e] at h
              exact h)
            have hd0 : Below W.heap.size W W.drew := (Below.refl _ _).drew
            have hj0 : (0 : Int) ≤ (j : Int) := by omega
            have hlT : (ints (M.take j)).length = j * 1 := by rw [ints_len, List.length_take]; omega
            have hlD : (ints (M.drop j)).length = (M.length - j) * 1 := by rw [ints_len, List.length_drop]; omega
            have HlT := Lib.hid hlT
            have HlD := Lib.hid hlD
            obtain ⟨y1, y2⟩ := HS.out W (Below.refl _ _)
            clear hBW hbcw ys ho2 hlT hlD cj
            go_region_held3 (fun V => V.cell? ⟨b, 1, none⟩ = some (.slice (some ⟨g, 0, none⟩) x.l.length c) ∧ V.cell? ⟨g, k * 9 + 1, none⟩ = some (.int .i64 p.sec))
              (first | exact HS.out _ hbe3 | exact HS.out _ hbe2 | exact HS.out _ (hbe1.alloc hbe1.size _) | exact HS.out _ hbe1 | exact HS.out _ ((hd0.alloc hd0.size _).alloc (by simp) _) | exact HS.out _ (hd0.alloc hd0.size _) | exact HS.out _ hd0)
              (first
                | (refine step_append_some rfl (.tmp 64) (.tmp 67) 28 rfl W.heap.size 3 i0 (.int .i64 0) 1 8 Try.underlying28 hi0 hz0 hz1 hz2 (by rfl) (by decide) _ 0 0 [] (by rfl) (by first | exact World.ownsRow_made W.drew #[] 0 (Nat.le_refl _) (Nat.zero_le _) rfl | exact World.ownsRow.alloc (World.ownsRow_made W.drew #[] 0 (Nat.le_refl _) (Nat.zero_le _) rfl) _ | exact HRC.out) (some ⟨g0, 0, none⟩) j c0 (ints (M.take j)) (by rfl) HlT.out (fun h => by cases h) (HNT.out _ (by first | exact hd0.alloc hd0.size _ | exact (hd0.alloc hd0.size _).alloc (by simp) _)) ints_one j (by omega) (by simp only [maxLen]; omega) (by omega) (by simp; try omega) ?_
                   intro g1 cap1 wa hown1 hgrow1 hat1 hlt1
                   rw [List.nil_append] at hown1
                   have hbe1 : Below W.heap.size W wa := by first | exact (hd0.alloc hd0.size _).grown hgrow1 (by simp) (fun j hj => by have e := Option.some.inj hj; (try simp at e); omega) | exact ((hd0.alloc hd0.size _).alloc (by simp) _).grown hgrow1 (by simp; omega) (fun j hj => by have e := Option.some.inj hj; (try simp at e); omega)
                   first
                     | have hC1 := grown_new (k := W.heap.size + 1) hgrow1 (by simp <;> omega) (by simp <;> omega) (fun ad h j u hu => one_cells (W.drew.alloc (.cells #[] 3)) p.sec ad (by simpa using h) j u hu)
                     | have hC1 := grown_new (k := W.heap.size) hgrow1 (by simp <;> omega) (by simp <;> omega) (fun ad h j u hu => (((Below.refl _ _).alloc (Nat.le_refl _) (.cells #[] 3)).cell (p := ad.add j) (by cases h; rw [add_block]; simp)).trans (one_cells W.drew p.sec ad h j u hu))
                     | skip)
                | (refine step_append_some rfl (.tmp 68) (.tmp 77) 28 rfl W.heap.size 3 i0 (.int .i64 0) 1 8 Try.underlying28 hi0 hz0 hz1 hz2 (by rfl) (by decide) g1 cap1 j (ints (M.take j)) (by rfl) (by first | exact hown1 | exact World.ownsRow.alloc hown1 _) (some ⟨_, 0, none⟩) 1 1 (ints [p.sec]) (by rfl) (by rfl) (fun h => by cases h) (by first | exact hC1 | exact one_cells wa p.sec) ints_one (j + 1) rfl (by simp only [maxLen]; omega) (by omega) (by have := hbe1.size; first | omega | (simp; omega)) ?_
                   intro g2 cap2 wb hown2 hgrow2 hat2 hlt2
                   have hg1b : W.heap.size ≤ g1 := (World.ownsRow.lt hown1 g1 rfl).1
                   have hbe2 : Below W.heap.size W wb := by first | exact hbe1.grown hgrow2 hbe1.size (fun j hj => by have e := Option.some.inj hj; omega) | exact (hbe1.alloc hbe1.size _).grown hgrow2 (by have := hbe1.size; simp; omega) (fun j hj => by have e := Option.some.inj hj; omega))
                | (refine step_append_some rfl (.tmp 78) (.tmp 81) 28 rfl W.heap.size 3 i0 (.int .i64 0) 1 8 Try.underlying28 hi0 hz0 hz1 hz2 (by rfl) (by decide) g2 cap2 (j + 1) (ints (M.take j) ++ ints [p.sec]) (by rfl) hown2 (some ⟨g0, o2, none⟩) (M.length - j) (c0 - j) (ints (M.drop j)) (by rfl) HlD.out (fun h => by cases h) (HND.out _ hbe2) ints_one (j + 1 + (M.length - j)) rfl (by simp only [maxLen]; omega) (by omega) hbe2.size ?_
                   intro g3 cap3 wc hown3 hgrow3 hat3 hlt3
                   have hg2b : W.heap.size ≤ g2 := (World.ownsRow.lt hown2 g2 rfl).1
                   have hbe3 : Below W.heap.size W wc := hbe2.grown hgrow3 hbe2.size (fun j hj => by have e := Option.some.inj hj; omega)))
            all_goals
              have hR3 : Built W.heap.size wc (.slice (some ⟨g3, 0, none⟩) (j + 1 + (M.length - j)) cap3) (insS M p.sec) := by
                unfold Built
                rw [← ins_ints M p.sec j HP.out HN.out, ins_len2 M p.sec j hj HP.out HN.out]
                exact hown3
              have HR3 := Lib.hid (Built.mono (B' := w.heap.size) hR3 (by omega))
              have HB3 := Lib.hid (HB.out.trans ((HBW.out.trans (hbe3.mono hszW)).mono hsz))
              have HLn := Lib.hid (ins_len2 M p.sec j hj HP.out HN.out)
              clear hown1 hgrow1 hat1 hown2 hgrow2 hat2 hown3 hgrow3 hat3 hbe1 hbe2 hbe3 hR3
              go_wp2
              go_roundw
              case rel => exact ⟨k + 1, by omega, by go_num, ⟨_, _, by rw [HOn.out, HLn.out]⟩, by rw [HOn.out]; exact HR3.out, HB3.out⟩
              case measure => simp [intOf]; omega
          · have HP := Lib.hid (pos_is M j hT.out hj (fun z hz => by rw [List.getElem?_eq_none (by omega)] at hz; cases hz))
            have HN := Lib.hid (show M[j]? ≠ some p.sec from by rw [List.getElem?_eq_none (by omega)]; intro e; cases e)
            have t1 : decide ((j : Int) < (M.length : Int)) = false := by simp; omega
            have t2 : decide (j < M.length) = false := by simp; omega
            have t3 : ((j : Int) == (M.length : Int)) = true := by simp; omega
            have hge : M.length ≤ j := by omega
            clear hjl
            go_wp2
            go_quiet (fail)
            obtain ⟨m1, hm1⟩ : ∃ m1, m1 = nq := ⟨_, rfl⟩
            subst hm1
            go_wp2
            go_quiet (fail)
            go_wp2
            obtain ⟨W, hW⟩ : ∃ W, W = ((wo.drewN n).drewN m1).drewN nq := ⟨_, rfl⟩
            have hBW : Below wo.heap.size wo W := by rw [hW]; exact ⟨rfl, rfl, rfl, Nat.le_refl _, fun _ _ => rfl⟩
            rw [← hW]
            clear hW
            have HBW := Lib.hid hBW
            have hszW := hBW.size
            have HS := Lib.hid fun (V : World) (h : Below W.heap.size W V) => show V.cell? ⟨b, 1, none⟩ = some (.slice (some ⟨g, 0, none⟩) x.l.length c) ∧ V.cell? ⟨g, k * 9 + 1, none⟩ = some (.int .i64 p.sec) from by
              have h1 := hBW.trans (h.mono hszW)
              exact ⟨(h1.cell (p := ⟨b, 1, none⟩) (show b < wo.heap.size by omega)).trans hbcw, (h1.cell (p := ⟨g, k * 9 + 1, none⟩) (show g < wo.heap.size by omega)).trans ys⟩
            have HNT := Lib.hid fun (V : World) (h : Below W.heap.size W V) => show ∀ (ad : Addr), some (⟨g0, 0, none⟩ : Addr) = some ad → ∀ (i : Nat) (u : Value), (ints (M.take j))[i]? = some u → V.cell? (ad.add i) = some u from fun ad ha i u hu => by
              have h1 := hBW.trans (h.mono hszW)
              cases ha
              rw [add_at, Nat.zero_add]
              unfold ints at hu
              rw [List.getElem?_map] at hu
              cases hy' : (M.take j)[i]? with
              | none => rw [hy'] at hu; cases hu
              | some z =>
                rw [hy'] at hu
                rw [← Option.some.inj hu]
                rw [List.getElem?_take] at hy'
                split at hy'
                · exact (h1.cell (p := ⟨g0, i, none⟩) hg0b).trans (HCell.out i z hy')
                · cases hy'
            have hs1 := fun (V : World) => slice_to V g0 0 M.length c0 j hj hcap1
            have hs2 := fun (V : World) => slice_from V g0 0 M.length c0 j hj hcap1
            obtain ⟨o2, ho2⟩ : ∃ o2, o2 = (if c0 = j then 0 else 0 + j) := ⟨_, rfl⟩
            rw [← ho2] at hs2
            have HND := Lib.hid fun (V : World) (h : Below W.heap.size W V) => show ∀ (ad : Addr), some (⟨g0, o2, none⟩ : Addr) = some ad → ∀ (i : Nat) (u : Value), (ints (M.drop j))[i]? = some u → V.cell? (ad.add i) = some u from fun ad ha i u hu => by
              have h1 := hBW.trans (h.mono hszW)
              cases ha
              rw [add_at]
              unfold ints at hu
              rw [List.getElem?_map] at hu
              cases hy' : (M.drop j)[i]? with
              | none => rw [hy'] at hu; cases hu
              | some z =>
                rw [hy'] at hu
                rw [← Option.some.inj hu]
                rw [List.getElem?_drop] at hy'
                have hjl' : j + i < M.length := by
                  rcases Nat.lt_or_ge (j + i) M.length with h | h
                  · exact h
                  · rw [List.getElem?_eq_none h] at hy'; cases hy'
                rw [show o2 = j from by rw [ho2, if_neg (by omega), Nat.zero_add]]
                exact (h1.cell (p := ⟨g0, j + i, none⟩) hg0b).trans (HCell.out (j + i) z hy')
            have HRC := Lib.hid (show (((W.alloc (.cells #[.int .i64 p.sec] 3)).alloc (.cells #[] 3)).drew).ownsRow W.heap.size 3 1 (.slice (some ⟨W.heap.size + 1, 0, none⟩) 0 0) 0 [] from by
              have h := World.ownsRow_made (base := W.heap.size) (e := 3) (size := 1) (W.alloc (.cells #[.int .i64 p.sec] 3)) #[] 0 (by simp) (Nat.zero_le _) rfl
              have e : (W.alloc (.cells #[.int .i64 p.sec] 3)).heap.size = W.heap.size + 1 := by simp
              rw [e] at h
              exact h)
            have hd0 : Below W.heap.size W W.drew := (Below.refl _ _).drew
            have hj0 : (0 : Int) ≤ (j : Int) := by omega
            have hlT : (ints (M.take j)).length = j * 1 := by rw [ints_len, List.length_take]; omega
            have hlD : (ints (M.drop j)).length = (M.length - j) * 1 := by rw [ints_len, List.length_drop]; omega
            have HlT := Lib.hid hlT
            have HlD := Lib.hid hlD
            obtain ⟨y1, y2⟩ := HS.out W (Below.refl _ _)
            clear hBW hbcw ys ho2 hlT hlD t1 t2 hge
            go_region_held3 (fun V => V.cell? ⟨b, 1, none⟩ = some (.slice (some ⟨g, 0, none⟩) x.l.length c) ∧ V.cell? ⟨g, k * 9 + 1, none⟩ = some (.int .i64 p.sec))
              (first | exact HS.out _ hbe3 | exact HS.out _ hbe2 | exact HS.out _ (hbe1.alloc hbe1.size _) | exact HS.out _ hbe1 | exact HS.out _ ((hd0.alloc hd0.size _).alloc (by simp) _) | exact HS.out _ (hd0.alloc hd0.size _) | exact HS.out _ hd0)
              (first
                | (refine step_append_some rfl (.tmp 64) (.tmp 67) 28 rfl W.heap.size 3 i0 (.int .i64 0) 1 8 Try.underlying28 hi0 hz0 hz1 hz2 (by rfl) (by decide) _ 0 0 [] (by rfl) (by first | exact World.ownsRow_made W.drew #[] 0 (Nat.le_refl _) (Nat.zero_le _) rfl | exact World.ownsRow.alloc (World.ownsRow_made W.drew #[] 0 (Nat.le_refl _) (Nat.zero_le _) rfl) _ | exact HRC.out) (some ⟨g0, 0, none⟩) j c0 (ints (M.take j)) (by rfl) HlT.out (fun h => by cases h) (HNT.out _ (by first | exact hd0.alloc hd0.size _ | exact (hd0.alloc hd0.size _).alloc (by simp) _)) ints_one j (by omega) (by simp only [maxLen]; omega) (by omega) (by simp; try omega) ?_
                   intro g1 cap1 wa hown1 hgrow1 hat1 hlt1
                   rw [List.nil_append] at hown1
                   have hbe1 : Below W.heap.size W wa := by first | exact (hd0.alloc hd0.size _).grown hgrow1 (by simp) (fun j hj => by have e := Option.some.inj hj; (try simp at e); omega) | exact ((hd0.alloc hd0.size _).alloc (by simp) _).grown hgrow1 (by simp; omega) (fun j hj => by have e := Option.some.inj hj; (try simp at e); omega)
                   first
                     | have hC1 := grown_new (k := W.heap.size + 1) hgrow1 (by simp <;> omega) (by simp <;> omega) (fun ad h j u hu => one_cells (W.drew.alloc (.cells #[] 3)) p.sec ad (by simpa using h) j u hu)
                     | have hC1 := grown_new (k := W.heap.size) hgrow1 (by simp <;> omega) (by simp <;> omega) (fun ad h j u hu => (((Below.refl _ _).alloc (Nat.le_refl _) (.cells #[] 3)).cell (p := ad.add j) (by cases h; rw [add_block]; simp)).trans (one_cells W.drew p.sec ad h j u hu))
                     | skip)
                | (refine step_append_some rfl (.tmp 68) (.tmp 77) 28 rfl W.heap.size 3 i0 (.int .i64 0) 1 8 Try.underlying28 hi0 hz0 hz1 hz2 (by rfl) (by decide) g1 cap1 j (ints (M.take j)) (by rfl) (by first | exact hown1 | exact World.ownsRow.alloc hown1 _) (some ⟨_, 0, none⟩) 1 1 (ints [p.sec]) (by rfl) (by rfl) (fun h => by cases h) (by first | exact hC1 | exact one_cells wa p.sec) ints_one (j + 1) rfl (by simp only [maxLen]; omega) (by omega) (by have := hbe1.size; first | omega | (simp; omega)) ?_
                   intro g2 cap2 wb hown2 hgrow2 hat2 hlt2
                   have hg1b : W.heap.size ≤ g1 := (World.ownsRow.lt hown1 g1 rfl).1
                   have hbe2 : Below W.heap.size W wb := by first | exact hbe1.grown hgrow2 hbe1.size (fun j hj => by have e := Option.some.inj hj; omega) | exact (hbe1.alloc hbe1.size _).grown hgrow2 (by have := hbe1.size; simp; omega) (fun j hj => by have e := Option.some.inj hj; omega))
                | (refine step_append_some rfl (.tmp 78) (.tmp 81) 28 rfl W.heap.size 3 i0 (.int .i64 0) 1 8 Try.underlying28 hi0 hz0 hz1 hz2 (by rfl) (by decide) g2 cap2 (j + 1) (ints (M.take j) ++ ints [p.sec]) (by rfl) hown2 (some ⟨g0, o2, none⟩) (M.length - j) (c0 - j) (ints (M.drop j)) (by rfl) HlD.out (fun h => by cases h) (HND.out _ hbe2) ints_one (j + 1 + (M.length - j)) rfl (by simp only [maxLen]; omega) (by omega) hbe2.size ?_
                   intro g3 cap3 wc hown3 hgrow3 hat3 hlt3
                   have hg2b : W.heap.size ≤ g2 := (World.ownsRow.lt hown2 g2 rfl).1
                   have hbe3 : Below W.heap.size W wc := hbe2.grown hgrow3 hbe2.size (fun j hj => by have e := Option.some.inj hj; omega)))
            all_goals
              have hR3 : Built W.heap.size wc (.slice (some ⟨g3, 0, none⟩) (j + 1 + (M.length - j)) cap3) (insS M p.sec) := by
                unfold Built
                rw [← ins_ints M p.sec j HP.out HN.out, ins_len2 M p.sec j hj HP.out HN.out]
                exact hown3
              have HR3 := Lib.hid (Built.mono (B' := w.heap.size) hR3 (by omega))
              have HB3 := Lib.hid (HB.out.trans ((HBW.out.trans (hbe3.mono hszW)).mono hsz))
              have HLn := Lib.hid (ins_len2 M p.sec j hj HP.out HN.out)
              clear hown1 hgrow1 hat1 hown2 hgrow2 hat2 hown3 hgrow3 hat3 hbe1 hbe2 hbe3 hR3
              go_wp2
              go_roundw
              case rel => exact ⟨k + 1, by omega, by go_num, ⟨_, _, by rw [HOn.out, HLn.out]⟩, by rw [HOn.out]; exact HR3.out, HB3.out⟩
              case measure => simp [intOf]; omega
    · obtain rfl : k = x.l.length := by omega
      rw [secsK_all] at HO
      clear hO hbel
      go_wp2
      go_ret
      exact ⟨_, rfl, HO.out, HB.out⟩
end Go.Proofs.Ytmkfaibjjbgbbaa
namespace Go.Proofs.Ytmkfaibjjbgbbaa
set_option linter.unusedVariables false

theorem writeG_markL : ∀ (L : List Int) (y : G), (writeG y L).1 = 0 → (writeG y L).2 = markL y L := by
  intro L
  induction L with
  | nil => intro y _; rfl
  | cons k r ih =>
    intro y h
    have e : writeG y (k :: r) = if (wr1 y k).1 = 0 then writeG (wr1 y k).2 r else ((wr1 y k).1, y) := rfl
    rw [e] at h ⊢
    split at h
    · rename_i h0
      rw [if_pos h0]
      have : (wr1 y k).2 = mark y k := by
        unfold wr1 at h0 ⊢
        cases hf : y.find k with
        | none => rw [hf] at h0; cases h0
        | some p =>
          rw [hf] at h0
          dsimp only at h0 ⊢
          split at h0
          · cases h0
          · rename_i hc
            rw [if_neg hc]
      rw [this] at h ⊢
      exact ih _ h
    · rename_i h0
      exact absurd h h0
theorem un_of_mark {y : G} {k : Int} {p : Pt} (hp : p ∈ (mark y k).l) (hw : p.written = false) : p ∈ y.l ∧ p.id ≠ k := by
  obtain ⟨q, hq, rfl⟩ := List.mem_map.1 hp
  split at hw
  · cases hw
  · rename_i h
    rw [if_neg h]
    exact ⟨hq, h⟩
theorem un_of_markL : ∀ (L : List Int) (y : G) {p : Pt}, p ∈ (markL y L).l → p.written = false → p ∈ y.l ∧ p.id ∉ L := by
  intro L
  induction L with
  | nil => intro y p hp _; exact ⟨hp, by simp⟩
  | cons k r ih =>
    intro y p hp hw
    obtain ⟨h1, h2⟩ := ih (mark y k) hp hw
    obtain ⟨h3, h4⟩ := un_of_mark h1 hw
    exact ⟨h3, by simp [h4, h2]⟩
theorem un_of_step {y : G} (hy : Rise y.l) {s : Int} {p : Pt} (hp : p ∈ (writeG y (readyG y s)).2.l) (hw : p.written = false) : p ∈ y.l ∧ p.id ∉ readyG y s := by
  obtain ⟨r1, -⟩ := ready_run hy s
  rw [writeG_markL _ _ r1] at hp
  exact un_of_markL _ _ hp hw
theorem un_of_carry : ∀ (S : List Int) (y : G), Rise y.l → ∀ p ∈ (carryW y S).2.l, p.written = false → p ∈ y.l := by
  intro S
  induction S with
  | nil => intro y _ p hp _; exact hp
  | cons s S ih =>
    intro y hy p hp hw
    have h := ih _ (ready_run hy s).2.1 p hp hw
    exact (un_of_step hy h hw).1
theorem ids_un {x y : G} (h : y.l.map Pt.un = x.l.map Pt.un) {p : Pt} (hp : p ∈ y.l) : ∃ q ∈ x.l, q.un = p.un := by
  have h1 : p.un ∈ x.l.map Pt.un := by rw [← h]; exact List.mem_map.2 ⟨p, hp, rfl⟩
  obtain ⟨q, hq, e⟩ := List.mem_map.1 h1
  exact ⟨q, hq, e⟩
theorem un_id {p q : Pt} (h : q.un = p.un) : q.id = p.id := show q.un.id = p.un.id from by rw [h]
/-- What is carried out is in the graph. -/
theorem carry_ids : ∀ (S : List Int) (y : G), Rise y.l → ∀ k ∈ (carryW y S).1, ∃ p ∈ y.l, p.id = k := by
  intro S
  induction S with
  | nil => intro y _ k hk; cases hk
  | cons s S ih =>
    intro y hy k hk
    have hk' : k ∈ readyG y s ++ (carryW (writeG y (readyG y s)).2 S).1 := hk
    rcases List.mem_append.1 hk' with h | h
    · unfold readyG at h
      obtain ⟨p, hp, rfl⟩ := List.mem_map.1 h
      have hmm := (rdy_mem (x := y) (openL y s) ([], []) (· ∈ y.l) (fun q h => by cases h) (fun q h => by cases h) (fun q h => (List.mem_filter.1 h).1)).1 p hp
      exact ⟨p, hmm, rfl⟩
    · obtain ⟨r1, r2, r3, r4, r5⟩ := ready_run hy s
      obtain ⟨p, hp, e⟩ := ih _ r2 k h
      obtain ⟨q, hq, e2⟩ := ids_un r4 hp
      exact ⟨q, hq, (un_id e2).trans e⟩

/-- Who is needed first and is not written is ready, whatever else was written. -/
theorem first_still {x y : G} (hx : Rise x.l) (hy : Rise y.l) (hn : ∀ p ∈ x.l, ∀ k ∈ p.needs, k < p.id) (hun : y.l.map Pt.un = x.l.map Pt.un) (hin : ∀ q ∈ y.l, q.written = false → q ∈ x.l) {ids : List Int} {p : Pt} {r : List Pt} (hp : neededL x.l ids = p :: r) (hpy : p ∈ y.l) (hw : p.written = false) : p.id ∈ readyG y p.sec := by
  have hsub := neededL_sub x.l ids
  have hrise : Rise (p :: r) := by rw [← hp]; exact hx.sublist hsub
  have hpx : p ∈ x.l := hsub.subset (by rw [hp]; simp)
  have least : ∀ q ∈ x.l, depB p q = true → q.id < p.id → False := fun q hq hd hlt => by
    have h1 := needed_closed ids x.l hx p (by rw [hp]; simp) q hq hd hlt
    rw [hp] at h1
    rcases List.mem_cons.1 h1 with h | h
    · rw [h] at hlt; omega
    · have := (List.pairwise_cons.1 hrise).1 q h; omega
  have hO : Rise (openL y p.sec) := hy.filter _
  have hpo : p ∈ openL y p.sec := List.mem_filter.2 ⟨hpy, by simp [openQ, hw]⟩
  obtain ⟨s1, s2, hpart, -⟩ := rdy_spec y _ hO
  rcases hpart p hpo with h | h
  · exact List.mem_map.2 ⟨p, h, rfl⟩
  · rcases rdy_not y _ hO p h with h1 | ⟨q, hq, hlt, hm⟩
    · unfold waitsB at h1
      obtain ⟨k, hk, hf⟩ := List.any_eq_true.1 h1
      cases hfk : y.find k with
      | none => rw [hfk] at hf; cases hf
      | some q =>
        obtain ⟨hqy, hqk⟩ := find_mem hfk
        obtain ⟨q0, hq0, e⟩ := ids_un hun hqy
        have hk0 : q0.id = k := (un_id e).trans hqk
        have hlt := hn p hpx k hk
        exact (least q0 hq0 (by unfold depB; rw [hk0]; simp [hk]) (by omega)).elim
    · obtain ⟨hqy, hqo⟩ := List.mem_filter.1 (s2.subset hq)
      have hqo' : q.sec = p.sec ∧ q.written = false := by simpa [openQ] using hqo
      exact (least q (hin q hqy hqo'.2) (by unfold depB; simp [hw, hqo', hlt, hm]) hlt).elim
theorem first_gone {x : G} (hx : Rise x.l) (hn : ∀ p ∈ x.l, ∀ k ∈ p.needs, k < p.id) {ids : List Int} {p : Pt} {r : List Pt} (hp : neededL x.l ids = p :: r) : ∀ (S : List Int) (y : G), Rise y.l → y.l.map Pt.un = x.l.map Pt.un → (∀ q ∈ y.l, q.written = false → q ∈ x.l) → p.sec ∈ S → ∀ z ∈ (carryW y S).2.l, z.written = false → z.id ≠ p.id := by
  intro S
  induction S with
  | nil => intro y _ _ _ h; cases h
  | cons s S ih =>
    intro y hy hun hin hs z hz hw e
    have hpx : p ∈ x.l := (neededL_sub x.l ids).subset (by rw [hp]; simp)
    obtain ⟨r1, r2, r3, r4, r5⟩ := ready_run hy s
    have hz' : z ∈ (carryW (writeG y (readyG y s)).2 S).2.l := hz
    have h1 := un_of_carry S _ r2 z hz' hw
    obtain ⟨h2, h3⟩ := un_of_step hy h1 hw
    by_cases hsp : s = p.sec
    · have hzp : z = p := id_inj hx (hin z h2 hw) hpx e
      subst hzp
      rw [hsp] at h3
      exact h3 (first_still hx hy hn hun hin hp h2 hw)
    · refine ih _ r2 (r4.trans hun) (fun q hq hqw => hin q (un_of_step hy hq hqw).1 hqw) ?_ z hz' hw e
      rcases List.mem_cons.1 hs with h | h
      · exact absurd h.symm hsp
      · exact h

theorem rise_sub : ∀ (l l' : List Pt), Rise l → Rise l' → (∀ p ∈ l', p ∈ l) → l'.Sublist l := by
  intro l
  induction l with
  | nil =>
    intro l' _ _ h
    cases l' with
    | nil => exact List.Sublist.refl _
    | cons a t => have := h a (by simp); cases this
  | cons a l ih =>
    intro l' hl hl' h
    obtain ⟨h1, h2⟩ := List.pairwise_cons.1 hl
    cases l' with
    | nil => exact List.nil_sublist _
    | cons b t =>
      obtain ⟨k1, k2⟩ := List.pairwise_cons.1 hl'
      rcases List.mem_cons.1 (h b (by simp)) with rfl | hb
      · refine List.Sublist.cons_cons b (ih t h2 k2 fun p hp => ?_)
        rcases List.mem_cons.1 (h p (List.mem_cons_of_mem _ hp)) with rfl | h'
        · have := k1 p hp; omega
        · exact h'
      · refine List.Sublist.cons a (ih (b :: t) h2 hl' fun p hp => ?_)
        rcases List.mem_cons.1 (h p hp) with rfl | h'
        · have hb' := h1 b hb
          rcases List.mem_cons.1 hp with rfl | hp
          · omega
          · have := k1 p hp; omega
        · exact h'
theorem needed_mono (ids : List Int) : ∀ (l' l : List Pt), l'.Sublist l → ∀ p ∈ neededL l' ids, p ∈ neededL l ids := by
  intro l' l h
  have hN : ∀ (a : Pt) (l : List Pt), neededL (a :: l) ids = if ids.contains a.id || (neededL l ids).any (fun q => depB q a) then a :: neededL l ids else neededL l ids := fun _ _ => rfl
  induction h with
  | slnil => intro p hp; exact hp
  | cons a h ih =>
    intro p hp
    rw [hN]
    split
    · exact List.mem_cons_of_mem _ (ih p hp)
    · exact ih p hp
  | cons_cons a h ih =>
    intro p hp
    rw [hN] at hp ⊢
    split at hp
    · rename_i hc
      rw [if_pos (by
        rcases Bool.or_eq_true _ _ |>.mp hc with h1 | h1
        · rw [h1]; rfl
        · obtain ⟨q, hq, hd⟩ := List.any_eq_true.1 h1
          rw [List.any_eq_true.2 ⟨q, ih q hq, hd⟩, Bool.or_true])]
      rcases List.mem_cons.1 hp with rfl | hp
      · simp
      · exact List.mem_cons_of_mem _ (ih p hp)
    · have := ih p hp
      split
      · exact List.mem_cons_of_mem _ this
      · exact this

theorem mem_settle {y : G} {p : Pt} : p ∈ (settleG y fun _ => true).l ↔ p ∈ y.l ∧ p.written = false := by
  unfold settleG
  simp [List.mem_filter]
theorem carry_sub {x : G} (hx : Rise x.l) (S : List Int) : (carryG x S).l.Sublist x.l := by
  have hr := carryW_run S x [] (Run.start hx)
  refine rise_sub _ _ hx (hr.rise.sublist (settle_len _).2.1) fun p hp => ?_
  obtain ⟨h1, h2⟩ := mem_settle.1 (show p ∈ (settleG (carryW x S).2 fun _ => true).l from hp)
  exact un_of_carry S x hx p h1 h2
theorem next_fewer {x : G} (h : Fine x) {ids : List Int} {b : List Int × Bool} (hb : planNext x ids = some b) : (neededL (carryG x b.1).l ids).length < (neededL x.l ids).length := by
  obtain ⟨p, r, hpr⟩ : ∃ p r, neededL x.l ids = p :: r := by
    cases hN : neededL x.l ids with
    | nil =>
      unfold planNext at hb
      rw [if_pos (by unfold neededG; rw [hN]; rfl)] at hb
      cases hb
    | cons p r => exact ⟨p, r, rfl⟩
  have hn : ∀ p ∈ x.l, ∀ k ∈ p.needs, k < p.id := fun p hp => (h.all p hp).2.2.1
  have hpx : p ∈ x.l := (neededL_sub x.l ids).subset (by rw [hpr]; simp)
  have hsub := carry_sub h.rise b.1
  have hnp : p ∉ (carryG x b.1).l := by
    intro hm
    obtain ⟨h1, h2⟩ := mem_settle.1 (show p ∈ (settleG (carryW x b.1).2 fun _ => true).l from hm)
    have hrd := first_still h.rise h.rise hn rfl (fun q hq _ => hq) hpr hpx h2
    have hsS : p.sec ∈ b.1 := by
      unfold planNext at hb
      split at hb
      · cases hb
      · injection hb with hb
        rw [← hb]
        unfold planSecs
        refine List.mem_filter.2 ⟨mem_secsG.2 ⟨p, hpx, h2, rfl⟩, List.any_eq_true.2 ⟨p.id, hrd, ?_⟩⟩
        have hneed : p.id ∈ neededG x ids := by unfold neededG; rw [hpr]; simp
        simpa using hneed
    exact first_gone h.rise hn hpr b.1 x h.rise rfl (fun q hq _ => hq) hsS p h1 h2 rfl
  have hmono := needed_mono ids _ _ hsub
  have hr1 : Rise (neededL (carryG x b.1).l ids) := (h.rise.sublist hsub).sublist (neededL_sub _ _)
  have hnd : (neededL (carryG x b.1).l ids).Nodup := hr1.imp fun h e => by rw [e] at h; omega
  have hle : (neededL (carryG x b.1).l ids).length ≤ r.length := List.Nodup.length_le_of_subset hnd fun q hq => by
    have h1 := hmono q hq
    rw [hpr] at h1
    rcases List.mem_cons.1 h1 with rfl | h1
    · exact absurd ((neededL_sub _ _).subset hq) hnp
    · exact h1
  rw [hpr, List.length_cons]
  omega
theorem batches_few : ∀ (n : Nat) (x : G), Fine x → ∀ ids, (batchesF ids n x).length ≤ (neededG x ids).length := by
  intro n
  induction n with
  | zero => intro x _ ids; exact Nat.zero_le _
  | succ n ih =>
    intro x h ids
    show (match planNext x ids with | none => [] | some b => b :: batchesF ids n (carryG x b.1)).length ≤ _
    cases hp : planNext x ids with
    | none => exact Nat.zero_le _
    | some b =>
      have h1 := ih _ (h.carry b.1) ids
      have h2 := next_fewer h hp
      unfold neededG at h1 ⊢
      rw [List.length_map] at h1 ⊢
      show (batchesF ids n (carryG x b.1)).length + 1 ≤ _
      omega

/-- What is written waits for none that is there. -/
def Due (x : G) : Prop := ∀ p ∈ x.l, p.written = true → waitsB x p = false
def Clean (x y : G) : Prop := ∀ p ∈ y.l, p.written = true → waitsB y p = false ∧ (p ∈ x.l ∨ ∀ q ∈ y.l, q.written = false → q.sec = p.sec → q.id < p.id → meetB q p = false)
theorem Due.clean {x : G} (h : Due x) : Clean x x := fun p hp hw => ⟨h p hp hw, .inl hp⟩
theorem Clean.due {x y : G} (h : Clean x y) : Due y := fun p hp hw => (h p hp hw).1
theorem Clean.wr1 {x y : G} (hy : Rise y.l) (h : Clean x y) (k : Int) : Clean x (wr1 y k).2 := by
  unfold Go.Proofs.Ytmkfaibjjbgbbaa.wr1
  cases hf : y.find k with
  | none => exact h
  | some p =>
    dsimp only
    obtain ⟨hpy, hpk⟩ := find_mem hf
    split
    · exact h
    · rename_i hc
      have hc' : (readyG y p.sec).contains k = true ∧ behindB y p = false := by
        cases h1 : (readyG y p.sec).contains k <;> cases h2 : behindB y p <;> simp_all
      have hO : Rise (openL y p.sec) := hy.filter _
      obtain ⟨s1, s2, hpart, hrd⟩ := rdy_spec y _ hO
      have hpr : p ∈ (rdy y (openL y p.sec)).1 := by
        have h1 := hc'.1
        rw [List.contains_iff_mem] at h1
        unfold readyG at h1
        obtain ⟨q, hq, e⟩ := List.mem_map.1 h1
        have hqy := (List.mem_filter.1 (s1.subset hq)).1
        have e2 := id_inj hy hqy hpy (e.trans hpk.symm)
        subst e2
        exact hq
      intro z hz hw
      obtain ⟨a, ha, rfl⟩ := List.mem_map.1 hz
      by_cases hk : a.id = k
      · have : a = p := id_inj hy ha hpy (hk.trans hpk.symm)
        subst this
        rw [if_pos hk]
        refine ⟨(waits_mark y k a.done).trans (hrd a hpr).1, .inr fun q hq hqw hqs hlt => ?_⟩
        obtain ⟨h1, h2⟩ := un_of_mark hq hqw
        have hb := hc'.2
        unfold behindB at hb
        rw [List.any_eq_false] at hb
        have := hb q (List.mem_filter.2 ⟨h1, by have : q.sec = a.sec := hqs; simp [openQ, hqw, this]⟩)
        have hlt' : q.id < a.id := hlt
        show meetB q a = false
        simpa [hlt'] using this
      · rw [if_neg hk] at hw ⊢
        obtain ⟨h1, h2⟩ := h a ha hw
        refine ⟨(waits_mark y k a).trans h1, h2.imp_right fun h2 q hq hqw => ?_⟩
        exact h2 q (un_of_mark hq hqw).1 hqw
theorem wr1_rise {y : G} (hy : Rise y.l) (k : Int) : Rise (wr1 y k).2.l := by
  unfold wr1
  cases y.find k with
  | none => exact hy
  | some p =>
    dsimp only
    split
    · exact hy
    · exact mark_rise hy k
theorem Clean.writeG {x : G} : ∀ (L : List Int) (y : G), Rise y.l → Clean x y → Clean x (writeG y L).2 := by
  intro L
  induction L with
  | nil => intro y _ h; exact h
  | cons k r ih =>
    intro y hy h
    have e : Go.Proofs.Ytmkfaibjjbgbbaa.writeG y (k :: r) = if (Go.Proofs.Ytmkfaibjjbgbbaa.wr1 y k).1 = 0 then Go.Proofs.Ytmkfaibjjbgbbaa.writeG (Go.Proofs.Ytmkfaibjjbgbbaa.wr1 y k).2 r else ((Go.Proofs.Ytmkfaibjjbgbbaa.wr1 y k).1, y) := rfl
    rw [e]
    split
    · exact ih _ (wr1_rise hy k) (h.wr1 hy k)
    · exact h
theorem Clean.carry {x : G} : ∀ (S : List Int) (y : G), Rise y.l → Clean x y → Clean x (carryW y S).2 := by
  intro S
  induction S with
  | nil => intro y _ h; exact h
  | cons s S ih =>
    intro y hy h
    exact ih _ (ready_run hy s).2.1 (h.writeG _ y hy)
theorem Due.carry {x : G} (S : List Int) : Due (carryG x S) := fun p hp hw => by
  have := (mem_settle.1 (show p ∈ (settleG (carryW x S).2 fun _ => true).l from hp)).2
  rw [this] at hw; cases hw

/-- Who is needed, and why. -/
theorem needed_why (ids : List Int) : ∀ l : List Pt, Rise l → ∀ p ∈ neededL l ids, p.id ∈ ids ∨ ∃ q ∈ neededL l ids, p.id < q.id ∧ depB q p = true := by
  intro l
  induction l with
  | nil => intro _ p hp; cases hp
  | cons a l ih =>
    intro hr p hp
    obtain ⟨h1, h2⟩ := List.pairwise_cons.1 hr
    have hN : neededL (a :: l) ids = if ids.contains a.id || (neededL l ids).any (fun q => depB q a) then a :: neededL l ids else neededL l ids := rfl
    have up : ∀ q ∈ neededL l ids, q ∈ neededL (a :: l) ids := needed_mono ids _ _ (List.sublist_cons_self a l)
    have old : p ∈ neededL l ids → p.id ∈ ids ∨ ∃ q ∈ neededL (a :: l) ids, p.id < q.id ∧ depB q p = true := fun h => by
      rcases ih h2 p h with h | ⟨q, hq, h⟩
      · exact .inl h
      · exact .inr ⟨q, up q hq, h⟩
    have hp' := hp
    rw [hN] at hp'
    split at hp'
    · rename_i hc
      rcases List.mem_cons.1 hp' with rfl | h
      · rcases Bool.or_eq_true _ _ |>.mp hc with h | h
        · exact .inl (by simpa using h)
        · obtain ⟨q, hq, hd⟩ := List.any_eq_true.1 h
          exact .inr ⟨q, up q hq, h1 q ((neededL_sub _ _).subset hq), hd⟩
      · exact old h
    · exact old hp'
theorem needed_of_id (ids : List Int) : ∀ l : List Pt, ∀ p ∈ l, p.id ∈ ids → p ∈ neededL l ids := by
  intro l
  induction l with
  | nil => intro p hp; cases hp
  | cons a l ih =>
    intro p hp hid
    have hN : neededL (a :: l) ids = if ids.contains a.id || (neededL l ids).any (fun q => depB q a) then a :: neededL l ids else neededL l ids := rfl
    rw [hN]
    rcases List.mem_cons.1 hp with rfl | h
    · rw [if_pos (by simp [hid])]; simp
    · have := ih p h hid
      split
      · exact List.mem_cons_of_mem _ this
      · exact this
/-- What stays and was needed still is. -/
theorem needed_stays {x : G} (h : Fine x) (hd : Due x) (S ids : List Int) : ∀ (n : Nat) (p : Pt), p ∈ (carryG x S).l → p ∈ neededL x.l ids → (neededL x.l ids).length ≤ n + ((neededL x.l ids).filter (fun q => decide (q.id ≤ p.id))).length → p ∈ neededL (carryG x S).l ids := by
  have hsub := carry_sub h.rise S
  have hR := h.rise.sublist hsub
  have hrun := carryW_run S x [] (Run.start h.rise)
  have hcl := Clean.carry S x h.rise hd.clean
  have hNR : Rise (neededL x.l ids) := h.rise.sublist (neededL_sub _ _)
  have key : ∀ p q, p ∈ (carryG x S).l → q ∈ neededL x.l ids → p.id < q.id → depB q p = true → q ∈ (carryG x S).l := by
    intro p q hp hq hlt hdep
    obtain ⟨p1, p2⟩ := mem_settle.1 (show p ∈ (settleG (carryW x S).2 fun _ => true).l from hp)
    have hqx := (neededL_sub _ _).subset hq
    obtain ⟨z, hz, e⟩ := ids_un (x := (carryW x S).2) (y := x) hrun.same.symm hqx
    have hid := un_id e
    cases hzw : z.written with
    | false =>
      have hzx := un_of_carry S x h.rise z hz hzw
      have := id_inj h.rise hzx hqx hid
      subst this
      exact mem_settle.2 ⟨hz, hzw⟩
    | true =>
      exfalso
      obtain ⟨c1, c2⟩ := hcl z hz hzw
      unfold depB at hdep
      rcases Bool.or_eq_true _ _ |>.mp hdep with hd1 | hd1
      · have hneeds : z.needs = q.needs := show z.un.needs = q.un.needs from by rw [e]
        unfold waitsB at c1
        rw [List.any_eq_false] at c1
        have hm : p.id ∈ z.needs := by rw [hneeds]; simpa using hd1
        have := c1 p.id hm
        rw [find_id hrun.rise p1] at this
        simp at this
      · have hd2 : q.written = false ∧ p.written = false ∧ p.sec = q.sec ∧ p.id < q.id ∧ meetB p q = true := by
          simpa using hd1
        rcases c2 with c2 | c2
        · have := id_inj h.rise c2 hqx hid
          subst this
          rw [hzw] at hd2
          cases hd2.1
        · have hs : z.sec = q.sec := show z.un.sec = q.un.sec from by rw [e]
          have hm : meetB p z = meetB p q := show meetB p z.un = meetB p q.un from by rw [e]
          have := c2 p p1 p2 (hd2.2.2.1.trans hs.symm) (by omega)
          rw [hm, hd2.2.2.2.2] at this
          cases this
  intro n
  induction n with
  | zero =>
    intro p hp hpn hle
    rcases needed_why ids x.l h.rise p hpn with h1 | ⟨q, hq, hlt, hdep⟩
    · exact needed_of_id ids _ p hp h1
    · exfalso
      have hlt2 : ((neededL x.l ids).filter (fun q => decide (q.id ≤ p.id))).length < (neededL x.l ids).length := by
        have hle2 := List.length_filter_le (fun q : Pt => decide (q.id ≤ p.id)) (neededL x.l ids)
        rcases Nat.lt_or_ge ((neededL x.l ids).filter (fun q => decide (q.id ≤ p.id))).length (neededL x.l ids).length with h | h
        · exact h
        · exfalso
          have := List.length_filter_eq_length_iff.1 (Nat.le_antisymm hle2 h) q hq
          simp at this
          omega
      omega
  | succ n ih =>
    intro p hp hpn hle
    rcases needed_why ids x.l h.rise p hpn with h1 | ⟨q, hq, hlt, hdep⟩
    · exact needed_of_id ids _ p hp h1
    · have hqc := key p q hp hq hlt hdep
      have hmore : ((neededL x.l ids).filter (fun z => decide (z.id ≤ p.id))).length < ((neededL x.l ids).filter (fun z => decide (z.id ≤ q.id))).length := by
        generalize neededL x.l ids = N at *
        have hs1 : ((N.filter fun z => decide (z.id ≤ q.id)).filter fun z => decide (z.id ≤ p.id)) = N.filter fun z => decide (z.id ≤ p.id) := by
          rw [List.filter_filter]
          apply List.filter_congr
          intro z _
          by_cases hz : z.id ≤ p.id
          · have : z.id ≤ q.id := by omega
            simp [hz, this]
          · simp [hz]
        have hm : q ∈ N.filter fun z => decide (z.id ≤ q.id) := List.mem_filter.2 ⟨hq, by simp⟩
        rw [← hs1]
        generalize (N.filter fun z => decide (z.id ≤ q.id)) = M at *
        have hle2 := List.length_filter_le (fun z : Pt => decide (z.id ≤ p.id)) M
        rcases Nat.lt_or_ge (M.filter (fun z => decide (z.id ≤ p.id))).length M.length with h | h
        · exact h
        · exfalso
          have := List.length_filter_eq_length_iff.1 (Nat.le_antisymm hle2 h) q hm
          simp at this
          omega
      have hqn := ih q hqc hq (by omega)
      exact needed_closed ids _ hR q hqn p hp hdep hlt
/-- What comes when batches are carried out in their order. -/
def endG (x : G) : List (List Int × Bool) → G
  | [] => x
  | b :: r => endG (carryG x b.1) r
theorem end_batches (ids : List Int) : ∀ (n : Nat) (x : G), Fine x → Due x → x.l.length + 1 ≤ n → neededG (endG x (batchesF ids n x)) ids = [] ∧ (endG x (batchesF ids n x)).l.Sublist x.l ∧ ∀ k ∈ neededG x ids, (endG x (batchesF ids n x)).find k = none := by
  intro n
  induction n with
  | zero => intro x _ _ h; omega
  | succ n ih =>
    intro x h hd hl
    have e : batchesF ids (n + 1) x = match planNext x ids with | none => [] | some b => b :: batchesF ids n (carryG x b.1) := rfl
    rw [e]
    cases hp : planNext x ids with
    | none =>
      have hN : neededG x ids = [] := by
        unfold planNext at hp
        split at hp
        · rename_i h; exact h
        · cases hp
      show neededG x ids = [] ∧ x.l.Sublist x.l ∧ _
      rw [hN]
      exact ⟨rfl, List.Sublist.refl _, fun k hk => by cases hk⟩
    | some b =>
      have hless := next_less h hp
      obtain ⟨h1, h2, h3⟩ := ih (carryG x b.1) (h.carry b.1) (Due.carry b.1) (by omega)
      show neededG (endG (carryG x b.1) (batchesF ids n (carryG x b.1))) ids = [] ∧ (endG (carryG x b.1) (batchesF ids n (carryG x b.1))).l.Sublist x.l ∧ ∀ k ∈ neededG x ids, (endG (carryG x b.1) (batchesF ids n (carryG x b.1))).find k = none
      have hsub := carry_sub h.rise b.1
      refine ⟨h1, h2.trans hsub, fun k hk => ?_⟩
      cases hf : (endG (carryG x b.1) (batchesF ids n (carryG x b.1))).find k with
      | none => rfl
      | some p =>
        exfalso
        obtain ⟨hpm, hpk⟩ := find_mem hf
        have hpc := h2.subset hpm
        unfold neededG at hk
        obtain ⟨q, hq, hqk⟩ := List.mem_map.1 hk
        have hpx := hsub.subset hpc
        have := id_inj h.rise hpx ((neededL_sub _ _).subset hq) (hpk.trans hqk.symm)
        subst this
        have hstay := needed_stays h hd b.1 ids (neededL x.l ids).length p hpc hq (by omega)
        have := h3 k (by unfold neededG; exact List.mem_map.2 ⟨p, hstay, hpk⟩)
        rw [this] at hf
        cases hf
end Go.Proofs.Ytmkfaibjjbgbbaa
