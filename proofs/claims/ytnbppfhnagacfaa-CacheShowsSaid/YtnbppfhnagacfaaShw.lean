/- CacheShows, the walk. -/
import Derived.Test.YtnbppfhnagacfaaSi
namespace Go.Proofs.Ytnbppfhnagacfaa
open Go.RowKit
set_option linter.unusedVariables false
attribute [local go_sem ↓] Go.wp_at_zero Go.wp_at_succ

theorem hold_size (a : CA) (i : Int) : (holdR a i).2.size = a.size := by
  unfold holdR
  split
  · rfl
  · cases a.m i with
    | some hd => rfl
    | none => dsimp only; split <;> rfl
theorem put_size (a : CA) (i : Int) (b : List Int) : (putR a i b).2.size = a.size := by
  unfold putR
  split
  · exact hold_size a i
  · exact hold_size a i
theorem force_size (a : CA) (i : Int) (b : List Int) : (forceR a i b).2.size = a.size := by
  unfold forceR
  split
  · split
    · exact hold_size a i
    · exact hold_size a i
  · exact hold_size a i
theorem wr_size (a : CA) (i : Int) : (wrR a i).2.size = a.size := by
  unfold wrR
  cases a.m i with
  | none => rfl
  | some hd => dsimp only; split <;> (try split) <;> rfl
theorem back_size (a : CA) (i : Int) : (backR a i).2.size = a.size := by
  unfold backR
  split
  · exact wr_size a i
  · rfl
theorem syncL_size : ∀ (l : List Int) (a : CA), (syncL l a).2.size = a.size
  | [], a => rfl
  | i :: l, a => by
    unfold syncL
    split
    · rw [syncL_size l, wr_size]
    · exact wr_size a i

theorem key_small (i : Nat) (h : i < 6) : (key (i : Int)).wf = true := by
  rcases (show i = 0 ∨ i = 1 ∨ i = 2 ∨ i = 3 ∨ i = 4 ∨ i = 5 by omega) with rfl | rfl | rfl | rfl | rfl | rfl <;> rfl
set_option maxRecDepth 100000 in
set_option maxHeartbeats 8000000 in
theorem cshows_any (s : Int) (hs : 0 ≤ s ∧ s < 256) (A : Option Addr) (n c : Nat) (l : List ActD) (w : World) (hA : ActsR w A n l) (hnc : n ≤ c) (hc : c ≤ 9223372036854775807) :
    Calls Try.prog 3 #[.int .u8 s, .slice A n c] w fun e w' => e = .returned (.bool true) ∧ Below w.heap.size w w' := by
  have HA := Lib.hid hA
  clear hA
  go_enter Try.func3, Try.ntmps3
  go_wp2_with fail
  refine (works_any w).mono ?_
  rintro e w1 ⟨rfl, hb1⟩
  have HB1 := Lib.hid hb1
  clear hb1
  go_wp2_with fail
  refine (newD_any 6 none w1 (by decide) (by decide)).mono ?_
  rintro e w2 ⟨d, rfl, hD2, hb2⟩
  have HD2 := Lib.hid hD2
  have HB2 := Lib.hid (HB1.out.trans (hb2.mono HB1.out.size))
  have hs1 := HB1.out.size
  clear hb2 hD2
  go_wp2_with fail
  refine (newC_any (s := none) (1 + s % 8) w2 HD2.out trivial (fun s h => by cases h) (fun g h => by cases h) (by omega) (by omega)).mono ?_
  rintro e w3 ⟨ca, rfl, hS3, hb3⟩
  have HB3 := Lib.hid (HB2.out.trans (hb3.mono HB2.out.size))
  have HF := Lib.hid (show ∀ j, grow (grow (fun _ => False) w1 w2) w2 w3 j → w.heap.size ≤ j ∧ j < w3.heap.size from fun j hj => by
    have := HB2.out.size
    have := hb3.size
    rcases hj with (hj | hj) | hj
    · exact hj.elim
    · omega
    · omega)
  have HS3 := Lib.hid hS3
  have HG0 := Lib.hid (Good.fresh (size := 1 + s % 8) ⟨by omega, by omega⟩)
  clear hS3 hb3 HD2 HB1 HB2 hs1
  generalize grow (grow (fun _ => False) w1 w2) w2 w3 = F at *
  go_upto_region 8 with (first | (refine wl_store33 (there33 _) _ _ rfl rfl rfl rfl ?_))
  obtain ⟨w4, hw4, hb4, hl4, hs4⟩ := last_at w3
  rw [← hw4]
  obtain ⟨lb, hlb⟩ : ∃ lb, lb = w3.heap.size := ⟨_, rfl⟩
  rw [← hlb] at hl4 ⊢
  have HHm := Lib.hid (show Home F w w4 lb from
    { bel := HB3.out.trans (hb4.mono HB3.out.size)
      lo := fun j hj => (HF.out j hj).1
      hi := fun j hj => by have := (HF.out j hj).2; omega
      lbl := by have := HB3.out.size; omega
      lbh := by omega
      lbF := fun e => by have := (HF.out lb e).2; omega })
  have HSI := Lib.hid (show SI F w4 w4 ca d lb s 0 from by
    have hT := Turn.of_below (S := fun _ => False) hb4
    refine ⟨freshC (1 + s % 8) (freshD 6) none, fun _ => 0, L0, rfl, ?_, ?_, hl4, Turn.refl _ _⟩
    · rw [lst0]; exact HG0.out
    · exact (HS3.out.turn hT (fun _ _ => id) fun _ _ => id).mono (fun j hj => .inl hj) (fun j hj => by
        rcases hj with hj | hj
        · have := (HF.out j hj).2; omega
        · exact hj.2) fun g hg => by cases hg)
  clear hw4 hb4 hl4 hlb HS3 HF HB3 HG0 hs4
  go_wp2_with fail
  go_loopw [10] (fun i wr => ∃ k : Nat, k ≤ n ∧ k ≤ 80 ∧ i = .int .i64 k ∧ Hid (SI F w4 wr ca d lb s k)) (fun i _ => n - (intOf i).toNat)
  case atStart => exact ⟨0, Nat.zero_le _, by omega, rfl, HSI⟩
  case round =>
    clear HSI
    rename World => wr
    obtain ⟨k, hk, hk80, rfl, hSI⟩ := hrel
    by_cases hlt : k < n ∧ k < 80
    · obtain ⟨hlt, hlt80⟩ := hlt
      obtain ⟨x, hx⟩ : ∃ x, l[k]? = some x := ⟨_, List.getElem?_eq_getElem (by rw [HA.out.1]; exact hlt)⟩
      obtain ⟨hxb, hxw, gb, o, eA, hgb, hrg⟩ := HA.out.2 k x hx
      subst eA
      obtain ⟨a, hp, L, hsz, hG, hSt, hL, hT⟩ := hSI.out
      have HBr := Lib.hid (HHm.out.below hT)
      have HRg := Lib.hid (show wr.rangeAt gb (o + k * 66) x.cells from fun j v hv => (HBr.out.cell (p := ⟨gb, o + k * 66 + j, none⟩) hgb).trans (hrg j v hv))
      have HG := Lib.hid hG
      have HSt := Lib.hid hSt
      have HL := Lib.hid hL
      have HT := Lib.hid hT
      have hsr := hT.size
      have hi1 : (0 : Int) ≤ (k : Int) := by omega
      have hi2 : (k : Int) < (n : Int) := by omega
      clear hG hSt hL hT hx hrg hSI
      go_upto_region 12 with (first | (refine wl_load35 HRg hxb _ rfl rfl rfl ?_) | (refine wl_store35 (there35 _) hxb _ _ rfl rfl rfl rfl ?_))
      obtain ⟨w5, hw5, hb5, hx5, hs5⟩ := act_at wr x hxb
      rw [← hw5]
      obtain ⟨b5, hb5e⟩ : ∃ b5, b5 = wr.heap.size := ⟨_, rfl⟩
      rw [← hb5e] at hx5 ⊢
      have HX5 := Lib.hid hx5
      have hT5 := Turn.of_below (S := fun _ => False) hb5
      have HS5 := Lib.hid (HSt.out.turn hT5 (fun _ _ => id) fun _ _ => id)
      have HL5 := Lib.hid (HL.out.turn hT5 id)
      have HT5 := Lib.hid (HT.out.trans hT5 fun j hj e => e.elim)
      have hb5F : ¬ (grow F w4 wr b5 ∨ (none : Option Nat) = some b5) := fun e => by
        rcases e with (e | e) | e
        · have := HHm.out.hi b5 e; omega
        · omega
        · cases e
      have hb5l : ¬ b5 = lb := by have := HHm.out.lbh; omega
      have c50 : w5.cell? ⟨b5, 0, none⟩ = some (.int .i64 x.dn) := hx5.cell 0
      have c51 : w5.cell? ⟨b5, 1, none⟩ = some (.int .i64 x.at_) := hx5.cell 1
      have hs5' : wr.heap.size ≤ w5.heap.size := by omega
      clear hw5 hb5 hx5 hT5 HSt HL HT HRg HBr
      clear hb5e
      go_wp2_with fail
      refine (among_any x.at_ 6 w5 (by decide) (by decide)).mono ?_
      rintro e w6 ⟨rfl, rfl⟩
      obtain ⟨hi6a, hi6b⟩ := among_bd x.at_ 6 (by decide)
      generalize amongF x.at_ 6 = ii at *
      obtain ⟨i, rfl⟩ : ∃ i : Nat, ii = i := ⟨ii.toNat, by omega⟩
      have hi6 : i < 6 := by omega
      go_wp2_with fail
      refine (among_any x.dn 14 w6 (by decide) (by decide)).mono ?_
      rintro e w7 ⟨rfl, rfl⟩
      generalize amongF x.dn 14 = v at *
      clear c50 c51
      have hkey : (key (i : Int)).wf = true := key_small i hi6
      have hbd5 := HG.out.rm (by omega)
      have HRm := Lib.hid hbd5
      clear hbd5
      have HRx := Lib.hid (show w7.rangeAt b5 2 (bytes x.b) from fun j v hv => by
        rw [HX5.out.cell (2 + j), List.getElem?_toArray]
        unfold ActD.cells
        rw [List.getElem?_append_right (by simp)]
        simpa using hv)
      by_cases hv345 : v = 3 ∨ v = 4 ∨ v = 5
      · have HP := Lib.hid (HG.out.put hi6a (by omega) x.b)
        have HC := Lib.hid (put_any i x.b w7 HS5.out HRm.out.1 hkey hxb)
        have hps := put_size a i x.b
        rcases hv345 with rfl | rfl | rfl
        all_goals
          go_wp2_with (first | (refine wl_load32 HRx hxb _ rfl rfl rfl ?_))
          rw [HP.out.1] at HC
          refine HC.out.mono ?_
          rintro e w8 ⟨rfl, ⟨hp8, hS8⟩, hT8⟩
          have HL8 := Lib.hid (HL5.out.turn hT8 fun e => by
            rcases e with e | e
            · exact HHm.out.out e
            · cases e)
          have HX8 := Lib.hid (HX5.out.turn hT8 hb5F)
          have HT8 := Lib.hid hT8
          have HS8 := Lib.hid hS8
          have hs8 := hT8.size
          have HRy := Lib.hid (show w8.rangeAt b5 2 (bytes x.b) from fun j v hv => by
            rw [HX8.out.cell (2 + j), List.getElem?_toArray]
            unfold ActD.cells
            rw [List.getElem?_append_right (by simp)]
            simpa using hv)
          have HTh := Lib.hid (HL8.out.there hi6)
          clear hS8 hT8 HC HRx
          go_upto_region 10 with (first | (refine wl_load32 HRy hxb _ rfl rfl rfl ?_) | (refine wl_store32 HTh hxb _ _ rfl rfl rfl rfl ?_))
          have HSI := Lib.hid (show SI F w4 (w8.setCells lb (i * 64) (bytes x.b)) ca d lb s (k + 1) from by
            exact SI.put HHm.out hi6 hxb (HP.out.2.mono (by omega)) (hps.trans hsz) (HHm.out.st hsr hs5' HS8.out HT8.out) HL8.out (Home.tu HT5.out HT8.out))
          generalize w8.setCells lb (i * 64) (bytes x.b) = w9 at *
          go_wp2
          go_roundw
          case rel => exact ⟨k + 1, by omega, by omega, by go_num, HSI⟩
          case measure => simp [intOf]; omega
      have hn3 : (v == 3) = false := by simp; omega
      have hn4 : (v == 4) = false := by simp; omega
      have hn5 : (v == 5) = false := by simp; omega
      clear hv345
      by_cases hv13 : v = 13
      · subst hv13
        have HP := Lib.hid (HG.out.force hi6a (by omega) x.b)
        have HC := Lib.hid (cforce_any i x.b w7 HS5.out HRm.out.1 (by have := HRm.out.2.1; omega) HRm.out.2.2.1 hkey hxb)
        have hps := force_size a i x.b
        clear hn3 hn4 hn5
        go_wp2_with (first | (refine wl_load32 HRx hxb _ rfl rfl rfl ?_))
        rw [HP.out.1] at HC
        refine HC.out.mono ?_
        rintro e w8 ⟨rfl, ⟨hp8, hS8⟩, hT8⟩
        have HL8 := Lib.hid (HL5.out.turn hT8 fun e => by
          rcases e with e | e
          · exact HHm.out.out e
          · cases e)
        have HX8 := Lib.hid (HX5.out.turn hT8 hb5F)
        have HT8 := Lib.hid hT8
        have HS8 := Lib.hid hS8
        have hs8 := hT8.size
        have HRy := Lib.hid (show w8.rangeAt b5 2 (bytes x.b) from fun j v hv => by
          rw [HX8.out.cell (2 + j), List.getElem?_toArray]
          unfold ActD.cells
          rw [List.getElem?_append_right (by simp)]
          simpa using hv)
        have HTh := Lib.hid (HL8.out.there hi6)
        clear hS8 hT8 HC HRx
        go_upto_region 10 with (first | (refine wl_load32 HRy hxb _ rfl rfl rfl ?_) | (refine wl_store32 HTh hxb _ _ rfl rfl rfl rfl ?_))
        have HSI := Lib.hid (show SI F w4 (w8.setCells lb (i * 64) (bytes x.b)) ca d lb s (k + 1) from by
          exact SI.put HHm.out hi6 hxb (HP.out.2.mono (by omega)) (hps.trans hsz) (HHm.out.st hsr hs5' HS8.out HT8.out) HL8.out (Home.tu HT5.out HT8.out))
        generalize w8.setCells lb (i * 64) (bytes x.b) = w9 at *
        go_wp2
        go_roundw
        case rel => exact ⟨k + 1, by omega, by omega, by go_num, HSI⟩
        case measure => simp [intOf]; omega
      have hn13 : (v == 13) = false := by simp; omega
      clear hv13
      by_cases hv8 : v = 8
      · subst hv8
        have HP := Lib.hid (HG.out.back i)
        have HC := Lib.hid (back_any i w7 HS5.out (by have := HRm.out.2.1; omega) HRm.out.1.us hkey)
        have hps := back_size a i
        clear hn3 hn4 hn5 hn13
        go_wp2_with fail
        refine HC.out.mono ?_
        rintro e w8 ⟨rfl, hS8, hT8⟩
        have HSI := Lib.hid (show SI F w4 w8 ca d lb s (k + 1) from
          SI.close HHm.out hsr hs5' hS8 HT5.out hT8 HP.out (by omega) (hps.trans hsz) HL5.out)
        clear hS8 hT8 HC HRx
        go_wp2
        go_roundw
        case rel => exact ⟨k + 1, by omega, by omega, by go_num, HSI⟩
        case measure => simp [intOf]; omega
      have hn8 : (v == 8) = false := by simp; omega
      clear hv8
      by_cases hv9 : v = 9
      · subst hv9
        obtain ⟨p1, p2, p3, p4⟩ := HG.out.sync
        have HC := Lib.hid (sync_any w7 HS5.out HRm.out.2.2.2 (by have := HRm.out.2.1; omega) HRm.out.2.2.1)
        rw [p1] at HC
        have hps : (syncR a).2.size = a.size := syncL_size _ a
        have HP := Lib.hid p2
        have HP3 := Lib.hid p3
        have HP4 := Lib.hid p4
        clear p1 p2 p3 p4 hn3 hn4 hn5 hn13 hn8
        generalize (syncR a).2 = a8 at *
        go_wp2_with fail
        refine HC.out.mono ?_
        rintro e w8 ⟨rfl, hS8, hT8⟩
        have HSI := Lib.hid (show SI F w4 w8 ca d lb s (k + 1) from
          SI.close HHm.out hsr hs5' hS8 HT5.out hT8 HP.out (by omega) (hps.trans hsz) HL5.out)
        have HL8 := Lib.hid (HL5.out.turn hT8 fun e => by
          rcases e with e | e
          · exact HHm.out.out e
          · cases e)
        have HS8 := Lib.hid (HHm.out.st hsr hs5' hS8 hT8)
        have hlb8 := HL8.out.1.lt
        have HCh := Lib.hid (changed_any w8 HS8.out (by have := HP.out.ol; have := HP.out.sz; omega))
        rw [HP3.out] at HCh
        clear hS8 hT8 HC HRx HX5 HS5 HL5 HT5
        go_wp2_with fail
        refine HCh.out.mono ?_
        rintro e w9 ⟨v9, rfl, hr9, -, hb9⟩
        obtain ⟨A9, cp9, rfl⟩ := hr9.sl'
        rw [show (sorted []).length = 0 from by rw [sorted_len]; rfl]
        have HB9 := Lib.hid hb9
        have HL9 := Lib.hid (HL8.out.turn (Turn.of_below (S := fun _ => False) hb9) id)
        have HSI9 := Lib.hid (SI.grown HHm.out HSI.out hb9)
        obtain ⟨Fd, hD8⟩ := HS8.out.disk
        have HD9 := Lib.hid (hD8.below hb9)
        have hs9 := hb9.size
        clear hr9 hb9 hD8 HCh HL8 HSI HS8
        go_wp2_with fail
        go_loopw [13] (fun v wq => ∃ j : Nat, j ≤ 6 ∧ v = .int .i64 j ∧ Hid (Below w9.heap.size w9 wq)) (fun v _ => 6 - (intOf v).toNat)
        case atStart => exact ⟨0, by omega, rfl, Lib.hid (Below.refl _ _)⟩
        case round =>
          rename World => wq
          obtain ⟨j, hj, rfl, hbq⟩ := hrel
          by_cases hj6 : j < 6
          · have hj0 : (0 : Int) ≤ (j : Int) := by omega
            have hj1 : (j : Int) < 6 := by omega
            have HRd := Lib.hid ((HD9.out.turn (Turn.of_below (S := fun _ => False) hbq.out) fun _ _ => id).read j wq (key_small j hj6))
            rw [if_pos (HP.out.is hj0 hj1), if_pos (HP.out.is hj0 hj1), HP4.out j hj0 hj1] at HRd
            obtain ⟨-, hBl⟩ := HL9.out.get hj6
            generalize hbb : lst L j = bb at HRd hBl
            go_wp2_with fail
            refine HRd.out.mono ?_
            rintro e w10 ⟨rfl, hb10⟩
            have HB10 := Lib.hid (hbq.out.trans (hb10.mono hbq.out.size))
            clear hb10 HRd
            go_upto_region 36 with (first | (refine wl_store32 (new_there _) hBl _ _ rfl rfl rfl rfl ?_))
            obtain ⟨w11, hw11, hb11, hv11⟩ := var_at w10 hBl
            change Code.wp _ _ _ _ (World.setCells (World.alloc w10 (.cells (bytes zeroB).toArray 32)) w10.heap.size 0 (bytes bb))
            rw [← hw11]
            obtain ⟨b11, hb11e⟩ : ∃ b11, b11 = w10.heap.size := ⟨_, rfl⟩
            rw [← hb11e] at hv11 ⊢
            have HB11 := Lib.hid (HB10.out.trans (hb11.mono HB10.out.size))
            have hs10 := HB10.out.size
            have hbl11 : ¬ b11 = lb := by omega
            have hL11 := HL9.out.turn (Turn.of_below (S := fun _ => False) HB11.out) id
            have hr11 : w11.drew.rangeAt b11 0 (bytes bb) := hv11.range
            have hq11 : w11.drew.rangeAt lb (j * 64) (bytes bb) := by rw [← hbb]; exact hL11.range hj6
            have hi32 : (Try.prog.info? 32).map (fun i => i.size) = some (bytes bb).length := by rw [bytes_len, hBl]; kernel_rfl
            clear hw11 hb11 hv11 hL11 hb11e hbb
            refine wp_region_held_drew (S := (fun W => W.rangeAt b11 0 (bytes bb) ∧ W.rangeAt lb (j * 64) (bytes bb))) (by kernel_rfl) ⟨hr11, hq11⟩ (fun hHeld => ?_)
            refine' wpAnyH_take (i := 0) (oi := { dst := some 123, op := Op.load 32 (Operand.tmp 14), type := 32, pos := "law.go:126", after := #[], guard := none }) (v := _) rfl (by kernel_rfl) (by kernel_rfl) (by kernel_rfl) (fun _ _ _ h => h) (yieldsIf_load_mid (by rfl) _ _ rfl _ _ rfl _ _ (fun w hw => hw.1) Try.underlying32 rfl hi32) (by assumption) ?_
            (try simp only [Act.put, List.setIfInBounds_toArray, List.set_cons_zero, List.set_cons_succ])
            refine wpAnyH_take (i := 1) (oi := { dst := some 124, op := Op.move (Operand.tmp 13), type := 3, pos := "law.go:126", after := #[], guard := none }) (v := ?_) rfl (by kernel_rfl) (by kernel_rfl) (by kernel_rfl) (fun _ _ _ h => h) (Or.inl ⟨by rfl, ?_⟩) (by assumption) ?_
            rotate_left 1
            · (intro w hSw; (try dsimp only at hSw); go_simp) <;> with_reducible rfl
            (try simp only [Act.put, List.setIfInBounds_toArray, List.set_cons_zero, List.set_cons_succ])
            refine wpAnyH_take (i := 2) (oi := { dst := some 125, op := Op.indexAddr 33 (Operand.tmp 9) (Operand.tmp 124), type := 0, pos := "law.go:126", after := #[{ on := 1, ground := Ground.data }], guard := none }) (v := ?_) rfl (by kernel_rfl) (by kernel_rfl) (by kernel_rfl) (fun _ _ _ h => h) (Or.inl ⟨by rfl, ?_⟩) (by assumption) ?_
            rotate_left 1
            · (intro w hSw; (try dsimp only at hSw); go_simp) <;> with_reducible rfl
            (try simp only [Act.put, List.setIfInBounds_toArray, List.set_cons_zero, List.set_cons_succ])
            refine' wpAnyH_take (i := 3) (oi := { dst := some 126, op := Op.load 32 (Operand.tmp 125), type := 32, pos := "law.go:126", after := #[{ on := 2, ground := Ground.data }], guard := none }) (v := _) rfl (by kernel_rfl) (by kernel_rfl) (by kernel_rfl) (fun _ _ _ h => h) (yieldsIf_load_mid (by rfl) _ _ rfl _ _ rfl _ _ (fun w hw => hw.2) Try.underlying32 rfl hi32) (by assumption) ?_
            (try simp only [Act.put, List.setIfInBounds_toArray, List.set_cons_zero, List.set_cons_succ])
            refine' wpAnyH_take (i := 4) (oi := { dst := some 127, op := Op.binOp BinOp.neq 32 (Operand.tmp 123) (Operand.tmp 126) 32, type := 4, pos := "law.go:126", after := #[{ on := 0, ground := Ground.data }, { on := 3, ground := Ground.data }], guard := none }) (v := _) rfl (by kernel_rfl) (by kernel_rfl) (by kernel_rfl) (fun _ _ _ h => h) (yields_same (by rfl) hBl _ _ rfl rfl rfl) (by assumption) ?_
            (try simp only [Act.put, List.setIfInBounds_toArray, List.set_cons_zero, List.set_cons_succ])
            refine wpAnyH_done (by kernel_rfl) ?_ _
            clear hHeld hr11 hq11
            have HB12 := Lib.hid (show Below w9.heap.size w9 w11.drew from HB11.out.drew)
            go_wp2
            go_roundw
            case rel => exact ⟨j + 1, by omega, by go_num, HB12⟩
            case measure => simp [intOf]; omega
          · obtain rfl : j = 6 := by omega
            have HSIq := Lib.hid (SI.grown HHm.out HSI9.out hbq.out)
            go_wp2
            go_roundw
            case rel => exact ⟨k + 1, by omega, by omega, by go_num, HSIq⟩
            case measure => simp [intOf]; omega
      have hn9 : (v == 9) = false := by simp; omega
      clear hv9
      obtain ⟨hB, hBl⟩ := HL5.out.get hi6
      obtain ⟨g1, g2, hd, hm⟩ := HG.out.hold hi6a (show (i : Int) < 6 by omega)
      have HC := Lib.hid (get_any i w7 HS5.out HRm.out.1 hkey)
      rw [g1, if_pos rfl, g2.getB hm] at HC
      have HP := Lib.hid g2
      have hps := hold_size a i
      clear g1 g2 hm hB
      generalize hbb : lst L i = bb at HC hBl
      go_wp2_with fail
      refine HC.out.mono ?_
      rintro e w8 ⟨rfl, ⟨hp8, hS8⟩, hT8⟩
      have HSI := Lib.hid (show SI F w4 w8 ca d lb s (k + 1) from
        SI.close HHm.out hsr hs5' hS8 HT5.out hT8 HP.out (by omega) (hps.trans hsz) HL5.out)
      have HL8 := Lib.hid (HL5.out.turn hT8 fun e => by
        rcases e with e | e
        · exact HHm.out.out e
        · cases e)
      have hlb8 := HL8.out.1.lt
      clear hS8 hT8 HC HRx
      go_upto_region 15 with (first | (refine wl_store32 (new_there _) hBl _ _ rfl rfl rfl rfl ?_))
      obtain ⟨w9, hw9, hb9, hv9⟩ := var_at w8 hBl
      change Code.wp _ _ _ _ (World.setCells (World.alloc w8 (.cells (bytes zeroB).toArray 32)) w8.heap.size 0 (bytes bb))
      rw [← hw9]
      obtain ⟨b9, hb9e⟩ : ∃ b9, b9 = w8.heap.size := ⟨_, rfl⟩
      rw [← hb9e] at hv9 ⊢
      have hbl9 : ¬ b9 = lb := by omega
      have HSI9 := Lib.hid (SI.grown HHm.out HSI.out hb9)
      have hL9 := HL8.out.turn (Turn.of_below (S := fun _ => False) hb9) id
      have hr9 : w9.drew.rangeAt b9 0 (bytes bb) := hv9.range
      have hq9 : w9.drew.rangeAt lb (i * 64) (bytes bb) := by rw [← hbb]; exact hL9.range hi6
      have hi32 : (Try.prog.info? 32).map (fun i => i.size) = some (bytes bb).length := by rw [bytes_len, hBl]; kernel_rfl
      have hsz64 : (bytes bb).length = 64 := by rw [bytes_len]; exact hBl
      clear hw9 hb9 hv9 hL9 hb9e HSI HL8 hbb
      refine wp_region_held_drew (S := (fun W => W.rangeAt b9 0 (bytes bb) ∧ W.rangeAt lb (i * 64) (bytes bb))) (by kernel_rfl) ⟨hr9, hq9⟩ (fun hHeld => ?_)
      refine' wpAnyH_take (i := 0) (oi := { dst := some 62, op := Op.load 32 (Operand.tmp 16), type := 32, pos := "law.go:131", after := #[], guard := none }) (v := _) rfl (by kernel_rfl) (by kernel_rfl) (by kernel_rfl) (fun _ _ _ h => h) (yieldsIf_load_mid (by rfl) _ _ rfl _ _ rfl _ _ (fun w hw => hw.1) Try.underlying32 rfl hi32) (by assumption) ?_
      (try simp only [Act.put, List.setIfInBounds_toArray, List.set_cons_zero, List.set_cons_succ])
      refine wpAnyH_take (i := 1) (oi := { dst := some 63, op := Op.move (Operand.tmp 12), type := 3, pos := "law.go:131", after := #[], guard := none }) (v := ?_) rfl (by kernel_rfl) (by kernel_rfl) (by kernel_rfl) (fun _ _ _ h => h) (Or.inl ⟨by rfl, ?_⟩) (by assumption) ?_
      rotate_left 1
      · (intro w hSw; (try dsimp only at hSw); go_simp) <;> with_reducible rfl
      (try simp only [Act.put, List.setIfInBounds_toArray, List.set_cons_zero, List.set_cons_succ])
      refine wpAnyH_take (i := 2) (oi := { dst := some 64, op := Op.indexAddr 33 (Operand.tmp 9) (Operand.tmp 63), type := 0, pos := "law.go:131", after := #[{ on := 1, ground := Ground.data }], guard := none }) (v := ?_) rfl (by kernel_rfl) (by kernel_rfl) (by kernel_rfl) (fun _ _ _ h => h) (Or.inl ⟨by rfl, ?_⟩) (by assumption) ?_
      rotate_left 1
      · (intro w hSw; (try dsimp only at hSw); go_simp) <;> with_reducible rfl
      (try simp only [Act.put, List.setIfInBounds_toArray, List.set_cons_zero, List.set_cons_succ])
      refine' wpAnyH_take (i := 3) (oi := { dst := some 65, op := Op.load 32 (Operand.tmp 64), type := 32, pos := "law.go:131", after := #[{ on := 2, ground := Ground.data }], guard := none }) (v := _) rfl (by kernel_rfl) (by kernel_rfl) (by kernel_rfl) (fun _ _ _ h => h) (yieldsIf_load_mid (by rfl) _ _ rfl _ _ rfl _ _ (fun w hw => hw.2) Try.underlying32 rfl hi32) (by assumption) ?_
      (try simp only [Act.put, List.setIfInBounds_toArray, List.set_cons_zero, List.set_cons_succ])
      refine' wpAnyH_take (i := 4) (oi := { dst := some 66, op := Op.binOp BinOp.neq 32 (Operand.tmp 62) (Operand.tmp 65) 32, type := 4, pos := "law.go:131", after := #[{ on := 0, ground := Ground.data }, { on := 3, ground := Ground.data }], guard := none }) (v := _) rfl (by kernel_rfl) (by kernel_rfl) (by kernel_rfl) (fun _ _ _ h => h) (yields_same (by rfl) hBl _ _ rfl rfl rfl) (by assumption) ?_
      (try simp only [Act.put, List.setIfInBounds_toArray, List.set_cons_zero, List.set_cons_succ])
      refine wpAnyH_take (i := 5) (oi := { dst := some 67, op := Op.move (Operand.tmp 66), type := 4, pos := "law.go:131", after := #[{ on := 4, ground := Ground.data }], guard := none }) (v := ?_) rfl (by kernel_rfl) (by kernel_rfl) (by kernel_rfl) (fun _ _ _ h => h) (Or.inl ⟨by rfl, ?_⟩) (by assumption) ?_
      rotate_left 1
      · (intro w hSw; (try dsimp only at hSw); go_simp) <;> with_reducible rfl
      (try simp only [Act.put, List.setIfInBounds_toArray, List.set_cons_zero, List.set_cons_succ])
      refine wpAnyH_take (i := 6) (oi := { dst := some 68, op := Op.move (Operand.tmp 17), type := 25, pos := "law.go:131", after := #[{ on := 5, ground := Ground.guard }], guard := some (5, false) }) (v := ?_) rfl (by kernel_rfl) (by kernel_rfl) (by kernel_rfl) (fun _ _ _ h => h) (Or.inl ⟨by rfl, ?_⟩) (by assumption) ?_
      rotate_left 1
      · (intro w hSw; (try dsimp only at hSw); go_simp) <;> with_reducible rfl
      (try simp only [Act.put, List.setIfInBounds_toArray, List.set_cons_zero, List.set_cons_succ])
      refine wpAnyH_take (i := 7) (oi := { dst := some 69, op := Op.binOp BinOp.neq 25 (Operand.tmp 68) (Operand.const (Value.int IntKind.i64 0)) 25, type := 4, pos := "law.go:131", after := #[{ on := 6, ground := Ground.data }, { on := 5, ground := Ground.guard }], guard := some (5, false) }) (v := ?_) rfl (by kernel_rfl) (by kernel_rfl) (by kernel_rfl) (fun _ _ _ h => h) (Or.inl ⟨by rfl, ?_⟩) (by assumption) ?_
      rotate_left 1
      · (intro w hSw; (try dsimp only at hSw); go_simp) <;> with_reducible rfl
      (try simp only [Act.put, List.setIfInBounds_toArray, List.set_cons_zero, List.set_cons_succ])
      refine wpAnyH_take (i := 8) (oi := { dst := some 70, op := Op.pick (Operand.tmp 67) (Operand.const (Value.bool true)) (Operand.tmp 69), type := 4, pos := "law.go:131", after := #[{ on := 5, ground := Ground.data }, { on := 7, ground := Ground.data }], guard := none }) (v := ?_) rfl (by kernel_rfl) (by kernel_rfl) (by kernel_rfl) (fun _ _ _ h => h) (Or.inl ⟨by rfl, ?_⟩) (by assumption) ?_
      rotate_left 1
      · (intro w hSw; (try dsimp only at hSw); go_simp) <;> with_reducible rfl
      (try simp only [Act.put, List.setIfInBounds_toArray, List.set_cons_zero, List.set_cons_succ])
      refine wpAnyH_done (by kernel_rfl) ?_ _
      clear hHeld hr9 hq9
      have HSIf := Lib.hid (SI.grown HHm.out HSI9.out ((Below.refl w9.heap.size w9).drew))
      go_wp2
      go_roundw
      case rel => exact ⟨k + 1, by omega, by omega, by go_num, HSIf⟩
      case measure => simp [intOf]; omega
    · obtain ⟨a, hp, L, hsz, hG, hSt, hL, hT⟩ := hSI.out
      have hol := hG.ol
      have hle : decide ((a.os.length : Int) ≤ 1 + s % 8) = true := decide_eq_true (by omega)
      have HHd := Lib.hid (held_any wr hSt (by have := hG.sz; omega))
      have HBr := Lib.hid (HHm.out.below hT)
      clear hG hSt hL hT hSI
      rcases (show k = n ∨ (k < n ∧ k = 80) by omega) with rfl | ⟨hkn, rfl⟩
      all_goals
        go_wp2_with fail
        refine HHd.out.mono ?_
        rintro e w10 ⟨v10, rfl, hr10, -, hb10⟩
        obtain ⟨A10, cp10, rfl⟩ := hr10.sl'
        have HB10 := Lib.hid (HBr.out.trans (hb10.mono HBr.out.size))
        clear hr10 hb10 HHd
        go_wp2
        go_ret
        exact ⟨by first | rfl | simp, HB10.out⟩
end Go.Proofs.Ytnbppfhnagacfaa
