/- package scupperref13: hold. package scupperref13: Get; an element of the row is written. -/
import Derived.Test.YtnbppfhnagacfaaJp3
namespace Go.Proofs.Ytnbppfhnagacfaa
open Go.RowKit
set_option linter.unusedVariables false
attribute [local go_sem ↓] Go.wp_at_zero Go.wp_at_succ

theorem zero91 : Try.zeroCells91 = (oneC 0 hd0).toArray := by rfl
theorem run_build91 (w : World) (i : Int) {b : List Int} (hb : b.length = 64) : (Instr.build 91 #[(0, .int .i64 i), (1, blkV b)]).run Try.prog w = .ok (.agg (oneC i ⟨b, false, 0⟩).toArray) w := by
  have hv : (blkV b).cells.size = 64 := by show (bytes b).toArray.size = 64; simp [bytes, hb]
  have hz : Try.zeroCells91.size = 67 := size91
  have hf : ∀ place : Nat → Option (Nat × Nat), place 0 = some (0, 1) → place 1 = some (1, 64) → Instr.fill place Try.zeroCells91 [(0, .int .i64 i), (1, blkV b)] = some (oneC i ⟨b, false, 0⟩).toArray := by
    intro place h0 h1
    rw [fill_cons h0 (by rfl) (by omega)]
    rw [fill_cons h1 hv (by rw [patch_size]; omega)]
    show some (patch (patch Try.zeroCells91 0 [.int .i64 i]) 1 (bytes b).toArray.toList) = _
    rw [List.toList_toArray]
    congr 1
    have hl : (bytes b).length = 64 := by rw [bytes_len]; exact hb
    have ho : (oneC i ⟨b, false, 0⟩).length = 67 := oneC_len _ _ hb
    apply Array.ext_getElem?
    intro j
    rw [show (oneC i ⟨b, false, 0⟩).toArray[j]? = (oneC i ⟨b, false, 0⟩)[j]? from List.getElem?_toArray]
    rcases Nat.eq_zero_or_pos j with rfl | hj0
    · rw [patch_out (bytes b) _ 1 0 (.inl (by omega))]
      have := patch_in [Value.int .i64 i] Try.zeroCells91 0 0 _ rfl (by omega)
      rw [Nat.add_zero] at this
      rw [this]
      rfl
    · rcases Nat.lt_or_ge j 65 with hj | hj
      · have hj' : j - 1 < (bytes b).length := by omega
        have := patch_in (bytes b) (patch Try.zeroCells91 0 [.int .i64 i]) 1 (j - 1) _ (List.getElem?_eq_getElem hj') (by rw [patch_size]; omega)
        rw [show 1 + (j - 1) = j by omega] at this
        rw [this]
        have h2 := (oneC_at i ⟨b, false, 0⟩ hb).2.2.2 (j - 1) _ (List.getElem?_eq_getElem hj')
        rw [show 1 + (j - 1) = j by omega] at h2
        exact h2.symm
      · rw [patch_out (bytes b) _ 1 j (.inr (by omega)), patch_out [Value.int .i64 i] _ 0 j (.inr (by simp; omega)), zero91, show (oneC 0 hd0).toArray[j]? = (oneC 0 hd0)[j]? from List.getElem?_toArray]
        rcases Nat.lt_or_ge j 67 with h6 | h6
        · have h1 := oneC_at 0 hd0 rfl
          have h2 := oneC_at i ⟨b, false, 0⟩ hb
          rcases (show j = 65 ∨ j = 66 by omega) with rfl | rfl
          · rw [h1.2.1, h2.2.1]; rfl
          · rw [h1.2.2.1, h2.2.2.1]; rfl
        · rw [List.getElem?_eq_none (by rw [oneC_len 0 hd0 rfl]; omega), List.getElem?_eq_none (by omega)]
  unfold Instr.build
  simp only [Sem.run_bind, Try.zeroValue91, Result.andThen_ok, run_underlying Try.underlying91]
  simp [Try.sizeOf32, Try.sizeOf4, Try.sizeOf3, Sem.run_bind]
  rw [show Instr.fill (fun x => [(0, 1), (1, 64), (65, 1), (66, 1)][x]?) (Value.agg Try.zeroCells91).cells [(0, Value.int .i64 i), (1, blkV b)] = _ from hf _ rfl rfl]
  rfl
theorem wl_build91 {ops : Array Oper} {rest : List Oper} {op : Oper} {a : Act} {w : World} {Q : Exit → Act → World → Prop} {b : List Int} (hb : b.length = 64) (i : Int) (x y : Operand) (ho : op.op = .build 91 #[(0, x), (1, y)]) (hgd : op.guard = none)
    (hx : a.eval x = .int .i64 i) (hy : a.eval y = blkV b) (hk : wpList Try.prog ops Q rest (a.put op.dst (.agg (oneC i ⟨b, false, 0⟩).toArray)) w) : wpList Try.prog ops Q (op :: rest) a w :=
  wpList_plain hgd fun _ hK => by
    unfold Oper.wp execOp
    simp only [ho, Sem.run_bind, List.map_toArray, List.map_cons, List.map_nil, hx, hy, run_build91 w i hb, Result.andThen_ok]
    exact hK _ _ hk
def addA (b : CA) (i : Int) : CA := { b with os := i :: b.os, m := updm b.m i ⟨b.x.shows i, false, 0⟩, misses := b.misses + 1 }
def hitA (a : CA) (i : Int) : CA := { a with hits := a.hits + 1, os := i :: a.os.erase i }
theorem hold_hit {a : CA} {i : Int} {hd : Hd} (hi : a.x.is i) (hm : a.m i = some hd) : holdR a i = (0, hitA a i) := by
  unfold holdR
  rw [if_neg (fun e => e hi), hm]
  rfl
theorem hold_miss {a : CA} {i : Int} (hi : a.x.is i) (hm : a.m i = none) : holdR a i = if roomC a = 0 then (0, addA (roomA a) i) else (roomC a, roomA a) := by
  unfold holdR
  rw [if_neg (fun e => e hi), hm]
  rfl
theorem hold_not {a : CA} {i : Int} (hi : ¬ a.x.is i) : holdR a i = (2, a) := by
  unfold holdR
  rw [if_pos hi]
theorem ones_hit {a : CA} {k : Nat} {i : Int} (hn : a.os.Nodup) (hk : a.os[k]? = some i) : ones (hitA a i) = oneA a i :: (ones a).eraseIdx k := by
  have e1 : (ones a).eraseIdx k = (a.os.erase i).map (oneA a) := by
    unfold ones
    rw [List.eraseIdx_eq_take_drop_succ, ← List.map_take, ← List.map_drop, ← List.map_append, ← List.eraseIdx_eq_take_drop_succ, erase_at hn hk]
  rw [e1]
  rfl
theorem ones_add {b : CA} {i : Int} (hi : i ∉ b.os) : ones (addA b i) = oneC i ⟨b.x.shows i, false, 0⟩ :: ones b := by
  unfold ones addA
  show oneC i ((updm b.m i _ i).getD hd0) :: List.map _ b.os = _
  rw [updm_same]
  refine congrArg _ (List.map_congr_left fun q hq => ?_)
  have hne : q ≠ i := fun e => hi (e ▸ hq)
  unfold oneA
  show oneC q ((updm b.m i _ q).getD hd0) = _
  rw [updm_other _ _ hne]
set_option maxRecDepth 100000 in
set_option maxHeartbeats 16000000 in
theorem rhold_any {F : Nat → Prop} {c d g : Nat} {a : CA} (i : Int) (w : World) (h : RSt F w c d g a) (hw : a.x.writes < 1000000) (hus : ∀ s', a.s = some s' → s'.used < 1000000000) (hh : a.hits < 1000000) (hms : a.misses < 1000000) (hol : a.os.length < 1000) :
    Calls Try.prog 60 #[.pointer (some ⟨c, 0, none⟩), .int .i64 i] w fun e w' => e = .returned (.int .i64 (holdR a i).1) ∧ RSt (grow F w w') w' c d g (holdR a i).2 ∧ Turn (fun j => F j ∨ j = g) w w' := by
  obtain ⟨hFl, hgF, hgl, -⟩ := h.lt
  have HFl := Lib.hid hFl
  have HgF := Lib.hid hgF
  have HSt := Lib.hid h
  have HRoom := Lib.hid (rroom_any w h (by omega) hus)
  obtain ⟨s, Fc, Fd, lv, sv, wv, vs, M⟩ := h
  obtain ⟨res, hres⟩ : ∃ r, holdR a i = r := ⟨_, rfl⟩
  rw [hres]
  obtain ⟨A, cp, rfl, hcp, hcm⟩ := M.row.shape
  obtain ⟨gs, cs, rfl⟩ := M.dk.sv
  have c0 := M.blk.cell 0
  have d1 := M.dk.blk.cell 1
  simp at c0 d1
  have HM := Lib.hid M
  have HFn := Lib.hid (rfind_any i w M)
  have hln := M.num
  have hn2 := M.dk.n2
  clear M hFl hgF
  by_cases hi : a.x.is i
  · obtain ⟨hi0, hi1⟩ := hi
    have hi : a.x.is i := ⟨hi0, hi1⟩
    have hd1 : decide (i < 0) = false := decide_eq_false (by omega)
    have hd2 : decide (((a.x.stable.length : Nat) : Int) ≤ i) = false := decide_eq_false (by omega)
    cases hm : a.m i with
    | some hd =>
      have hin : i ∈ a.os := (HM.out.link.iff i).2 (by rw [hm]; rfl)
      obtain ⟨k, hk1, hk2, hk3⟩ := idx_some hin
      rw [hk1] at HFn
      have HRes := Lib.hid (hres.symm.trans (hold_hit hi hm))
      obtain ⟨gl, hA⟩ : ∃ gl, A = some ⟨gl, 0, none⟩ := by
        obtain ⟨gl, cl, hAe, -⟩ := HM.out.row.form (by rw [ones_len]; omega)
        injection hAe with hA _ _
        exact ⟨gl, hA⟩
      subst hA
      have c3 := HM.out.blk.cell 3
      have f3 := HM.out.blk.frozen 3
      simp at c3
      have hcl := HM.out.blk.lt
      have ew : IntKind.i64.wrap (a.hits + 1) = a.hits + 1 := IntWalk.i64_in _ (by omega) |>.trans rfl
      obtain ⟨hb64, -, -⟩ := HM.out.hl i hd hm
      have hT2 : Turn (fun j => j = c) w (w.setCell ⟨c, 3, none⟩ (.int .i64 (a.hits + 1))) := (Turn.refl (fun j => j = c) w).setCell (p := ⟨c, 3, none⟩) (fun _ => rfl) _
      have hlc : ∀ j, (Value.slice (some ⟨gl, 0, none⟩) (ones a).length cp).ownBlock = some j → ¬ j = c := fun j hj e => by
        obtain ⟨cs', hc⟩ := HM.out.row.type j hj
        exact Blk.ne_ hc HM.out.blk (by decide) e
      have HB2 := Lib.hid (HM.out.blk.set_ 3 (.int .i64 (a.hits + 1)))
      have HR2 := Lib.hid (HM.out.row.turn hT2 hlc)
      have HT2 := Lib.hid hT2
      have hx67 := oneC_len i hd hb64
      have hx1 := oneC_one i hd
      have HRg := Lib.hid (show (w.setCell ⟨c, 3, none⟩ (.int .i64 (a.hits + 1))).rangeAt gl (k * 67) (oneC i hd) from HR2.out.range (k := k) (by rw [ones_at hk2, oneA_some hm]))
      have HFr := Lib.hid (front_any (oneC i hd) (k : Int) _ hx67 hx1 ones_one (.inl (by rw [ones_len]; omega)) HB2.out HR2.out (by rw [ones_len]; omega) (fun j hj e => hlc j hj e))
      have hk0 : (0 : Int) ≤ (k : Int) := by omega
      have hk4 : (k : Int) < (a.os.length : Int) := by omega
      have HNd := Lib.hid (show ones (hitA a i) = oneC i hd :: dropAt (ones a) (k : Int) from by
        rw [ones_hit HM.out.link.nd hk2, oneA_some hm]
        unfold dropAt
        rw [if_pos hk0, Int.toNat_natCast])
      have HLk := Lib.hid (show Link (i :: a.os.erase i) a.m from HM.out.link.front hin)
      have hlen : (i :: a.os.erase i).length = a.os.length := by rw [List.length_cons, List.length_erase_of_mem hin]; omega
      clear hT2 hm hres hk1 hk2 hb64
      go_enter Try.func60, Try.ntmps60
      go_wp2_with fail
      refine HFn.out.mono ?_
      rintro e w1 ⟨rfl, rfl⟩
      go_upto_region 6 with (fail)
      generalize w1.setCell ⟨c, 3, none⟩ (.int .i64 (a.hits + 1)) = w2 at *
      have c2 := HB2.out.cell 2
      simp [ones_len] at c2
      go_wp2_with (first | (refine wl_load91 HRg hx67 _ rfl rfl rfl ?_))
      refine HFr.out.mono ?_
      rintro e w3 ⟨rfl, lv', hB3, hR3, hlv, hT3⟩
      have hTT : Turn (fun j => j = c) w1 w3 := HT2.out.trans hT3 fun j _ e => e
      have hT2s := HT2.out.size
      have HF := Lib.hid (show RSt (grow F w1 w3) w3 c d g (hitA a i) ∧ Turn (fun j => F j ∨ j = g) w1 w3 from by
        refine ⟨⟨_, _, _, _, _, _, _, HM.out.goC (a' := hitA a i) (hTT.mono fun j _ e => by rw [e]; exact HM.out.fc) hB3 (by rw [HNd.out]; exact hR3) rfl rfl HLk.out HM.out.hl ⟨by show 0 ≤ a.hits + 1; omega, by show a.hits + 1 ≤ _; omega, hln.2.2.1, hln.2.2.2.1, by show (i :: a.os.erase i).length ≤ 1000; omega⟩ (fun j hj => ?_)⟩, hTT.mono fun j _ e => .inl (by rw [e]; exact HM.out.sub _ (.inl HM.out.fc))⟩
        have := hlv j hj
        exact .inr ⟨by omega, this.2⟩)
      clear hB3 hR3 hlv hT3 hTT HFr HR2 HB2
      go_wp2
      go_ret
      rw [HRes.out]
      exact ⟨rfl, HF.out⟩
    | none =>
      have hin : i ∉ a.os := fun e => by have := (HM.out.link.iff i).1 e; rw [hm] at this; cases this
      rw [idx_neg hin] at HFn
      have HRes := Lib.hid (hres.symm.trans (hold_miss hi hm))
      have HBi := Lib.hid (show (roomA a).x.is i ∧ i ∉ (roomA a).os ∧ (roomA a).m i = none ∧ (roomA a).os.length ≤ a.os.length ∧ (roomA a).misses = a.misses ∧ (roomA a).hits = a.hits ∧ (roomA a).x.writes ≤ a.x.writes + 1 from by
        have hn := room_none (size := a.size) (os := a.os) (x := a.x) (s := a.s) hm
        have hl := room_link (size := a.size) (x := a.x) (s := a.s) HM.out.link
        refine ⟨room_is hi, fun e => ?_, hn, room_os, rfl, rfl, room_writes ..⟩
        have := (hl.iff i).1 e
        rw [hn] at this
        cases this)
      clear hres hm hin
      generalize roomC a = rc at *
      generalize roomA a = b at *
      go_enter Try.func60, Try.ntmps60
      go_wp2_with fail
      refine HFn.out.mono ?_
      rintro e w1 ⟨rfl, rfl⟩
      go_wp2_with fail
      refine HRoom.out.mono ?_
      rintro e w2 ⟨rfl, hS2, hT2⟩
      have HS2 := Lib.hid hS2
      have HT2 := Lib.hid hT2
      have hs2 := hT2.size
      clear hT2 HRoom HFn c0 d1
      by_cases hc : rc = 0
      · subst hc
        rw [if_pos rfl] at HRes
        obtain ⟨s2, Fc2, Fd2, lv2, sv2, wv2, vs2, M2⟩ := hS2
        obtain ⟨hbi, hbo, -, hbl, -, -, hbw⟩ := HBi.out
        have hbml : b.misses < 1000000 := by have := HBi.out.2.2.2.2.1; omega
        have HM2 := Lib.hid M2
        have hn2' := M2.num
        have c4 := M2.blk.cell 4
        have f4 := M2.blk.frozen 4
        simp at c4
        have hcl := M2.blk.lt
        have ew : IntKind.i64.wrap (b.misses + 1) = b.misses + 1 := IntWalk.i64_in _ (by omega) |>.trans rfl
        have hT3 : Turn (fun j => j = c) w2 (w2.setCell ⟨c, 4, none⟩ (.int .i64 (b.misses + 1))) := (Turn.refl (fun j => j = c) w2).setCell (p := ⟨c, 4, none⟩) (fun _ => rfl) _
        have hlc : ∀ j, lv2.ownBlock = some j → ¬ j = c := fun j hj e => by
          obtain ⟨cs', hc⟩ := M2.row.type j hj
          exact Blk.ne_ hc M2.blk (by decide) e
        have hB3 := M2.blk.set_ 4 (.int .i64 (b.misses + 1))
        have hR3 := M2.row.turn hT3 hlc
        have hD3 := M2.dk.turn hT3 fun j hj e => M2.ap c M2.fc (e ▸ hj)
        have HT3 := Lib.hid hT3
        have HB3 := Lib.hid hB3
        have HR3 := Lib.hid hR3
        have HRd := Lib.hid (rread_any i _ hD3 (by omega))
        rw [if_pos hbi, if_pos hbi] at HRd
        have hsl := hD3.shows_len hbi
        have HLc := Lib.hid hlc
        clear M2 hT3 hB3 hR3 hD3 hlc
        obtain ⟨sb, hsb⟩ : ∃ sb, b.x.shows i = sb := ⟨_, rfl⟩
        rw [hsb] at HRd hsl
        have HSb := Lib.hid hsb
        clear hsb
        go_upto_region 12 with (fail)
        generalize w2.setCell ⟨c, 4, none⟩ (.int .i64 (b.misses + 1)) = w3 at *
        have c0 := HB3.out.cell 0
        simp at c0
        go_wp2_with fail
        refine HRd.out.mono ?_
        rintro e w4 ⟨rfl, hb4⟩
        have HB4 := Lib.hid hb4
        clear hb4 HRd
        go_upto_region 13 with (first | (refine wl_store32 (new_there _) hsl _ _ rfl rfl rfl rfl ?_))
        obtain ⟨w5, hw5, hb5, hv5⟩ := var_at w4 hsl
        change Code.wp _ _ _ _ (World.setCells (World.alloc w4 (.cells (bytes zeroB).toArray 32)) w4.heap.size 0 (bytes sb))
        rw [← hw5]
        obtain ⟨b5, hb5e⟩ : ∃ b5, b5 = w4.heap.size := ⟨_, rfl⟩
        rw [← hb5e] at hv5 ⊢
        have HRg := Lib.hid hv5.range
        have HB5 := Lib.hid (show Below w3.heap.size w3 w5 from HB4.out.trans (hb5.mono HB4.out.size))
        have hT35 := Turn.of_below (S := fun _ => False) HB5.out
        have HBk := Lib.hid (HB3.out.turn hT35 id)
        have HRk := Lib.hid (HR3.out.turn hT35 fun _ _ => id)
        have hx67 := oneC_len i ⟨sb, false, 0⟩ hsl
        have hx1 := oneC_one i ⟨sb, false, 0⟩
        have HFr := Lib.hid (front_any (oneC i ⟨sb, false, 0⟩) (-1) w5 hx67 hx1 ones_one (.inr (by omega)) HBk.out HRk.out (by rw [ones_len]; omega) (fun j hj e => HLc.out j hj e))
        clear hw5 hb5 hv5 hb5e hT35 HB4
        go_wp2_with (first | (refine wl_load32 HRg hsl _ rfl rfl rfl ?_) | (refine wl_build91 hsl i _ _ rfl rfl rfl rfl ?_))
        refine HFr.out.mono ?_
        rintro e w6 ⟨rfl, lv', hB6, hR6, hlv, hT6⟩
        have hT26 : Turn (fun j => j = c) w2 w6 := (HT3.out.trans (Turn.of_below (S := fun j => j = c) HB5.out) fun j _ e => e).trans hT6 fun j _ e => e
        have hs3 := HT3.out.size
        have hs5 := HB5.out.size
        have HF := Lib.hid (show RSt (grow F w1 w6) w6 c d g (addA b i) ∧ Turn (fun j => F j ∨ j = g) w1 w6 from by
          have hlk : Link (i :: b.os) (updm b.m i ⟨b.x.shows i, false, 0⟩) := HM2.out.link.add HBi.out.2.2.1 _
          have hM6 := HM2.out.goC (a' := addA b i) (hT26.mono fun j _ e => by rw [e]; exact HM2.out.fc) hB6 (by
              rw [ones_add hbo, HSb.out]
              have e1 : dropAt (ones b) (-1) = ones b := by unfold dropAt; rw [if_neg (by decide)]
              rw [e1] at hR6
              exact hR6) rfl rfl hlk (fun q hq hm => by
              have hm' : updm b.m i _ q = some hq := hm
              by_cases e : q = i
              · rw [e, updm_same] at hm'
                obtain rfl := Option.some.inj hm'
                exact ⟨by show (b.x.shows i).length = 64; rw [HSb.out]; exact hsl, by show (0:Int) ≤ 0; omega, by show (0:Int) ≤ 1000000; decide⟩
              · rw [updm_other _ _ e] at hm'
                exact HM2.out.hl q hq hm') ⟨hn2'.1, hn2'.2.1, by show 0 ≤ b.misses + 1; omega, by show b.misses + 1 ≤ _; omega, by show (i :: b.os).length ≤ 1000; rw [List.length_cons]; omega⟩ (fun j hj => by
              have := hlv j hj
              exact .inr ⟨by omega, this.2⟩)
          exact ⟨⟨_, _, _, _, _, _, _, hM6.chain hs2 hT26.size HFl.out HgF.out hgl⟩, HT2.out.chainG (hT26.mono fun j _ e => .inl (by rw [e]; exact HM2.out.sub _ (.inl HM2.out.fc)))⟩)
        clear hB6 hR6 hlv hT6 hT26 HFr HBk HRk
        go_wp2
        go_ret
        rw [HRes.out]
        exact ⟨rfl, HF.out⟩
      · rw [if_neg hc] at HRes
        have hcn : (rc == 0) = false := by simpa using hc
        clear hS2
        go_wp2
        go_ret
        rw [HRes.out]
        exact ⟨rfl, HS2.out, HT2.out⟩
  · have HRes := Lib.hid (hres.symm.trans (hold_not hi))
    have HF := Lib.hid (show RSt (grow F w w) w c d g a ∧ Turn (fun j => F j ∨ j = g) w w from ⟨HSt.out.same (Turn.refl _ _), Turn.refl _ _⟩)
    clear hres
    by_cases h0 : i < 0
    · have hd1 : decide (i < 0) = true := decide_eq_true h0
      go_enter Try.func60, Try.ntmps60
      go_wp2
      go_ret
      rw [HRes.out]
      exact ⟨rfl, HF.out⟩
    · have hd1 : decide (i < 0) = false := decide_eq_false h0
      have hd2 : decide (((a.x.stable.length : Nat) : Int) ≤ i) = true := decide_eq_true (by
        rcases Int.lt_or_le i a.x.stable.length with h | h
        · exact absurd ⟨by omega, h⟩ hi
        · exact h)
      go_enter Try.func60, Try.ntmps60
      go_wp2
      go_ret
      rw [HRes.out]
      exact ⟨rfl, HF.out⟩
end Go.Proofs.Ytnbppfhnagacfaa
namespace Go.Proofs.Ytnbppfhnagacfaa
open Go.RowKit
set_option linter.unusedVariables false
attribute [local go_sem ↓] Go.wp_at_zero Go.wp_at_succ

theorem setL_at : ∀ (vs : List Value) (q : List Value) (o j : Nat), (setL q o vs)[j]? = if o ≤ j ∧ j < o + vs.length ∧ j < q.length then vs[j - o]? else q[j]?
  | [], q, o, j => by simp [setL]; omega
  | v :: vs, q, o, j => by
    rw [setL, setL_at vs]
    rw [List.length_set, List.length_cons, List.getElem?_set]
    by_cases h : o = j
    · subst h
      rw [if_neg (by omega), if_pos rfl]
      by_cases h2 : o < q.length
      · rw [if_pos h2, if_pos ⟨by omega, by omega, h2⟩, Nat.sub_self]; rfl
      · rw [if_neg h2, if_neg (by omega), List.getElem?_eq_none (by omega)]
    · rw [if_neg h]
      by_cases h2 : o + 1 ≤ j ∧ j < o + 1 + vs.length ∧ j < q.length
      · rw [if_pos h2, if_pos ⟨by omega, by omega, h2.2.2⟩, show j - o = (j - (o + 1)) + 1 by omega, List.getElem?_cons_succ]
      · rw [if_neg h2, if_neg (by omega)]
theorem oneC_put {i : Int} {h : Hd} (hb : h.b.length = 64) {b : List Int} (hl : b.length = 64) (ch : Bool) : (setL (oneC i h) 1 (bytes b)).set 65 (.bool ch) = oneC i ⟨b, ch, h.pins⟩ := by
  have hbl : (bytes b).length = 64 := by rw [bytes_len]; exact hl
  have h1 := oneC_len i h hb
  have h2 := oneC_len i ⟨b, ch, h.pins⟩ hl
  have o1 := oneC_at i h hb
  have o2 := oneC_at i ⟨b, ch, h.pins⟩ hl
  apply List.ext_getElem?
  intro j
  rw [List.getElem?_set, setL_len]
  by_cases h65 : 65 = j
  · subst h65
    rw [if_pos rfl, if_pos (by omega), o2.2.1]
  · rw [if_neg h65, setL_at, hbl]
    by_cases hj : 1 ≤ j ∧ j < 1 + 64 ∧ j < (oneC i h).length
    · rw [if_pos hj]
      have hj1 : j - 1 < (bytes b).length := by omega
      have := o2.2.2.2 (j - 1) _ (List.getElem?_eq_getElem (l := bytes b) hj1)
      rw [show 1 + (j - 1) = j by omega] at this
      rw [this, List.getElem?_eq_getElem hj1]
    · rw [if_neg hj]
      rcases Nat.eq_zero_or_pos j with rfl | h0
      · rw [o1.1, o2.1]
      · rcases Nat.lt_or_ge j 67 with h6 | h6
        · obtain rfl : j = 66 := by omega
          rw [o1.2.2.1, o2.2.2.1]
        · rw [List.getElem?_eq_none (by omega), List.getElem?_eq_none (by omega)]
theorem oneC_ch {i : Int} {h : Hd} (hb : h.b.length = 64) (ch : Bool) : (oneC i h).set 65 (.bool ch) = oneC i ⟨h.b, ch, h.pins⟩ := by
  have hl : (bytes h.b).length = 64 := by rw [bytes_len]; exact hb
  unfold oneC
  rw [List.set_cons_succ, List.set_append_right _ _ (by omega), hl]
  rfl
theorem oneC_pins {i : Int} {h : Hd} (hb : h.b.length = 64) (p : Int) : (oneC i h).set 66 (.int .i64 p) = oneC i ⟨h.b, h.ch, p⟩ := by
  have hl : (bytes h.b).length = 64 := by rw [bytes_len]; exact hb
  unfold oneC
  rw [List.set_cons_succ, List.set_append_right _ _ (by omega), hl]
  rfl
theorem ones_set {a : CA} {k : Nat} {i : Int} {hd : Hd} (hn : a.os.Nodup) (hk : a.os[k]? = some i) : (ones a).set k (oneC i hd) = ones (setA a i hd) := by
  apply List.ext_getElem?
  intro j
  have hkl := (List.getElem?_eq_some_iff.1 hk).1
  rw [List.getElem?_set, ones_len]
  by_cases e : k = j
  · subst e
    rw [if_pos rfl, if_pos hkl, ones_at (a := setA a i hd) hk, oneA_some (a := setA a i hd) (updm_same _ _ _)]
  · rw [if_neg e]
    cases hj : a.os[j]? with
    | none =>
      have := List.getElem?_eq_none_iff.1 hj
      rw [List.getElem?_eq_none (by rw [ones_len]; exact this), List.getElem?_eq_none (by rw [ones_len]; exact this)]
    | some q =>
      have hne : q ≠ i := fun e2 => by
        subst e2
        have hjl := (List.getElem?_eq_some_iff.1 hj).1
        rw [List.getElem?_eq_getElem hkl] at hk
        rw [List.getElem?_eq_getElem hjl] at hj
        have h1 := List.pairwise_iff_getElem.1 hn
        rcases Nat.lt_or_gt_of_ne e with h | h
        · exact h1 k j hkl hjl h (by rw [Option.some.inj hk, Option.some.inj hj])
        · exact h1 j k hjl hkl h (by rw [Option.some.inj hk, Option.some.inj hj])
      rw [ones_at hj, ones_at (a := setA a i hd) hj]
      unfold oneA
      show some (oneC q ((a.m q).getD hd0)) = some (oneC q ((updm a.m i hd q).getD hd0))
      rw [updm_other _ _ hne]
theorem hold_head {a : CA} {i : Int} (h : (holdR a i).1 = 0) (hL : Link a.os a.m) : (holdR a i).2.os[0]? = some i ∧ ∃ hd, (holdR a i).2.m i = some hd := by
  refine ⟨?_, hold_held h hL⟩
  by_cases hi : a.x.is i
  · cases hm : a.m i with
    | some hd => rw [hold_hit hi hm]; rfl
    | none =>
      rw [hold_miss hi hm] at h ⊢
      split at h
      · rename_i hc; rw [if_pos hc]; rfl
      · rename_i hc; exact absurd h hc
  · rw [hold_not hi] at h; cases h
set_option maxRecDepth 100000 in
set_option maxHeartbeats 4000000 in
theorem rget_any {F : Nat → Prop} {c d g : Nat} {a : CA} (i : Int) (w : World) (h : RSt F w c d g a) (hw : a.x.writes < 1000000) (hus : ∀ s', a.s = some s' → s'.used < 1000000000) (hh : a.hits < 1000000) (hms : a.misses < 1000000) (hol : a.os.length < 1000) :
    Calls Try.prog 50 #[.pointer (some ⟨c, 0, none⟩), .int .i64 i] w fun e w' => e = .returned (.tuple #[blkV (if (holdR a i).1 = 0 then getB (holdR a i).2 i else zeroB), .int .i64 (holdR a i).1]) ∧ RSt (grow F w w') w' c d g (holdR a i).2 ∧ Turn (fun j => F j ∨ j = g) w w' := by
  obtain ⟨hFl, hgF, hgl, -⟩ := h.lt
  have HFl := Lib.hid hFl
  have HgF := Lib.hid hgF
  have hlk : Link a.os a.m := by obtain ⟨s, Fc, Fd, lv, sv, wv, vs, M⟩ := h; exact M.link
  obtain ⟨w1, hw1⟩ : ∃ w1, w1 = w.alloc (.cells (bytes zeroB).toArray 32) := ⟨_, rfl⟩
  have hb1 : Below w.heap.size w w1 := by rw [hw1]; exact bel_alloc (Below.refl _ _) _
  have hV1 : Var w1 w.heap.size zeroB := by rw [hw1]; exact Var.new _ zero_len
  have h1 := h.turn (Turn.of_below (S := fun _ => False) hb1) (fun _ _ => id) id
  have HH := Lib.hid (rhold_any i w1 h1 hw hus hh hms hol)
  have HHd := Lib.hid fun (e : (holdR a i).1 = 0) => hold_head e hlk
  have hs1 : w1.heap.size = w.heap.size + 1 := by rw [hw1]; simp
  obtain ⟨zv, hzv⟩ : ∃ z, (if (holdR a i).1 = 0 then getB (holdR a i).2 i else zeroB) = z := ⟨_, rfl⟩
  rw [hzv]
  have HZv := Lib.hid hzv
  clear hzv
  generalize holdR a i = R at *
  obtain ⟨code, a2⟩ := R
  simp only at HH HHd HZv ⊢
  clear h h1 hFl hgF hlk
  go_enter Try.func50, Try.ntmps50
  go_upto_region 1 with (fail)
  change Code.wp _ _ _ _ (World.alloc w (.cells (bytes zeroB).toArray 32))
  rw [← hw1]
  obtain ⟨b1, hb1e⟩ : ∃ b1, b1 = w.heap.size := ⟨_, rfl⟩
  rw [← hb1e] at hV1 ⊢
  have hbe1 : w.heap.size ≤ b1 := by omega
  have hbe2 : b1 < w1.heap.size := by omega
  have HV1 := Lib.hid hV1
  have HB1 := Lib.hid hb1
  have hbF : ¬ (F b1 ∨ b1 = g) := fun e => by
    rcases e with e | e
    · have := HFl.out b1 e; omega
    · omega
  clear hw1 hb1 hV1 hb1e
  go_wp2_with fail
  refine HH.out.mono ?_
  rintro e w2 ⟨rfl, hS2, hT2⟩
  have hs2 := hT2.size
  have HV2 := Lib.hid (HV1.out.turn hT2 hbF)
  have HS2 := Lib.hid hS2
  have HT2 := Lib.hid (show Turn (fun j => F j ∨ j = g) w w2 from (Turn.of_below (S := fun j => F j ∨ j = g) HB1.out).trans hT2 fun _ _ e => e)
  have HTh := Lib.hid HV2.out.there
  have HFin := Lib.hid fun (b : List Int) (hb : b.length = 64) => show Var (w2.setCells b1 0 (bytes b)) b1 b ∧ RSt (grow F w (w2.setCells b1 0 (bytes b))) (w2.setCells b1 0 (bytes b)) c d g a2 ∧ Turn (fun j => F j ∨ j = g) w (w2.setCells b1 0 (bytes b)) from by
    have hT3 : Turn (fun j => j = b1) w2 (w2.setCells b1 0 (bytes b)) := Turn.setCells (S := fun j => j = b1) _ 0 (Turn.refl _ _) fun _ => rfl
    have hs3 : (w2.setCells b1 0 (bytes b)).heap.size = w2.heap.size := cells_size _ _ _ _
    refine ⟨HV2.out.set hb, (HS2.out.turn hT3 (fun j hj e => ?_) (fun e => hbF (.inr e.symm))).mono (fun j hj => hj.imp id fun e => ⟨by omega, by omega⟩) (fun j hj => ?_) (fun hj => ?_), HT2.out.trans hT3 fun j hj e => by exfalso; omega⟩
    · rcases hj with hj | hj
      · exact hbF (.inl (e ▸ hj))
      · omega
    · rcases hj with hj | hj
      · have := HFl.out j hj; omega
      · exact hj.2
    · rcases hj with hj | hj
      · exact HgF.out hj
      · omega
  clear hT2 hS2 HH
  by_cases hc : code = 0
  · subst hc
    obtain ⟨ho0, hd, hm⟩ := HHd.out rfl
    obtain ⟨s2, Fc2, Fd2, lv2, sv2, wv2, vs2, M2⟩ := HS2.out
    have hol2 : 0 < a2.os.length := by
      have := (List.getElem?_eq_some_iff.1 ho0).1
      exact this
    obtain ⟨gl, cl, rfl, -⟩ := M2.row.form (by rw [ones_len]; exact hol2)
    have hb64 := (M2.hl i hd hm).1
    have hgb : zv = hd.b := by rw [← HZv.out, if_pos rfl]; unfold getB; rw [hm]; rfl
    have HRg := Lib.hid (show w2.rangeAt gl 1 (bytes hd.b) from fun j v hv => by
      have := M2.row.cell (k := 0) (j := 1 + j) (ones_at ho0) (by rw [oneA_some hm]; exact (oneC_at i hd hb64).2.2.2 j v hv)
      rw [Nat.zero_mul, Nat.zero_add] at this
      exact this)
    have c2 := M2.blk.cell 2
    simp [ones_len] at c2
    have hl0 : (0 : Int) < (a2.os.length : Int) := by omega
    have HGb := Lib.hid hgb
    clear M2 hm ho0 hgb
    go_wp2_with (first | (refine wl_load32 HRg hb64 _ rfl rfl rfl ?_) | (refine wl_store32 HTh hb64 _ _ rfl rfl rfl rfl ?_))
    have hF := HFin.out hd.b hb64
    refine bodyPost_ret (v := .tuple #[blkV hd.b, .int .i64 0]) (res_blk2 (p := 4) (u := 5) rfl hF.1 rfl rfl) rfl ?_
    rw [HGb.out]
    exact ⟨rfl, hF.2⟩
  · have hF := HFin.out zeroB zero_len
    have HF := Lib.hid hF
    have hcn : (code == 0) = false := by simpa using hc
    have HGb := Lib.hid (show zv = zeroB from by rw [← HZv.out, if_neg hc])
    clear hF
    go_wp2_with (first | (refine wl_store32 (b := zeroB) HTh zero_len _ _ rfl rfl rfl rfl ?_))
    refine bodyPost_ret (v := .tuple #[blkV zeroB, .int .i64 code]) (res_blk2 (p := 4) (u := 5) rfl HF.out.1 rfl rfl) rfl ?_
    rw [HGb.out]
    exact ⟨rfl, HF.out.2⟩
end Go.Proofs.Ytnbppfhnagacfaa
