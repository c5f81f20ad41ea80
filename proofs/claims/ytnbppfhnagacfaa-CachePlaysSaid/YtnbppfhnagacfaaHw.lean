/- package cache: hold, the walk. -/
import Derived.Test.YtnbppfhnagacfaaHold
namespace Go.Proofs.Ytnbppfhnagacfaa
open Go.RowKit
set_option linter.unusedVariables false
attribute [local go_sem ↓] Go.wp_at_zero Go.wp_at_succ

theorem room_cases (size : Int) (os : List Int) (m : Int → Option Hd) (x : Dk) (s : Option Sup) : ((roomR size os m x s).os = os ∧ (roomR size os m x s).m = m ∧ (roomR size os m x s).x = x) ∨ ∃ v, (roomR size os m x s).os = os.erase v ∧ (roomR size os m x s).m = delm m v ∧ ((roomR size os m x s).x = x ∨ ∃ b, (roomR size os m x s).x = x.write v b) := by
  unfold roomR
  split
  · exact .inl ⟨rfl, rfl, rfl⟩
  · unfold roomV
    cases vic os m with
    | none => exact .inl ⟨rfl, rfl, rfl⟩
    | some v =>
      dsimp only
      generalize (m v).getD ⟨[], false, 0⟩ = hd
      by_cases hc : (if hd.ch then codeO x s v else 0) = 0
      · rw [if_pos hc]
        refine .inr ⟨v, rfl, rfl, ?_⟩
        dsimp only
        cases hd.ch with
        | true => exact .inr ⟨_, rfl⟩
        | false => exact .inl rfl
      · rw [if_neg hc]; exact .inl ⟨rfl, rfl, rfl⟩
theorem supO_cases (x : Dk) (s : Option Sup) (i : Int) : supO x s i = s ∨ supO x s i = (useO s).2 := by
  unfold supO
  split
  · exact .inr rfl
  · exact .inl rfl
theorem room_s (size : Int) (os : List Int) (m : Int → Option Hd) (x : Dk) (s : Option Sup) : (roomR size os m x s).s = s ∨ (roomR size os m x s).s = (useO s).2 := by
  unfold roomR
  split
  · exact .inl rfl
  · unfold roomV
    cases vic os m with
    | none => exact .inl rfl
    | some v =>
      dsimp only
      generalize (m v).getD ⟨[], false, 0⟩ = hd
      have h : (if hd.ch then supO x s v else s) = s ∨ (if hd.ch then supO x s v else s) = (useO s).2 := by
        cases hd.ch with
        | true => exact supO_cases x s v
        | false => exact .inl rfl
      by_cases hc : (if hd.ch then codeO x s v else 0) = 0
      · rw [if_pos hc]; exact h
      · rw [if_neg hc]; exact h
theorem use_ok {s : Sup} (h : s.ok) (hu : s.used < 1000000000) : s.use.2.ok := by
  obtain ⟨left, used, gone⟩ := s
  unfold Sup.ok at *
  simp only at h hu
  unfold Sup.use
  split
  · exact h
  · dsimp only
    split <;> omega
theorem useO_ok {s : Option Sup} (h : ∀ s', s = some s' → s'.ok) (hu : ∀ s', s = some s' → s'.used < 1000000000) : ∀ s', (useO s).2 = some s' → s'.ok := by
  intro s' hs
  cases s with
  | none => cases hs
  | some t =>
    obtain rfl : t.use.2 = s' := Option.some.inj hs
    exact use_ok (h t rfl) (hu t rfl)
theorem room_none {size : Int} {os : List Int} {m : Int → Option Hd} {x : Dk} {s : Option Sup} {i : Int} (h : m i = none) : (roomR size os m x s).m i = none := by
  rcases room_cases size os m x s with ⟨-, e, -⟩ | ⟨v, -, e, -⟩
  · rw [e]; exact h
  · rw [e]
    unfold delm
    split
    · rfl
    · exact h
theorem room_link {size : Int} {os : List Int} {m : Int → Option Hd} {x : Dk} {s : Option Sup} (h : Link os m) : Link (roomR size os m x s).os (roomR size os m x s).m := by
  rcases room_cases size os m x s with ⟨e1, e2, -⟩ | ⟨v, e1, e2, -⟩
  · rw [e1, e2]; exact h
  · rw [e1, e2]; exact h.erase _
theorem room_is {size : Int} {os : List Int} {m : Int → Option Hd} {x : Dk} {s : Option Sup} {i : Int} (h : x.is i) : (roomR size os m x s).x.is i := by
  rcases room_cases size os m x s with ⟨-, -, e⟩ | ⟨v, -, -, e | ⟨b, e⟩⟩
  · rw [e]; exact h
  · rw [e]; exact h
  · rw [e]; exact h
theorem room_os {size : Int} {os : List Int} {m : Int → Option Hd} {x : Dk} {s : Option Sup} : (roomR size os m x s).os.length ≤ os.length := by
  rcases room_cases size os m x s with ⟨e, -⟩ | ⟨v, e, -⟩
  · rw [e]; exact Nat.le_refl _
  · rw [e]; exact List.length_erase_le
theorem hd_new {b : List Int} (hb : b.length = 64) : patch (Hd.mk zeroB false 0).cells 0 (bytes b) = (Hd.mk b false 0).cells := by
  have hz : (Hd.mk zeroB false 0).cells.size = 66 := Hd.size _ rfl
  have hs : (Hd.mk b false 0).cells.size = 66 := Hd.size _ hb
  have hl : (bytes b).length = 64 := by rw [bytes_len]; exact hb
  apply Array.ext_getElem?
  intro j
  rcases Nat.lt_or_ge j 64 with hj | hj
  · have hj' : j < (bytes b).length := by omega
    have := patch_in (bytes b) (Hd.mk zeroB false 0).cells 0 j _ (List.getElem?_eq_getElem hj') (by omega)
    rw [Nat.zero_add] at this
    rw [this]
    exact (Hd.byte ⟨b, false, 0⟩ hb j _ (List.getElem?_eq_getElem hj')).symm
  · rw [patch_out _ _ _ _ (by omega)]
    rcases Nat.lt_or_ge j 66 with h6 | h6
    · have h1 := Hd.at64 ⟨zeroB, false, 0⟩ rfl
      have h2 := Hd.at64 ⟨b, false, 0⟩ hb
      rcases (show j = 64 ∨ j = 65 by omega) with rfl | rfl
      · rw [h1.1, h2.1]
      · rw [h1.2, h2.2]
    · rw [Array.getElem?_eq_none (by omega), Array.getElem?_eq_none (by omega)]
set_option maxRecDepth 100000 in
set_option maxHeartbeats 8000000 in
theorem hold_any {F : Nat → Prop} {c d : Nat} {sp : Option Nat} {hp : Int → Nat} {a : CA} (i : Int) (w : World) (h : St F w c d sp hp a) (hk : (key i).wf = true) (hw : a.x.writes < 1000000) (hh : a.hits < 1000000) (hms : a.misses < 1000000) (hol : a.os.length ≤ 1000) (hus : ∀ s', a.s = some s' → s'.used < 1000000000) :
    Calls Try.prog 32 #[.pointer (some ⟨c, 0, none⟩), .int .i64 i] w fun e w' => ∃ p : Nat, e = .returned (.tuple #[if (holdR a i).1 = 0 then .pointer (some ⟨p, 0, none⟩) else .pointer none, .int .i64 (holdR a i).1]) ∧
      (∃ hp', ((holdR a i).1 = 0 → hp' i = p) ∧ St (grow F w w') w' c d sp hp' (holdR a i).2) ∧ Turn (fun j => F j ∨ sp = some j) w w' := by
  obtain ⟨Fc, Fd, ml, ov, M⟩ := h
  have c0 := M.ca.blk.cell 0
  simp at c0
  have HM := Lib.hid M
  have HLn := Lib.hid fun (W : World) (hW : Turn (fun _ => False) w W) => (M.disk.turn hW fun _ _ => id).len W
  by_cases hi : a.x.is i
  · have hi0 := hi.1
    have hi1 := hi.2
    have hd1 : decide (i < 0) = false := decide_eq_false (by omega)
    have hd2 : decide (((a.x.stable.length : Nat) : Int) ≤ i) = false := decide_eq_false (by omega)
    cases hm : a.m i with
    | some hd =>
      have hR : holdR a i = (0, { a with hits := a.hits + 1, os := i :: a.os.erase i }) := by unfold holdR; rw [if_neg (fun e => e hi), hm]
      rw [hR]
      have hlk := M.ca.map.is.look_ok Try.underlying71 (zero75 _) hk
      rw [hm] at hlk
      simp only [Option.map_some, Option.getD_some, Option.isSome_some] at hlk
      have c2 := M.ca.blk.cell 2
      have c4 := M.ca.blk.cell 4
      have f4 := M.ca.blk.frozen 4
      simp at c2 c4
      have hcl := M.ca.blk.lt
      have hio : i ∈ a.os := (M.link.iff i).2 (by rw [hm]; rfl)
      have hhn := M.ca.num
      have ew : IntKind.i64.wrap (a.hits + 1) = a.hits + 1 := IntWalk.i64_in _ (by omega) |>.trans rfl
      clear M hR hm
      go_enter Try.func32, Try.ntmps32
      go_wp2_with fail
      refine (HLn.out _ (Turn.refl _ _)).mono ?_
      rintro e w1 ⟨rfl, rfl⟩
      go_upto_region 15 with (fail)
      obtain ⟨w2, hw2⟩ : ∃ w2, w2 = w1.setCell ⟨c, 4, none⟩ (.int .i64 (a.hits + 1)) := ⟨_, rfl⟩
      have hT2 : Turn (fun j => j = c) w1 w2 := by rw [hw2]; exact (Turn.refl (fun j => j = c) w1).setCell (p := ⟨c, 4, none⟩) (fun _ => rfl) _
      have hC2 := HM.out.ca.hit hh hT2 (by rw [hw2]; exact HM.out.ca.blk.set_ 4 _)
      have HU := Lib.hid (use_any i w2 hC2 hol)
      rw [← hw2]
      have HT2 := Lib.hid hT2
      have HFc := Lib.hid (show ∀ j, Fc j → j < w1.heap.size from HM.out.ca.lt)
      clear hw2 hT2 hC2 hlk c0 c2 c4 f4
      go_wp2_with fail
      refine HU.out.mono ?_
      rintro e w3 ⟨rfl, ⟨ov3, hC3⟩, hT3⟩
      have hs2 := HT2.out.size
      have hs3 := hT3.size
      have hT13 : Turn Fc w1 w3 := (HT2.out.mono fun j _ e => by rw [e]; exact HM.out.ca.fc).trans hT3 fun j _ e => e
      have HS := Lib.hid (show St (grow F w1 w3) w3 c d sp hp { a with hits := a.hits + 1, os := i :: a.os.erase i } ∧ Turn (fun j => F j ∨ sp = some j) w1 w3 from
        ⟨⟨grow Fc w2 w3, Fd, ml, ov3,
          { ca := by
              have hl : (i :: a.os.erase i).length = a.os.length := by rw [List.length_cons, List.length_erase_of_mem hio]; have := List.length_pos_of_mem hio; omega
              show CacheIs _ _ _ _ _ _ _ _ _ _ (i :: a.os.erase i).length _ _
              rw [hl]; exact hC3
            link := HM.out.link.front hio
            disk := HM.out.disk.turn hT13 fun j hj e => HM.out.own.ap j e hj
            own := { sup := HM.out.own.sup.turn hT13 fun g hg e => HM.out.own.spc g hg e
                     ok := HM.out.own.ok
                     ap := fun j hj hd => by
                       rcases hj with hj | hj
                       · exact HM.out.own.ap j hj hd
                       · have := HM.out.disk.lt j hd; omega
                     spc := fun g hg hj => by
                       rcases hj with hj | hj
                       · exact HM.out.own.spc g hg hj
                       · have := HM.out.own.splt g hg; omega
                     spd := HM.out.own.spd
                     splt := fun g hg => by have := HM.out.own.splt g hg; omega }
            sub := fun j hj => by
              rcases hj with (hj | hj) | hj
              · exact .inl (HM.out.sub j (.inl hj))
              · exact .inr ⟨by omega, hj.2⟩
              · exact .inl (HM.out.sub j (.inr hj))
            flt := fun j hj => by
              rcases hj with hj | hj
              · have := HM.out.flt j hj; omega
              · exact hj.2
            spf := fun g hg hj => by
              rcases hj with hj | hj
              · exact HM.out.spf g hg hj
              · have := HM.out.own.splt g hg; omega }⟩, hT13.mono fun j _ e => .inl (HM.out.sub j (.inl e))⟩)
      clear hC3 hT3 hT13 HU HM HLn
      go_wp2
      go_ret2
      exact ⟨hp i, rfl, ⟨hp, (by first | exact fun _ => rfl | rfl), HS.out.1⟩, HS.out.2⟩
    | none =>
      have hR : holdR a i = (if (roomR a.size a.os a.m a.x a.s).code = 0 then (0, { a with os := i :: (roomR a.size a.os a.m a.x a.s).os, m := updm (roomR a.size a.os a.m a.x a.s).m i ⟨(roomR a.size a.os a.m a.x a.s).x.shows i, false, 0⟩, x := (roomR a.size a.os a.m a.x a.s).x, s := (roomR a.size a.os a.m a.x a.s).s, misses := a.misses + 1 }) else ((roomR a.size a.os a.m a.x a.s).code, { a with os := (roomR a.size a.os a.m a.x a.s).os, m := (roomR a.size a.os a.m a.x a.s).m, x := (roomR a.size a.os a.m a.x a.s).x, s := (roomR a.size a.os a.m a.x a.s).s })) := by unfold holdR; rw [if_neg (fun e => e hi), hm]
      rw [hR]
      have hlk := M.ca.map.is.look_ok Try.underlying71 (zero75 _) hk
      rw [hm] at hlk
      simp only [Option.map_none, Option.getD_none, Option.isSome_none] at hlk
      have c2 := M.ca.blk.cell 2
      simp at c2
      have HRm := Lib.hid (room_any w M.ca M.link M.disk M.own (by omega) hol)
      have HRn := Lib.hid (room_none (size := a.size) (os := a.os) (x := a.x) (s := a.s) hm)
      have HRl := Lib.hid (room_link (size := a.size) (x := a.x) (s := a.s) M.link)
      have HRi := Lib.hid (room_is (size := a.size) (os := a.os) (m := a.m) (s := a.s) hi)
      have hRo := room_os (size := a.size) (os := a.os) (m := a.m) (x := a.x) (s := a.s)
      have hOk := Lib.hid (show ∀ s', (roomR a.size a.os a.m a.x a.s).s = some s' → s'.ok from by
        rcases room_s a.size a.os a.m a.x a.s with e | e
        · rw [e]; exact M.own.ok
        · rw [e]; exact useO_ok M.own.ok hus)
      generalize roomR a.size a.os a.m a.x a.s = R at *
      obtain ⟨code, ros, rm, rx, rs⟩ := R
      simp only at HRm HRn HRl HRi hRo hOk
      clear M hR hm
      go_enter Try.func32, Try.ntmps32
      go_wp2_with fail
      refine (HLn.out _ (Turn.refl _ _)).mono ?_
      rintro e w1 ⟨rfl, rfl⟩
      go_wp2_with fail
      refine HRm.out.mono ?_
      rintro e w2 ⟨rfl, ⟨ov2, hC2⟩, hD2, hS2, hT2⟩
      have HC2 := Lib.hid hC2
      have HD2 := Lib.hid hD2
      have HS2 := Lib.hid hS2
      have HT2 := Lib.hid hT2
      have hs2 := hT2.size
      clear hC2 hD2 hS2 hT2 HRm hlk c2
      by_cases hc : code = 0
      · subst hc
        have hno : i ∉ ros := fun e => by have := (HRl.out.iff i).1 e; rw [HRn.out] at this; cases this
        have cx := HC2.out.blk.cell 5
        have fx := HC2.out.blk.frozen 5
        simp at cx
        have hcl := HC2.out.blk.lt
        have hmn := HC2.out.num
        have ew : IntKind.i64.wrap (a.misses + 1) = a.misses + 1 := IntWalk.i64_in _ (by omega) |>.trans rfl
        have hz81 : Try.zeroCells81 = (Hd.mk zeroB false 0).cells := zero81
        go_upto_region 13 with (fail)
        obtain ⟨w5, hw5⟩ : ∃ w5, w5 = (w2.setCell ⟨c, 5, none⟩ (.int .i64 (a.misses + 1))).alloc (.cells (Hd.mk zeroB false 0).cells 81) := ⟨_, rfl⟩
        obtain ⟨nb, hnb⟩ : ∃ nb, nb = w2.heap.size := ⟨_, rfl⟩
        rw [← hw5, ← hnb]
        have hT5 : Turn (fun j => j = c) w2 w5 := by rw [hw5]; exact ((Turn.refl (fun j => j = c) w2).setCell (p := ⟨c, 5, none⟩) (fun _ => rfl) _).alloc _
        have hN5 : Blk w5 nb 81 (Hd.mk zeroB false 0).cells := by
          have h := Blk.new (w2.setCell ⟨c, 5, none⟩ (.int .i64 (a.misses + 1))) 81 (Hd.mk zeroB false 0).cells
          rw [hw5, hnb]
          have e : (w2.setCell ⟨c, 5, none⟩ (.int .i64 (a.misses + 1))).heap.size = w2.heap.size := by simp [World.setCell]
          rw [e] at h
          exact h
        have hB5 : Blk w5 c 73 #[.pointer (some ⟨d, 0, none⟩), .int .i64 a.size, .map (some ml), ov2, .int .i64 a.hits, .int .i64 (a.misses + 1)] := by rw [hw5]; exact (HC2.out.blk.set_ 5 (.int .i64 (a.misses + 1))).alloc _
        have hcw := HM.out.ca.lt c HM.out.ca.fc
        have hD5 := HD2.out.turn hT5 fun j hj e => by
          rcases hj with hj | hj
          · exact HM.out.own.ap c HM.out.ca.fc (e ▸ hj)
          · omega
        have HRd := Lib.hid (hD5.read i w5 hk)
        rw [if_pos HRi.out, if_pos HRi.out] at HRd
        have hsl := hD5.shows_len i
        have HD5 := Lib.hid hD5
        have HT5 := Lib.hid hT5
        have HN5 := Lib.hid hN5
        have HB5 := Lib.hid hB5
        have c05 := hB5.cell 0
        simp at c05
        have hnl : nb < w5.heap.size := hN5.lt
        have hnb2 : w2.heap.size ≤ nb := Nat.le_of_eq hnb.symm
        clear hnb hw5 hT5 hN5 hB5 hD5 cx fx
        go_wp2_with fail
        refine HRd.out.mono ?_
        rintro e w6 ⟨rfl, hb6⟩
        have HN6 := Lib.hid (HN5.out.below hb6 hnl)
        have HB6 := Lib.hid (HB5.out.below hb6 HB5.out.lt)
        have HD6 := Lib.hid (HD5.out.below hb6)
        have HT6 := Lib.hid (HT5.out.trans (Turn.of_below (S := fun _ => False) hb6) fun _ _ e => e.elim)
        have hth : Hid (w6.there nb 0 64) := Lib.hid fun j hj => by
          rw [Nat.zero_add]
          refine ⟨?_, HN6.out.frozen j⟩
          rw [HN6.out.cell j]
          have : (Hd.mk zeroB false 0).cells.size = 66 := Hd.size _ rfl
          simp
          omega
        have hs6 := hb6.size
        clear hb6 HRd HN5 HB5 HD5 HT5 c05
        go_upto_region 14 with (first | (refine wl_store32 hth hsl _ _ rfl rfl rfl rfl ?_))
        obtain ⟨w7, hw7⟩ : ∃ w7, w7 = w6.setCells nb 0 (bytes (rx.shows i)) := ⟨_, rfl⟩
        rw [← hw7]
        have hT7 : Turn (fun j => j = nb) w6 w7 := by rw [hw7]; exact Turn.setCells (S := fun j => j = nb) _ 0 (Turn.refl _ _) fun _ => rfl
        have hN7 : Blk w7 nb 81 (Hd.mk (rx.shows i) false 0).cells := by
          rw [hw7, ← hd_new hsl]
          exact Blk.patch _ _ 0 HN6.out
        have hcn : ¬ c = nb := by have := HC2.out.blk.lt; omega
        have hB7 := HB6.out.turn hT7 hcn
        have hT27 : Turn (fun j => j = c) w2 w7 := HT6.out.trans (hT7.mono (S' := fun j => w2.heap.size ≤ j) fun j _ e => by rw [e]; exact hnb2) fun j hj e => by exfalso; omega
        have hmn2 : ¬ ml = c := fun e => HC2.out.map.is.not_blk HC2.out.blk e
        have hM7 := HC2.out.map.turn hT27 hmn2
        obtain ⟨w8, hup, hM8, hg8⟩ := hM7.store Try.underlying71 (by unfold maxLen; omega) hk (.pointer (some ⟨nb, 0, none⟩)) (by show (rm i).map _ = none; rw [HRn.out]; rfl)
        have hT8 := turn_of_grown hg8
        have hmc : ¬ c = ml := fun e => hmn2 e.symm
        have hmb : ¬ nb = ml := by have := HC2.out.map.is.lt; omega
        have hB8 := hB7.turn hT8 hmc
        have hN8 := hN7.turn hT8 hmb
        have hs7 := hT7.size
        have hs8 := hT8.size
        have hn8 := hN8.lt
        have hT28 : Turn (fun j => j = c ∨ j = ml) w2 w8 := (hT27.mono fun j _ e => .inl e).trans hT8 fun j _ e => .inr e
        have hC8 := HC2.out.addHd (F' := fun j => Fc j ∨ j = nb) (hd := ⟨rx.shows i, false, 0⟩) HRn.out hT28 hB8 hN8 hnb2 hsl hk ⟨Int.le_refl _, by show (0 : Int) ≤ 1000000; decide⟩ (by omega) (by rw [show (a.misses + 1).toNat = a.misses.toNat + 1 by omega]; exact hM8) (fun j hj => .inl hj) (.inr rfl) (fun j hj => by
          rcases hj with hj | hj
          · have := HM.out.ca.lt j hj; have := hT28.size; omega
          · rw [hj]; exact hn8)
        have HU := Lib.hid (use_any i w8 hC8 (by omega))
        have c27 : w7.cell? ⟨c, 2, none⟩ = some (.map (some ml)) := by have := hB7.cell 2; simpa using this
        have HD8 := Lib.hid ((HD6.out.turn hT7 fun j hj e => by
          rcases hj with hj | hj
          · have := HM.out.disk.lt j hj; omega
          · omega).turn hT8 fun j hj e => by
            have h1 := HM.out.ca.lt ml HM.out.ca.fm
            rcases hj with hj | hj
            · exact HM.out.own.ap ml HM.out.ca.fm (e ▸ hj)
            · omega)
        have HT28 := Lib.hid hT28
        have hs28 := hT28.size
        clear hT7 hN7 hB7 hT27 hM7 hM8 hg8 hT8 hB8 hN8 hT28 hC8 hw7 HN6 HB6 HD6 HT6 hth
        go_wp2_with fail
        refine HU.out.mono ?_
        rintro e w9 ⟨rfl, ⟨ov9, hC9⟩, hT9⟩
        have hs9 := hT9.size
        have HC9 := Lib.hid hC9
        have hF9 : ∀ j, j < w2.heap.size → (Fc j ∨ j = nb) → Fc j := fun j hj e => by
          rcases e with e | e
          · exact e
          · omega
        have hT29 : Turn Fc w2 w9 := (HT28.out.mono fun j _ e => by rcases e with e | e; rw [e]; exact HM.out.ca.fc; rw [e]; exact HM.out.ca.fm).trans hT9 fun j hj e => hF9 j hj e
        have HS := Lib.hid (show St (grow F w1 w9) w9 c d sp (fun k => if k = i then nb else hp k) { a with os := i :: ros, m := updm rm i ⟨rx.shows i, false, 0⟩, x := rx, s := rs, misses := a.misses + 1 } ∧ Turn (fun j => F j ∨ sp = some j) w1 w9 from
          ⟨⟨grow (fun j => Fc j ∨ j = nb) w8 w9, grow Fd w1 w2, ml, ov9,
            { ca := by
                have h9 := HC9.out
                rw [List.erase_of_not_mem hno] at h9
                exact h9
              link := HRl.out.add HRn.out _
              disk := HD8.out.turn hT9 fun j hj e => by
                rcases e with e | e
                · rcases hj with hj | hj
                  · exact HM.out.own.ap j e hj
                  · have := HM.out.ca.lt j e; omega
                · rcases hj with hj | hj
                  · have := HM.out.disk.lt j hj; omega
                  · omega
              own := { sup := HS2.out.turn hT29 fun g hg e => HM.out.own.spc g hg e
                       ok := hOk.out
                       ap := fun j hj hd => by
                         rcases hj with (hj | hj) | hj
                         · rcases hd with hd | hd
                           · exact HM.out.own.ap j hj hd
                           · have := HM.out.ca.lt j hj; omega
                         · rcases hd with hd | hd
                           · have := HM.out.disk.lt j hd; omega
                           · omega
                         · rcases hd with hd | hd
                           · have := HM.out.disk.lt j hd; omega
                           · omega
                       spc := fun g hg hj => by
                         have := HM.out.own.splt g hg
                         rcases hj with (hj | hj) | hj
                         · exact HM.out.own.spc g hg hj
                         · omega
                         · omega
                       spd := fun g hg hj => by
                         have := HM.out.own.splt g hg
                         rcases hj with hj | hj
                         · exact HM.out.own.spd g hg hj
                         · omega
                       splt := fun g hg => by have := HM.out.own.splt g hg; omega }
              sub := fun j hj => by
                rcases hj with ((hj | hj) | hj) | hj | hj
                · exact .inl (HM.out.sub j (.inl hj))
                · exact .inr ⟨by omega, by omega⟩
                · exact .inr ⟨by omega, hj.2⟩
                · exact .inl (HM.out.sub j (.inr hj))
                · exact .inr ⟨hj.1, by omega⟩
              flt := fun j hj => by
                rcases hj with hj | hj
                · have := HM.out.flt j hj; omega
                · exact hj.2
              spf := fun g hg hj => by
                rcases hj with hj | hj
                · exact HM.out.spf g hg hj
                · have := HM.out.own.splt g hg; omega }⟩, (HT2.out.mono fun j _ e => by
                  rcases e with e | e | e
                  · exact .inl (HM.out.sub j (.inl e))
                  · exact .inl (HM.out.sub j (.inr e))
                  · exact .inr e).trans hT29 fun j hj e => .inl (HM.out.sub j (.inl e))⟩)
        clear hC9 HC9 hT9 hT29 HU HC2 HD2 HS2 HT2 HM HLn HRl HRn HD8 HT28
        go_wp2
        go_ret2
        first
          | exact ⟨nb, rfl, ⟨_, by simp, HS.out.1⟩, HS.out.2⟩
          | exact ⟨nb, by rw [if_pos rfl]; rfl, ⟨_, fun _ => if_pos rfl, by rw [if_pos rfl]; exact HS.out.1⟩, HS.out.2⟩
      · have hcn : (code == 0) = false := by simpa using hc
        have HS := Lib.hid (show St (grow F w1 w2) w2 c d sp hp { a with os := ros, m := rm, x := rx, s := rs } ∧ Turn (fun j => F j ∨ sp = some j) w1 w2 from
          ⟨⟨Fc, grow Fd w1 w2, ml, ov2,
            { ca := HC2.out
              link := HRl.out
              disk := HD2.out
              own := { sup := HS2.out
                       ok := hOk.out
                       ap := fun j hj hd => by
                         rcases hd with hd | hd
                         · exact HM.out.own.ap j hj hd
                         · have := HM.out.ca.lt j hj; omega
                       spc := HM.out.own.spc
                       spd := fun g hg hj => by
                         rcases hj with hj | hj
                         · exact HM.out.own.spd g hg hj
                         · have := HM.out.own.splt g hg; omega
                       splt := fun g hg => by have := HM.out.own.splt g hg; omega }
              sub := fun j hj => by
                rcases hj with hj | hj | hj
                · exact .inl (HM.out.sub j (.inl hj))
                · exact .inl (HM.out.sub j (.inr hj))
                · exact .inr hj
              flt := fun j hj => by
                rcases hj with hj | hj
                · have := HM.out.flt j hj; omega
                · exact hj.2
              spf := fun g hg hj => by
                rcases hj with hj | hj
                · exact HM.out.spf g hg hj
                · have := HM.out.own.splt g hg; omega }⟩, HT2.out.mono fun j _ e => by
                  rcases e with e | e | e
                  · exact .inl (HM.out.sub j (.inl e))
                  · exact .inl (HM.out.sub j (.inr e))
                  · exact .inr e⟩)
        clear HC2 HD2 HS2 HT2 HM HLn HRl HRn
        go_wp2
        all_goals
          go_ret2
          first
            | exact ⟨rfl, ⟨hp, HS.out.1⟩, HS.out.2⟩
            | exact ⟨0, by rw [if_neg hc]; rfl, ⟨hp, fun e => absurd e hc, by rw [if_neg hc]; exact HS.out.1⟩, HS.out.2⟩
  · have hR : holdR a i = (2, a) := by unfold holdR; rw [if_pos hi]
    rw [hR]
    have HS := Lib.hid (show St (grow F w w) w c d sp hp a ∧ Turn (fun j => F j ∨ sp = some j) w w from
      ⟨⟨Fc, Fd, ml, ov,
        { ca := M.ca
          link := M.link
          disk := M.disk
          own := M.own
          sub := fun j hj => .inl (M.sub j hj)
          flt := fun j hj => by
            rcases hj with hj | hj
            · exact M.flt j hj
            · omega
          spf := fun g hg hj => by
            rcases hj with hj | hj
            · exact M.spf g hg hj
            · omega }⟩, Turn.refl _ _⟩)
    clear M HM hR
    by_cases h0 : i < 0
    · have hd1 : decide (i < 0) = true := decide_eq_true h0
      go_enter Try.func32, Try.ntmps32
      go_wp2_with fail
      go_ret2
      first | exact ⟨rfl, ⟨hp, HS.out.1⟩, HS.out.2⟩ | exact ⟨0, rfl, ⟨hp, (by first | exact fun e => (by cases e) | simp), HS.out.1⟩, HS.out.2⟩
    · have hd1 : decide (i < 0) = false := decide_eq_false h0
      have hd2 : decide (((a.x.stable.length : Nat) : Int) ≤ i) = true := decide_eq_true (by
        have h9 : ¬ (i < (a.x.stable.length : Int)) := fun e => hi ⟨by omega, e⟩
        omega)
      go_enter Try.func32, Try.ntmps32
      go_wp2_with fail
      refine (HLn.out _ (Turn.refl _ _)).mono ?_
      rintro e w1 ⟨rfl, rfl⟩
      go_wp2_with fail
      go_ret2
      first | exact ⟨rfl, ⟨hp, HS.out.1⟩, HS.out.2⟩ | exact ⟨0, rfl, ⟨hp, (by first | exact fun e => (by cases e) | simp), HS.out.1⟩, HS.out.2⟩
end Go.Proofs.Ytnbppfhnagacfaa
