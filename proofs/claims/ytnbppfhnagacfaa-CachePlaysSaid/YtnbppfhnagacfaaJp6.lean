/- package scupperref13: Sync, New. package cache: Pin, Unpin, Counts, Drop; the supplies at the whole's state. CachePlays: the cache and the reference's, side by side in one world. CachePlays: what every act keeps of the state. No program in sight. -/
import Derived.Test.YtnbppfhnagacfaaJp5
namespace Go.Proofs.Ytnbppfhnagacfaa
open Go.RowKit
set_option linter.unusedVariables false
attribute [local go_sem ↓] Go.wp_at_zero Go.wp_at_succ

theorem nums_mem {n : Nat} {x : Int} (h : x ∈ nums n) : 0 ≤ x ∧ x < n := by
  unfold nums at h
  obtain ⟨k, hk, rfl⟩ := List.mem_map.1 h
  have := List.mem_range.1 hk
  omega
theorem chR_some {a : CA} {x : Int} (h : x ∈ chR a) : (a.m x).isSome = true := by
  unfold chR at h
  have h2 := (List.mem_filter.1 h).2
  unfold chB at h2
  cases hm : a.m x with
  | none => rw [hm] at h2; cases h2
  | some hd => rfl
theorem RSt.n2 {F : Nat → Prop} {w : World} {c d g : Nat} {a : CA} (h : RSt F w c d g a) : a.x.stable.length ≤ 2048 := by
  obtain ⟨s, Fc, Fd, lv, sv, wv, vs, M⟩ := h
  exact M.dk.n2
theorem back_wr {a : CA} {i : Int} (h : (a.m i).isSome = true) : backR a i = wrR a i := by unfold backR; rw [if_pos h]
set_option maxRecDepth 100000 in
set_option maxHeartbeats 4000000 in
theorem rsync_any {F : Nat → Prop} {c d g : Nat} {a : CA} (w : World) (h : RSt F w c d g a) (hn : a.x.stable.length ≤ 1000) (hw : a.x.writes ≤ 900000) (hus : usedO a.s < 900000000) :
    Calls Try.prog 45 #[.pointer (some ⟨c, 0, none⟩)] w fun e w' => e = .returned (.int .i64 (syncL (chR a) a).1) ∧ RSt (grow F w w') w' c d g (syncL (chR a) a).2 ∧ Turn (fun j => F j ∨ j = g) w w' := by
  have HH := Lib.hid (rchanged_any w h)
  have HS := Lib.hid h
  obtain ⟨hFl, hgF, hgl, -⟩ := h.lt
  have HFl := Lib.hid hFl
  have HgF := Lib.hid hgF
  have hll : (chR a).length ≤ 1000 := Nat.le_trans (nums_len (chB a.m) a.x.stable.length) hn
  have HMm := Lib.hid (show ∀ x, x ∈ chR a → (a.m x).isSome = true from fun x hx => chR_some hx)
  clear h hFl hgF
  generalize chR a = l at *
  go_enter Try.func45, Try.ntmps45
  go_wp2_with fail
  refine HH.out.mono ?_
  rintro e w1 ⟨v1, rfl, hr1, ho1, hb1⟩
  obtain ⟨A, cp, rfl⟩ := hr1.sl'
  have HR1 := Lib.hid hr1
  have HO1 := Lib.hid ho1
  have HB1 := Lib.hid hb1
  have hs1 := hb1.size
  have HS1 := Lib.hid (HS.out.turn (S := fun _ => False) (Turn.of_below hb1) (fun _ _ => id) id)
  clear hr1 ho1 hb1 HH
  go_wp2_with fail
  go_loopw [4] (fun i wr => ∃ k : Nat, k ≤ l.length ∧ i = .int .i64 k ∧ ∃ ak : CA, syncL l a = syncL (l.drop k) ak ∧ Hid (RSt (grow F w1 wr) wr c d g ak) ∧ ak.x.writes ≤ a.x.writes + k ∧ usedO ak.s ≤ usedO a.s + k ∧ Hid (∀ q, (ak.m q).isSome = (a.m q).isSome) ∧ Hid (Turn (fun j => F j ∨ j = g) w1 wr)) (fun i _ => l.length - (intOf i).toNat)
  case atStart => exact ⟨0, Nat.zero_le _, rfl, a, rfl, Lib.hid (HS1.out.same (Turn.refl _ _)), by omega, by omega, Lib.hid fun _ => rfl, Lib.hid (Turn.refl _ _)⟩
  case round =>
    obtain ⟨k, hk, rfl, ak, hsy, hSk, hwk, huk, hmk, hTk⟩ := hrel
    have hsz := hTk.out.size
    have hTw : Hid (Turn (fun j => F j ∨ j = g) w wr) := Lib.hid ((Turn.of_below (S := fun j => F j ∨ j = g) HB1.out).trans hTk.out fun j _ e => e)
    by_cases hlt : k < l.length
    · obtain ⟨s, hs⟩ : ∃ s, l[k]? = some s := ⟨_, List.getElem?_eq_getElem hlt⟩
      obtain ⟨gv, hA⟩ : ∃ gv, A = some ⟨gv, 0, none⟩ := by
        obtain ⟨g', cg, cur, hAe, -⟩ := (HR1.out.shape).resolve_left fun e => by rw [e.2] at hlt; simp at hlt
        exact ⟨g', by injection hAe⟩
      subst hA
      have hc1 : wr.cell? ⟨gv, k, none⟩ = some (.int .i64 s) := by
        have hR1w : IRow wr _ l := HR1.out.turn hTk.out fun j hj e => by
          have h1 := HO1.out j hj
          rcases e with e | e
          · have := HFl.out j e; omega
          · omega
        have := hR1w.get (j := k) hlt
        rw [this, List.getD_eq_getElem?_getD, hs]
        rfl
      have him : (ak.m s).isSome = true := by rw [hmk.out]; exact HMm.out s (List.mem_of_getElem? hs)
      have HW := Lib.hid (rback_any s wr hSk.out (by omega) (usedO_lt (by omega)))
      rw [back_wr him] at HW
      obtain ⟨b1, b2, b3, b4⟩ := wrR_bd ak s
      have hdr : l.drop k = s :: l.drop (k + 1) := by
        rw [List.drop_eq_getElem_cons hlt]
        rw [List.getElem?_eq_getElem hlt] at hs
        rw [Option.some.inj hs]
      rw [hdr] at hsy
      have HSy := Lib.hid (show syncL l a = if (wrR ak s).1 = 0 then syncL (l.drop (k + 1)) (wrR ak s).2 else wrR ak s from hsy)
      have hi0 : (0 : Int) ≤ (k : Int) := by omega
      have hi1 : (k : Int) < (l.length : Int) := by omega
      clear hsy hdr him hs
      generalize hR : wrR ak s = R at *
      clear hR
      obtain ⟨code, an⟩ := R
      simp only at HW b1 b2 b3 b4 HSy
      have HB4 := Lib.hid (show ∀ q, (an.m q).isSome = (a.m q).isSome from fun q => (b4 q).trans (hmk.out q))
      clear b4 hmk
      go_wp2_with fail
      refine HW.out.mono ?_
      rintro e w2 ⟨rfl, hS2, hT2⟩
      have hs2 := hT2.size
      have HS2 := Lib.hid (hS2.chain hsz hs2 (fun j hj => by have := HFl.out j hj; omega) HgF.out (by omega))
      have HT2 := Lib.hid (Turn.chainG hTk.out hT2)
      clear hS2 hT2 HW hc1
      by_cases hc : code = 0
      · subst hc
        rw [if_pos rfl] at HSy
        go_wp2
        go_roundw
        case rel => exact ⟨k + 1, by omega, by go_num, an, HSy.out, HS2, by omega, by omega, HB4, HT2⟩
        case measure => simp [intOf]; omega
      · rw [if_neg hc] at HSy
        have hcn : (code == 0) = false := by simpa using hc
        have HF := Lib.hid (show RSt (grow F w w2) w2 c d g an ∧ Turn (fun j => F j ∨ j = g) w w2 from
          ⟨HS2.out.mono (fun j hj => hj.imp id fun e => ⟨by omega, e.2⟩) (fun j hj => by
            rcases hj with hj | hj
            · have := HFl.out j hj; omega
            · exact hj.2) (fun e => by
            rcases e with e | e
            · exact HgF.out e
            · omega), (Turn.of_below (S := fun j => F j ∨ j = g) HB1.out).trans HT2.out fun j _ e => e⟩)
        have HE := Lib.hid (show syncL l a = (code, an) from HSy.out)
        clear HSy
        go_wp2
        go_ret
        rw [HE.out]
        exact ⟨rfl, HF.out⟩
    · obtain rfl : k = l.length := by omega
      rw [List.drop_length] at hsy
      have HE := Lib.hid (show syncL l a = (0, ak) from hsy)
      have HF := Lib.hid (show RSt (grow F w wr) wr c d g ak ∧ Turn (fun j => F j ∨ j = g) w wr from
          ⟨hSk.out.mono (fun j hj => hj.imp id fun e => ⟨by omega, e.2⟩) (fun j hj => by
            rcases hj with hj | hj
            · have := HFl.out j hj; omega
            · exact hj.2) (fun e => by
            rcases e with e | e
            · exact HgF.out e
            · omega), hTw.out⟩)
      clear hsy
      go_wp2
      go_ret
      rw [HE.out]
      exact ⟨rfl, HF.out⟩
set_option maxRecDepth 100000 in
set_option maxHeartbeats 2000000 in
theorem rcnew_any {Fd : Nat → Prop} {d g : Nat} {sv wv : Value} {vs : List Value} {s : Sup} (size : Int) (w : World) (hD : RDk Fd w d g (freshD 6) sv wv vs) (hS : Blk w g 65 s.cells) (hok : s.ok) (hg : ¬ Fd g) (h1 : 1 ≤ size) (h2 : size ≤ 64) :
    Calls Try.prog 25 #[.pointer (some ⟨d, 0, none⟩), .int .i64 size] w fun e w' => ∃ c, e = .returned (.tuple #[.pointer (some ⟨c, 0, none⟩), .int .i64 0]) ∧ RSt (grow Fd w w') w' c d g (freshC size (freshD 6) (some s)) ∧ Below w.heap.size w w' := by
  have hd1 : decide (size < 1) = false := decide_eq_false (by omega)
  have hd2 : decide (64 < size) = false := decide_eq_false (by omega)
  have HF : Hid (∀ W, W = w.alloc (.cells #[.pointer (some ⟨d, 0, none⟩), .int .i64 size, .slice none 0 0, .int .i64 0, .int .i64 0] 61) → RSt (grow Fd w W) W w.heap.size d g (freshC size (freshD 6) (some s)) ∧ Below w.heap.size w W) := Lib.hid fun W hW => by
    have hB : Below w.heap.size w W := by rw [hW]; exact bel_alloc (Below.refl _ _) _
    have hs2 : W.heap.size = w.heap.size + 1 := by rw [hW]; simp
    have hT : Turn (fun _ => False) w W := Turn.of_below hB
    refine ⟨⟨s, fun j => j = w.heap.size, Fd, .slice none 0 0, sv, wv, vs,
      { blk := by rw [hW]; exact Blk.new _ _ _
        row := ⟨World.ownsRow_nil _ _ _ _, fun c h => by cases h⟩
        dk := hD.turn hT fun _ _ => id
        sup := hS.turn hT id
        as_ := rfl
        ok := hok
        link := ⟨List.nodup_nil, fun k => by show k ∈ [] ↔ (none : Option Hd).isSome = true; simp⟩
        hl := fun k h hk => by cases hk
        num := ⟨Int.le_refl _, by show (0 : Int) ≤ 1000000; decide, Int.le_refl _, by show (0 : Int) ≤ 1000000; decide, by show 0 ≤ 1000; decide⟩
        fc := rfl
        fl := fun j hj => by cases hj
        ap := fun j hj e => by have := hD.lt j e; omega
        gc := fun e => by have := hS.lt; omega
        gd := hg
        cl := fun j hj => by omega
        sub := fun j hj => by
          rcases hj with hj | hj
          · exact .inr ⟨by omega, by omega⟩
          · exact .inl hj
        flt := fun j hj => by
          rcases hj with hj | hj
          · have := hD.lt j hj; omega
          · exact hj.2
        gF := fun e => by
          rcases e with e | e
          · exact hg e
          · have := hS.lt; omega }⟩, hB⟩
  clear hD hS hok hg
  go_enter Try.func25, Try.ntmps25
  go_wp2
  go_ret2
  exact ⟨_, rfl, HF.out _ rfl⟩
end Go.Proofs.Ytnbppfhnagacfaa
namespace Go.Proofs.Ytnbppfhnagacfaa
open Go.RowKit
set_option linter.unusedVariables false
attribute [local go_sem ↓] Go.wp_at_zero Go.wp_at_succ

theorem find_some {a : CA} {hp : Int → Nat} {i : Int} {hd : Hd} (hm : a.m i = some hd) : findV a.m hp i = .pointer (some ⟨hp i, 0, none⟩) := by unfold findV; rw [hm]; rfl
theorem St.pin_step {F : Nat → Prop} {w : World} {c d : Nat} {sp : Option Nat} {hp : Int → Nat} {a : CA} (h : St F w c d sp hp a) {i : Int} {hd : Hd} (hm : a.m i = some hd) (p : Int) (hpn : 0 ≤ p ∧ p ≤ 1000000) :
    w.cell? ⟨hp i, 65, none⟩ = some (.int .i64 hd.pins) ∧ w.frozen? ⟨hp i, 65, none⟩ = false ∧ hp i < w.heap.size ∧ St (grow F w (w.setCell ⟨hp i, 65, none⟩ (.int .i64 p))) (w.setCell ⟨hp i, 65, none⟩ (.int .i64 p)) c d sp hp (setA a i ⟨hd.b, hd.ch, p⟩) ∧ Turn (fun j => F j ∨ sp = some j) w (w.setCell ⟨hp i, 65, none⟩ (.int .i64 p)) := by
  obtain ⟨g1, g2, g3⟩ := h.held hm
  have hT : Turn (fun j => j = hp i) w (w.setCell ⟨hp i, 65, none⟩ (.int .i64 p)) := (Turn.refl (fun j => j = hp i) w).setCell (p := ⟨hp i, 65, none⟩) (fun _ => rfl) _
  have hb : Blk (w.setCell ⟨hp i, 65, none⟩ (.int .i64 p)) (hp i) 81 (Hd.mk hd.b hd.ch p).cells := by rw [← hd.set65 g2]; exact g1.set_ 65 _
  have hs := hT.size
  refine ⟨by rw [g1.cell 65]; exact (hd.at64 g2).2, g1.frozen 65, g1.lt, (h.set (hd' := ⟨hd.b, hd.ch, p⟩) hm hT hb g2 hpn).mono (fun j hj => .inl hj) (fun j hj => ?_) (fun g hg e => ?_), hT.mono fun j _ e => .inl (by rw [e]; exact g3)⟩
  · rcases hj with hj | hj
    · have := h.lt.1 j hj; omega
    · exact hj.2
  · rcases e with e | e
    · exact (h.lt.2.1 g hg).1 e
    · have := (h.lt.2.1 g hg).2; omega
set_option maxRecDepth 100000 in
set_option maxHeartbeats 2000000 in
theorem pin_any {F : Nat → Prop} {c d : Nat} {sp : Option Nat} {hp : Int → Nat} {a : CA} (i : Int) (w : World) (h : St F w c d sp hp a) (hk : (key i).wf = true) (hpx : ∀ k x, a.m k = some x → x.pins < 1000000) :
    Calls Try.prog 20 #[.pointer (some ⟨c, 0, none⟩), .int .i64 i] w fun e w' => e = .returned (.int .i64 (pinR a i).1) ∧ St (grow F w w') w' c d sp hp (pinR a i).2 ∧ Turn (fun j => F j ∨ sp = some j) w w' := by
  have HF := Lib.hid (h.find i w hk)
  have HS := Lib.hid (show St (grow F w w) w c d sp hp a ∧ Turn (fun j => F j ∨ sp = some j) w w from ⟨h.same (Turn.refl _ w), Turn.refl _ _⟩)
  unfold pinR
  cases hm : a.m i with
  | none =>
    rw [hm] at HF
    simp only [Option.isSome_none, Bool.false_eq_true, if_false] at HF
    clear h hm
    generalize findV a.m hp i = v at *
    go_enter Try.func20, Try.ntmps20
    go_wp2_with fail
    refine HF.out.mono ?_
    rintro e w1 ⟨rfl, rfl⟩
    go_wp2
    go_ret
    exact ⟨rfl, HS.out⟩
  | some hd =>
    rw [hm, find_some hm] at HF
    simp only [Option.isSome_some, if_true] at HF
    have hpn := h.pins hm
    have hp1 := hpx i hd hm
    obtain ⟨hck, hfk, hl, hS, hT⟩ := h.pin_step hm (hd.pins + 1) ⟨by omega, by omega⟩
    have ew : IntKind.i64.wrap (hd.pins + 1) = hd.pins + 1 := IntWalk.i64_in _ (by omega) |>.trans rfl
    have HR := Lib.hid (show _ ∧ _ from ⟨hS, hT⟩)
    generalize hp i = pi at *
    clear h hm hS hT
    go_enter Try.func20, Try.ntmps20
    go_wp2_with fail
    refine HF.out.mono ?_
    rintro e w1 ⟨rfl, rfl⟩
    go_wp2
    go_ret
    exact ⟨rfl, HR.out⟩
set_option maxRecDepth 100000 in
set_option maxHeartbeats 2000000 in
theorem unpin_any {F : Nat → Prop} {c d : Nat} {sp : Option Nat} {hp : Int → Nat} {a : CA} (i : Int) (w : World) (h : St F w c d sp hp a) (hk : (key i).wf = true) :
    Calls Try.prog 21 #[.pointer (some ⟨c, 0, none⟩), .int .i64 i] w fun e w' => e = .returned (.int .i64 (unpinR a i).1) ∧ St (grow F w w') w' c d sp hp (unpinR a i).2 ∧ Turn (fun j => F j ∨ sp = some j) w w' := by
  have HF := Lib.hid (h.find i w hk)
  have HS := Lib.hid (show St (grow F w w) w c d sp hp a ∧ Turn (fun j => F j ∨ sp = some j) w w from ⟨h.same (Turn.refl _ w), Turn.refl _ _⟩)
  unfold unpinR
  cases hm : a.m i with
  | none =>
    rw [hm] at HF
    simp only [Option.isSome_none, Bool.false_eq_true, if_false] at HF
    clear h hm
    generalize findV a.m hp i = v at *
    go_enter Try.func21, Try.ntmps21
    go_wp2_with fail
    refine HF.out.mono ?_
    rintro e w1 ⟨rfl, rfl⟩
    go_wp2
    go_ret
    exact ⟨rfl, HS.out⟩
  | some hd =>
    rw [hm, find_some hm] at HF
    simp only [Option.isSome_some, if_true] at HF
    have hpn := h.pins hm
    simp only
    by_cases hz : hd.pins = 0
    · have hR : (if hd.pins = 0 then ((5 : Int), a) else (0, setA a i ⟨hd.b, hd.ch, hd.pins - 1⟩)) = (5, a) := if_pos hz
      rw [hR]
      obtain ⟨hck, hfk, hl, -, -⟩ := h.pin_step hm hd.pins hpn
      have hzb : (hd.pins == 0) = true := by simpa using hz
      generalize hp i = pi at *
      clear h hm hR hz
      go_enter Try.func21, Try.ntmps21
      go_wp2_with fail
      refine HF.out.mono ?_
      rintro e w1 ⟨rfl, rfl⟩
      go_wp2
      go_ret
      exact ⟨rfl, HS.out⟩
    · have hR : (if hd.pins = 0 then ((5 : Int), a) else (0, setA a i ⟨hd.b, hd.ch, hd.pins - 1⟩)) = (0, setA a i ⟨hd.b, hd.ch, hd.pins - 1⟩) := if_neg hz
      rw [hR]
      obtain ⟨hck, hfk, hl, hS, hT⟩ := h.pin_step hm (hd.pins - 1) ⟨by omega, by omega⟩
      have hzb : (hd.pins == 0) = false := by simpa using hz
      have ew : IntKind.i64.wrap (hd.pins - 1) = hd.pins - 1 := IntWalk.i64_in _ (by omega) |>.trans rfl
      have HR := Lib.hid (show _ ∧ _ from ⟨hS, hT⟩)
      generalize hp i = pi at *
      clear h hm hS hT hR
      go_enter Try.func21, Try.ntmps21
      go_wp2_with fail
      refine HF.out.mono ?_
      rintro e w1 ⟨rfl, rfl⟩
      go_wp2
      go_ret
      exact ⟨rfl, HR.out⟩
theorem counts_any {F : Nat → Prop} {c d : Nat} {sp : Option Nat} {hp : Int → Nat} {a : CA} (w : World) (h : St F w c d sp hp a) :
    Calls Try.prog 19 #[.pointer (some ⟨c, 0, none⟩)] w fun e w' => e = .returned (.tuple #[.int .i64 a.hits, .int .i64 a.misses]) ∧ Below w.heap.size w w' := by
  obtain ⟨Fc, Fd, ml, ov, M⟩ := h
  have c4 := M.ca.blk.cell 4
  have c5 := M.ca.blk.cell 5
  simp at c4 c5
  have hS : w.drew.cell? ⟨c, 4, none⟩ = some (.int .i64 a.hits) ∧ w.drew.cell? ⟨c, 5, none⟩ = some (.int .i64 a.misses) := ⟨c4, c5⟩
  have HB := Lib.hid (show Below w.heap.size w w.drew from (Below.refl _ _).drew)
  clear M
  go_enter Try.func19, Try.ntmps19
  go_upto_region 3 with (fail)
  go_region_held3 (fun W => W.cell? ⟨c, 4, none⟩ = some (.int .i64 a.hits) ∧ W.cell? ⟨c, 5, none⟩ = some (.int .i64 a.misses)) (exact hS) (fail)
  go_wp2
  go_ret2
  exact ⟨rfl, HB.out⟩
def dropA (a : CA) : CA := { a with os := [], m := fun _ => none }
set_option maxHeartbeats 2000000 in
theorem drop_any {F : Nat → Prop} {c d : Nat} {sp : Option Nat} {hp : Int → Nat} {a : CA} (w : World) (h : St F w c d sp hp a) :
    Calls Try.prog 18 #[.pointer (some ⟨c, 0, none⟩)] w fun e w' => e = .returned (.tuple #[]) ∧ St (grow F w w') w' c d sp hp (dropA a) ∧ Turn (fun j => F j ∨ sp = some j) w w' := by
  obtain ⟨Fc, Fd, ml, ov, M⟩ := h
  have c2 := M.ca.blk.cell 2
  simp at c2
  obtain ⟨w1, hclr, hM1, hg1⟩ := M.ca.map.clear Try.underlying71
  have hT1 := turn_of_grown hg1
  have hcm : ¬ c = ml := fun e => M.ca.map.is.not_blk M.ca.blk e.symm
  have hB1 := M.ca.blk.turn hT1 hcm
  have c3 := hB1.cell 3
  have f3 := hB1.frozen 3
  have hcl := hB1.lt
  simp at c3
  obtain ⟨w2, hw2⟩ : ∃ w2, w2 = w1.setCell ⟨c, 3, none⟩ (.slice none 0 0) := ⟨_, rfl⟩
  have hT2 : Turn (fun j => j = c) w1 w2 := by rw [hw2]; exact (Turn.refl (fun j => j = c) w1).setCell (p := ⟨c, 3, none⟩) (fun _ => rfl) _
  have hB2 : Blk w2 c 73 #[.pointer (some ⟨d, 0, none⟩), .int .i64 a.size, .map (some ml), .slice none 0 0, .int .i64 a.hits, .int .i64 a.misses] := by rw [hw2]; exact hB1.set_ 3 _
  have hM2 := hM1.turn hT2 fun e => hcm e.symm
  have hTT : Turn (fun j => j = c ∨ j = ml) w w2 := (hT1.mono (S' := fun j => j = c ∨ j = ml) fun j _ e => .inr e).trans hT2 fun j _ e => .inl e
  have hFcc : ∀ j, (j = c ∨ j = ml) → Fc j := fun j e => by
    rcases e with rfl | rfl
    · exact M.ca.fc
    · exact M.ca.fm
  have HF := Lib.hid (show St (grow F w w2) w2 c d sp hp (dropA a) ∧ Turn (fun j => F j ∨ sp = some j) w w2 from by
    have hD2 := M.disk.turn hTT fun j hj e => M.own.ap j (hFcc j e) hj
    refine ⟨M.go (a' := dropA a) (ov' := .slice none 0 0) (hp' := hp)
      { blk := hB2
        ord := IRow.nil _
        map := hM2
        held := fun k x hk => by cases hk
        inj := fun k k' x x' hk => by cases hk
        num := M.ca.num
        fc := M.ca.fc
        fm := M.ca.fm
        fo := fun j hj => by cases hj
        lt := fun j hj => Nat.lt_of_lt_of_le (M.ca.lt j hj) hTT.size }
      ⟨List.nodup_nil, fun k => by show k ∈ [] ↔ (none : Option Hd).isSome = true; simp⟩ (hD2.mono (fun j hj => .inl hj) (fun j hj => by
        rcases hj with hj | hj
        · exact hD2.lt j hj
        · exact hj.2)) (M.own.sup.turn hTT fun g hg e => M.own.spc g hg (hFcc g e)) M.own.ok hTT.size, hTT.mono fun j _ e => .inl (M.sub j (.inl (hFcc j e)))⟩)
  clear M hM1 hg1 hT1 hB1 hT2 hB2 hM2 hTT hFcc hcm
  go_enter Try.func18, Try.ntmps18
  go_wp2
  go_end0
  rw [← hw2]
  exact ⟨rfl, HF.out⟩
theorem St.sup {F : Nat → Prop} {w : World} {c d g : Nat} {hp : Int → Nat} {a : CA} (h : St F w c d (some g) hp a) : ∃ s, a.s = some s ∧ Blk w g 86 s.cells ∧ s.ok := by
  obtain ⟨Fc, Fd, ml, ov, M⟩ := h
  have hs := M.own.sup
  cases ha : a.s with
  | none => rw [ha] at hs; exact hs.elim
  | some s => rw [ha] at hs; exact ⟨s, rfl, hs, M.own.ok s ha⟩
theorem St.setSup {F : Nat → Prop} {w w' : World} {c d g : Nat} {hp : Int → Nat} {a : CA} {s' : Sup} (h : St F w c d (some g) hp a) (hT : Turn (fun j => j = g) w w') (hb : Blk w' g 86 s'.cells) (hok : s'.ok) : St (grow F w w') w' c d (some g) hp { a with s := some s' } := by
  obtain ⟨Fc, Fd, ml, ov, M⟩ := h
  have hgF := M.spf g rfl
  have hn : ∀ j, F j → ¬ j = g := fun j hj e => hgF (e ▸ hj)
  have hD2 := M.disk.turn hT fun j hj => hn j (M.sub j (.inr hj))
  exact M.go (a' := { a with s := some s' }) (M.ca.turn hT fun j hj => hn j (M.sub j (.inl hj))) M.link (hD2.mono (fun j hj => .inl hj) (fun j hj => by
    rcases hj with hj | hj
    · exact hD2.lt j hj
    · exact hj.2)) hb (fun s hs => by cases hs; exact hok) hT.size
theorem RSt.sup {F : Nat → Prop} {w : World} {c d g : Nat} {a : CA} (h : RSt F w c d g a) : ∃ s, a.s = some s ∧ Blk w g 65 s.cells ∧ s.ok := by
  obtain ⟨s, Fc, Fd, lv, sv, wv, vs, M⟩ := h
  exact ⟨s, M.as_, M.sup, M.ok⟩
theorem RSt.setSup {F : Nat → Prop} {w w' : World} {c d g : Nat} {a : CA} {s' : Sup} (h : RSt F w c d g a) (hT : Turn (fun j => j = g) w w') (hb : Blk w' g 65 s'.cells) (hok : s'.ok) : RSt (grow F w w') w' c d g { a with s := some s' } := by
  obtain ⟨s, Fc, Fd, lv, sv, wv, vs, M⟩ := h
  have hgF := M.gF
  have hD2 := M.dk.turn hT fun j hj e => M.gd (e ▸ hj)
  exact ⟨_, _, _, _, _, _, _, M.goD (x' := a.x) (hT.mono fun j _ e => .inr e) (hD2.mono (fun j hj => .inl hj) (fun j hj => by
    rcases hj with hj | hj
    · exact hD2.lt j hj
    · exact hj.2)) hb hok⟩
end Go.Proofs.Ytnbppfhnagacfaa
namespace Go.Proofs.Ytnbppfhnagacfaa
open Go.RowKit
set_option linter.unusedVariables false

/-- The cache c (its disk d, its supply g) is a1, the reference's y (disk e, supply q) is a2; all but the supplies lies in U. -/
def Bo (U : Nat → Prop) (w : World) (c d g y e q : Nat) (a1 a2 : CA) : Prop := ∃ (F G : Nat → Prop) (hp : Int → Nat), St F w c d (some g) hp a1 ∧ RSt G w y e q a2 ∧ (∀ j, F j → ¬ G j) ∧ (∀ j, F j ∨ G j → U j) ∧ ¬ U g ∧ ¬ U q ∧ g ≠ q ∧ (∀ j, U j → j < w.heap.size)
def BT (U : Nat → Prop) (g q : Nat) (w w' : World) : Prop := Turn (fun j => U j ∨ j = g ∨ j = q) w w'
theorem Bo.sz {U : Nat → Prop} {w : World} {c d g y e q : Nat} {a1 a2 : CA} (h : Bo U w c d g y e q a1 a2) : g < w.heap.size ∧ q < w.heap.size ∧ ¬ U g ∧ ¬ U q ∧ g ≠ q ∧ (∀ j, U j → j < w.heap.size) ∧ U y := by
  obtain ⟨F, G, hp, h1, h2, h3, h4, h5, h6, h7, h8⟩ := h
  exact ⟨(h1.lt.2.1 g rfl).2, h2.lt.2.2.1, h5, h6, h7, h8, h4 y (.inr h2.lt.2.2.2)⟩
theorem Bo.real {U : Nat → Prop} {w : World} {c d g y e q : Nat} {a1 a2 b1 : CA} {f : Nat} {args : Array Value} {val : Value} (h : Bo U w c d g y e q a1 a2)
    (hC : ∀ F hp, St F w c d (some g) hp a1 → Calls Try.prog f args w fun r w' => r = .returned val ∧ (∃ hp', St (grow F w w') w' c d (some g) hp' b1) ∧ Turn (fun j => F j ∨ some g = some j) w w') :
    Calls Try.prog f args w fun r w' => r = .returned val ∧ Bo (grow U w w') w' c d g y e q b1 a2 ∧ BT U g q w w' := by
  obtain ⟨F, G, hp, h1, h2, h3, h4, h5, h6, h7, h8⟩ := h
  refine (hC F hp h1).mono ?_
  rintro r w' ⟨rfl, ⟨hp', hS⟩, hT⟩
  have hs := hT.size
  have hqF : ¬ (F q ∨ some g = some q) := fun e => by
    rcases e with e | e
    · exact h6 (h4 q (.inl e))
    · exact h7 (Option.some.inj e)
  refine ⟨rfl, ⟨grow F w w', G, hp', hS, h2.turn hT (fun j hj e => ?_) hqF, fun j hj hG => ?_, fun j hj => ?_, fun e => ?_, fun e => ?_, h7, fun j hj => ?_⟩, hT.mono fun j _ e => ?_⟩
  · rcases e with e | e
    · exact h3 j e hj
    · have := Option.some.inj e
      subst this
      exact h5 (h4 _ (.inr hj))
  · rcases hj with hj | hj
    · exact h3 j hj hG
    · have := h8 j (h4 j (.inr hG)); omega
  · rcases hj with (hj | hj) | hj
    · exact .inl (h4 j (.inl hj))
    · exact .inr hj
    · exact .inl (h4 j (.inr hj))
  · rcases e with e | e
    · exact h5 e
    · have := (h1.lt.2.1 g rfl).2; omega
  · rcases e with e | e
    · exact h6 e
    · have := h2.lt.2.2.1; omega
  · rcases hj with hj | hj
    · have := h8 j hj; omega
    · exact hj.2
  · rcases e with e | e
    · exact .inl (h4 j (.inl e))
    · exact .inr (.inl (Option.some.inj e).symm)
theorem Bo.ref {U : Nat → Prop} {w : World} {c d g y e q : Nat} {a1 a2 b2 : CA} {f : Nat} {args : Array Value} {val : Value} (h : Bo U w c d g y e q a1 a2)
    (hC : ∀ G, RSt G w y e q a2 → Calls Try.prog f args w fun r w' => r = .returned val ∧ RSt (grow G w w') w' y e q b2 ∧ Turn (fun j => G j ∨ j = q) w w') :
    Calls Try.prog f args w fun r w' => r = .returned val ∧ Bo (grow U w w') w' c d g y e q a1 b2 ∧ BT U g q w w' := by
  obtain ⟨F, G, hp, h1, h2, h3, h4, h5, h6, h7, h8⟩ := h
  refine (hC G h2).mono ?_
  rintro r w' ⟨rfl, hS, hT⟩
  have hs := hT.size
  refine ⟨rfl, ⟨F, grow G w w', hp, h1.turn hT (fun j hj e => ?_) (fun g' hg e => ?_), hS, fun j hj hG => ?_, fun j hj => ?_, fun e => ?_, fun e => ?_, h7, fun j hj => ?_⟩, hT.mono fun j _ e => ?_⟩
  · rcases e with e | e
    · exact h3 j hj e
    · subst e; exact h6 (h4 _ (.inl hj))
  · obtain rfl := Option.some.inj hg
    rcases e with e | e
    · exact h5 (h4 _ (.inr e))
    · exact h7 e
  · rcases hG with hG | hG
    · exact h3 j hj hG
    · have := h8 j (h4 j (.inl hj)); omega
  · rcases hj with hj | hj | hj
    · exact .inl (h4 j (.inl hj))
    · exact .inl (h4 j (.inr hj))
    · exact .inr hj
  · rcases e with e | e
    · exact h5 e
    · have := (h1.lt.2.1 g rfl).2; omega
  · rcases e with e | e
    · exact h6 e
    · have := h2.lt.2.2.1; omega
  · rcases hj with hj | hj
    · have := h8 j hj; omega
    · exact hj.2
  · rcases e with e | e
    · exact .inl (h4 j (.inr e))
    · exact .inr (.inr e)
theorem BT.chain {U : Nat → Prop} {g q : Nat} {w1 wr w' : World} (h1 : BT U g q w1 wr) (h2 : BT (grow U w1 wr) g q wr w') : BT U g q w1 w' :=
  h1.trans h2 fun j hj e => by
    rcases e with (e | e) | e
    · exact .inl e
    · omega
    · exact .inr e
theorem Bo.chain {U : Nat → Prop} {w1 wr w' : World} {c d g y e q : Nat} {a1 a2 : CA} (h : Bo (grow (grow U w1 wr) wr w') w' c d g y e q a1 a2) (hs : w1.heap.size ≤ wr.heap.size) (hs' : wr.heap.size ≤ w'.heap.size) (hU : ∀ j, U j → j < w1.heap.size) (hg : ¬ U g ∧ g < w1.heap.size) (hq : ¬ U q ∧ q < w1.heap.size) : Bo (grow U w1 w') w' c d g y e q a1 a2 := by
  obtain ⟨F, G, hp, h1, h2, h3, h4, h5, h6, h7, h8⟩ := h
  refine ⟨F, G, hp, h1, h2, h3, fun j hj => ?_, fun e => ?_, fun e => ?_, h7, fun j hj => ?_⟩
  · rcases h4 j hj with (h | h) | h
    · exact .inl h
    · exact .inr ⟨h.1, by omega⟩
    · exact .inr ⟨by omega, h.2⟩
  · rcases e with e | e
    · exact hg.1 e
    · omega
  · rcases e with e | e
    · exact hq.1 e
    · omega
  · rcases hj with hj | hj
    · have := hU j hj; omega
    · exact hj.2
theorem Bo.turn {U : Nat → Prop} {w w' : World} {c d g y e q : Nat} {a1 a2 : CA} (h : Bo U w c d g y e q a1 a2) {S : Nat → Prop} (hT : Turn S w w') (hS : ∀ j, U j → ¬ S j) (hg : ¬ S g) (hq : ¬ S q) : Bo U w' c d g y e q a1 a2 := by
  obtain ⟨F, G, hp, h1, h2, h3, h4, h5, h6, h7, h8⟩ := h
  exact ⟨F, G, hp, h1.turn hT (fun j hj => hS j (h4 j (.inl hj))) (fun g' hg' => by obtain rfl := Option.some.inj hg'; exact hg), h2.turn hT (fun j hj => hS j (h4 j (.inr hj))) hq, h3, h4, h5, h6, h7, fun j hj => Nat.lt_of_lt_of_le (h8 j hj) hT.size⟩
theorem Bo.grow_ {U : Nat → Prop} {w w' : World} {c d g y e q : Nat} {a1 a2 : CA} (h : Bo U w c d g y e q a1 a2) (hT : Turn (fun _ => False) w w') : Bo (grow U w w') w' c d g y e q a1 a2 := by
  obtain ⟨hg, hq, hUg, hUq, -, hUl, -⟩ := h.sz
  have hs := hT.size
  obtain ⟨F, G, hp, h1, h2, h3, h4, h5, h6, h7, h8⟩ := h.turn hT (fun _ _ => id) id id
  refine ⟨F, G, hp, h1, h2, h3, fun j hj => .inl (h4 j hj), fun e => ?_, fun e => ?_, h7, fun j hj => ?_⟩
  · rcases e with e | e
    · exact hUg e
    · omega
  · rcases e with e | e
    · exact hUq e
    · omega
  · rcases hj with hj | hj
    · have := hUl j hj; omega
    · exact hj.2
/-- A footprint that only says less. -/
theorem Bo.wide {U U' : Nat → Prop} {w : World} {c d g y e q : Nat} {a1 a2 : CA} (h : Bo U w c d g y e q a1 a2) (hU : ∀ j, U j → U' j) (hl : ∀ j, U' j → j < w.heap.size) (hg : ¬ U' g) (hq : ¬ U' q) : Bo U' w c d g y e q a1 a2 := by
  obtain ⟨F, G, hp, h1, h2, h3, h4, h5, h6, h7, h8⟩ := h
  exact ⟨F, G, hp, h1, h2, h3, fun j hj => hU j (h4 j hj), hg, hq, h7, hl⟩

/-! The states. -/
theorem sorted_le (l : List Int) : (sorted l).Pairwise (fun x y => decide (x ≤ y) = true) := List.pairwise_mergeSort (le := fun x y => decide (x ≤ y)) (fun a b c h1 h2 => by simp at h1 h2 ⊢; omega) (fun a b => by simp; omega) l
theorem nums_le (n : Nat) : (nums n).Pairwise (· < ·) := by
  unfold nums
  rw [List.pairwise_map]
  exact (List.pairwise_lt_range).imp fun h => by omega
structure Inv (a : CA) (n W : Int) : Prop where
  len : a.x.stable.length = 6
  link : Link a.os a.m
  inn : ∀ k, k ∈ a.os → a.x.is k
  sz : 1 ≤ a.size ∧ a.size ≤ 64
  ol : (a.os.length : Int) ≤ a.size
  wr : a.x.writes ≤ W
  us : usedO a.s ≤ W
  hi : a.hits ≤ n
  ms : a.misses ≤ n
  pn : ∀ k h, a.m k = some h → h.pins ≤ n
theorem ch_same {a : CA} {n W : Int} (h : Inv a n W) : chR a = sorted (chs a) := by
  have h1 : (chR a).Pairwise (· ≤ ·) := ((nums_le a.x.stable.length).sublist List.filter_sublist).imp fun h => by omega
  have h2 : (sorted (chs a)).Pairwise (· ≤ ·) := (sorted_le (chs a)).imp fun h => by simpa using h
  have hn1 : (chR a).Nodup := ((nums_le a.x.stable.length).sublist List.filter_sublist).imp fun h => by omega
  have hn2 : (sorted (chs a)).Nodup := (List.mergeSort_perm (chs a) _).nodup_iff.2 (h.link.nd.sublist List.filter_sublist)
  have hp : (chR a).Perm (sorted (chs a)) := (List.perm_ext_iff_of_nodup hn1 hn2).2 fun x => by
    constructor
    · intro hx
      have hs := chR_some hx
      have hc := (List.mem_filter.1 hx).2
      exact (List.mem_mergeSort (le := fun x y => decide (x ≤ y))).2 (List.mem_filter.2 ⟨(h.link.iff x).2 hs, hc⟩)
    · intro hx
      obtain ⟨h3, h4⟩ := chs_mem (sorted_mem hx)
      obtain ⟨h5, h6⟩ := h.inn x h3
      refine List.mem_filter.2 ⟨?_, h4⟩
      unfold nums
      exact List.mem_map.2 ⟨x.toNat, List.mem_range.2 (by omega), by omega⟩
  exact hp.eq_of_pairwise (fun a b _ _ h1 h2 => by omega) h1 h2
end Go.Proofs.Ytnbppfhnagacfaa
namespace Go.Proofs.Ytnbppfhnagacfaa
open Go.RowKit
set_option linter.unusedVariables false

theorem Inv.to {a a' : CA} {n W n' W' : Int} (h : Inv a n W) (hx : a'.x.stable.length = a.x.stable.length) (hl : Link a'.os a'.m) (hin : ∀ k, k ∈ a'.os → k ∈ a.os ∨ a.x.is k) (hsz : a'.size = a.size) (hol : (a'.os.length : Int) ≤ a.size) (hwr : a'.x.writes ≤ W') (hus : usedO a'.s ≤ W') (hhi : a'.hits ≤ n') (hms : a'.misses ≤ n') (hpn : ∀ k x, a'.m k = some x → x.pins ≤ n') : Inv a' n' W' :=
  { len := hx.trans h.len
    link := hl
    inn := fun k hk => by
      have h1 : a.x.is k := by
        rcases hin k hk with h2 | h2
        · exact h.inn k h2
        · exact h2
      exact ⟨h1.1, by rw [hx]; exact h1.2⟩
    sz := by rw [hsz]; exact h.sz
    ol := by rw [hsz]; exact hol
    wr := hwr
    us := hus
    hi := hhi
    ms := hms
    pn := hpn }
theorem Inv.more {a : CA} {n W n' W' : Int} (h : Inv a n W) (hn : n ≤ n') (hW : W ≤ W') : Inv a n' W' :=
  h.to rfl h.link (fun k hk => .inl hk) rfl h.ol (by have := h.wr; omega) (by have := h.us; omega) (by have := h.hi; omega) (by have := h.ms; omega) (fun k x hk => by have := h.pn k x hk; omega)
theorem Inv.set {a : CA} {n W n' : Int} (h : Inv a n W) {i : Int} {hd hd' : Hd} (hm : a.m i = some hd) (hn : n ≤ n') (hp : hd'.pins ≤ n') : Inv (setA a i hd') n' W :=
  h.to rfl (h.link.upd ((h.link.iff i).2 (by rw [hm]; rfl)) _) (fun k hk => .inl hk) rfl h.ol h.wr h.us (by have := h.hi; show a.hits ≤ n'; omega) (by have := h.ms; show a.misses ≤ n'; omega) (fun k x hk => by
    have hk' : updm a.m i hd' k = some x := hk
    by_cases e : k = i
    · rw [e, updm_same] at hk'
      obtain rfl := Option.some.inj hk'
      exact hp
    · rw [updm_other _ _ e] at hk'
      have := h.pn k x hk'
      omega)
theorem Inv.disk {a : CA} {n W W' : Int} {x' : Dk} {s' : Option Sup} (h : Inv a n W) (hx : x'.stable.length = a.x.stable.length) (hwr : x'.writes ≤ W') (hus : usedO s' ≤ W') : Inv { a with x := x', s := s' } n W' :=
  h.to hx h.link (fun k hk => .inl hk) rfl h.ol hwr hus h.hi h.ms h.pn
theorem vic_mem {os : List Int} {m : Int → Option Hd} {v : Int} (h : vic os m = some v) : v ∈ os := List.mem_reverse.1 (List.mem_of_find?_eq_some h)
theorem Inv.room {a : CA} {n W : Int} (h : Inv a n W) : Inv (roomA a) n (W + 1) ∧ (roomC a = 0 → ((roomA a).os.length : Int) + 1 ≤ a.size) := by
  have hw := h.wr
  have hu := h.us
  have hol := h.ol
  have hsz := h.sz
  by_cases hs : (a.os.length : Int) < a.size
  · obtain ⟨e1, e2⟩ := room_small hs
    rw [e1]
    exact ⟨h.more (by omega) (by omega), fun _ => by omega⟩
  · cases hv : vic a.os a.m with
    | none =>
      obtain ⟨e1, e2⟩ := room_full hs hv
      rw [e1, e2]
      exact ⟨h.more (by omega) (by omega), fun e => by cases e⟩
    | some v =>
      have hvm := vic_mem hv
      obtain ⟨hd, hm⟩ : ∃ hd, a.m v = some hd := Option.isSome_iff_exists.1 ((h.link.iff v).1 hvm)
      obtain ⟨e1, e2⟩ := room_vic hs hv hm
      have hu' : usedO (if hd.ch then supO a.x a.s v else a.s) ≤ W + 1 := by
        split
        · have := supO_used a.x a.s v; omega
        · omega
      have hx' : (if hd.ch then a.x.write v hd.b else a.x).stable.length = a.x.stable.length ∧ (if hd.ch then a.x.write v hd.b else a.x).writes ≤ W + 1 := by
        split
        · exact ⟨rfl, by show a.x.writes + 1 ≤ W + 1; omega⟩
        · exact ⟨rfl, by omega⟩
      rw [e1, e2]
      by_cases hc : (if hd.ch = true then codeO a.x a.s v else 0) = 0
      · rw [if_pos hc]
        have hle : (a.os.erase v).length = a.os.length - 1 := List.length_erase_of_mem hvm
        have hpos := List.length_pos_of_mem hvm
        refine ⟨h.to hx'.1 (h.link.erase v) (fun k hk => .inl (List.mem_of_mem_erase hk)) rfl (by show ((a.os.erase v).length : Int) ≤ a.size; omega) hx'.2 hu' h.hi h.ms (fun k x hk => by
          have hk' : delm a.m v k = some x := hk
          unfold delm at hk'
          split at hk'
          · cases hk'
          · exact h.pn k x hk'), fun _ => by show ((a.os.erase v).length : Int) + 1 ≤ a.size; omega⟩
      · rw [if_neg hc]
        exact ⟨h.to rfl h.link (fun k hk => .inl hk) rfl h.ol (by show a.x.writes ≤ W + 1; omega) hu' h.hi h.ms h.pn, fun e => absurd e hc⟩
theorem Inv.hold {a : CA} {n W : Int} (h : Inv a n W) (hn : 0 ≤ n) (i : Int) : Inv (holdR a i).2 (n + 1) (W + 1) := by
  have hh := h.hi
  have hm' := h.ms
  by_cases hi : a.x.is i
  · cases hm : a.m i with
    | some hd =>
      rw [hold_hit hi hm]
      have hio : i ∈ a.os := (h.link.iff i).2 (by rw [hm]; rfl)
      have hpos := List.length_pos_of_mem hio
      exact h.to rfl (h.link.front hio) (fun k hk => by
        have hk' : k ∈ i :: a.os.erase i := hk
        rcases List.mem_cons.1 hk' with rfl | hk'
        · exact .inl hio
        · exact .inl (List.mem_of_mem_erase hk')) rfl (by
        show ((i :: a.os.erase i).length : Int) ≤ a.size
        rw [List.length_cons, List.length_erase_of_mem hio]
        have := h.ol
        omega) (by have := h.wr; show a.x.writes ≤ W + 1; omega) (by have := h.us; show usedO a.s ≤ W + 1; omega) (by show a.hits + 1 ≤ n + 1; omega) (by show a.misses ≤ n + 1; omega) (fun k x hk => by have := h.pn k x hk; omega)
    | none =>
      rw [hold_miss hi hm]
      obtain ⟨r1, r2⟩ := h.room
      have hnone : (roomA a).m i = none := room_none (size := a.size) (os := a.os) (x := a.x) (s := a.s) hm
      have hmi : (roomA a).misses = a.misses := rfl
      have hhi : (roomA a).hits = a.hits := rfl
      have hsi : (roomA a).size = a.size := rfl
      have his : (roomA a).x.is i := ⟨hi.1, by rw [r1.len, ← h.len]; exact hi.2⟩
      split
      · rename_i hc
        have hr := r2 hc
        exact r1.to (a' := addA (roomA a) i) rfl (r1.link.add hnone _) (fun k hk => by
          have hk' : k ∈ i :: (roomA a).os := hk
          rcases List.mem_cons.1 hk' with rfl | hk'
          · exact .inr his
          · exact .inl hk') rfl (by show ((i :: (roomA a).os).length : Int) ≤ a.size; rw [List.length_cons]; omega) r1.wr r1.us (by show (roomA a).hits ≤ n + 1; omega) (by show (roomA a).misses + 1 ≤ n + 1; omega) (fun k x hk => by
          have hk' : updm (roomA a).m i _ k = some x := hk
          by_cases e : k = i
          · rw [e, updm_same] at hk'
            obtain rfl := Option.some.inj hk'
            show (0 : Int) ≤ n + 1
            omega
          · rw [updm_other _ _ e] at hk'
            have := r1.pn k x hk'
            omega)
      · exact r1.more (by omega) (by omega)
  · rw [hold_not hi]
    exact h.more (by omega) (by omega)
theorem pins_le {a : CA} {n W : Int} (h : Inv a n W) (hn : 0 ≤ n) (i : Int) : pinsOf a i ≤ n := by
  unfold pinsOf
  cases hm : a.m i with
  | none => exact hn
  | some hd => exact h.pn i hd hm
theorem Inv.put {a : CA} {n W : Int} (h : Inv a n W) (hn : 0 ≤ n) (i : Int) (b : List Int) : Inv (putR a i b).2 (n + 1) (W + 1) := by
  have h1 := h.hold hn i
  unfold putR
  split
  · rename_i hc
    obtain ⟨hd, hm⟩ := hold_held hc h.link
    exact h1.set hm (by omega) (pins_le h1 (by omega) i)
  · exact h1
theorem Inv.dforce {a : CA} {n W : Int} (h : Inv a n W) (i : Int) (b : List Int) : Inv (dforceA a i b) n (W + 1) := by
  refine h.disk ?_ ?_ ?_
  · split
    · show (a.x.stable.set i.toNat b).length = _; rw [List.length_set]
    · rfl
  · have := h.wr
    split
    · show a.x.writes + 1 ≤ W + 1; omega
    · omega
  · have := supO_used a.x a.s i
    have := h.us
    omega
theorem Inv.force {a : CA} {n W : Int} (h : Inv a n W) (hn : 0 ≤ n) (i : Int) (b : List Int) : Inv (forceR a i b).2 (n + 1) (W + 2) := by
  have h1 := h.hold hn i
  unfold forceR
  split
  · rename_i hc
    obtain ⟨hd, hm⟩ := hold_held hc h.link
    have h2 := (h1.dforce i b).more (Int.le_refl _) (show W + 1 + 1 ≤ W + 2 by omega)
    split
    · exact h2.set (i := i) (hd := hd) hm (by omega) (pins_le h1 (by omega) i)
    · exact h2
  · exact h1.more (by omega) (by omega)
theorem Inv.pin {a : CA} {n W : Int} (h : Inv a n W) (i : Int) : Inv (pinR a i).2 (n + 1) W := by
  unfold pinR
  cases hm : a.m i with
  | none => exact h.more (by omega) (Int.le_refl _)
  | some hd => exact h.set hm (by omega) (by have := h.pn i hd hm; show hd.pins + 1 ≤ n + 1; omega)
theorem Inv.unpin {a : CA} {n W : Int} (h : Inv a n W) (i : Int) : Inv (unpinR a i).2 (n + 1) W := by
  unfold unpinR
  cases hm : a.m i with
  | none => exact h.more (by omega) (Int.le_refl _)
  | some hd =>
    dsimp only
    split
    · exact h.more (by omega) (Int.le_refl _)
    · exact h.set hm (by omega) (by have := h.pn i hd hm; show hd.pins - 1 ≤ n + 1; omega)
theorem Inv.wr_ {a : CA} {n W : Int} (h : Inv a n W) (i : Int) : Inv (wrR a i).2 n (W + 1) := by
  have hw := h.wr
  have hu := h.us
  have hs := supO_used a.x a.s i
  unfold wrR
  cases hm : a.m i with
  | none => exact h.more (Int.le_refl _) (by omega)
  | some hd =>
    dsimp only
    split
    · split
      · exact (h.disk (x' := a.x.write i hd.b) (s' := supO a.x a.s i) rfl (by show a.x.writes + 1 ≤ W + 1; omega) (by omega)).set (i := i) (hd := hd) (hd' := ⟨hd.b, false, hd.pins⟩) hm (Int.le_refl _) (h.pn i hd hm)
      · exact h.disk rfl (by omega) (by omega)
    · exact h.more (Int.le_refl _) (by omega)
theorem Inv.back {a : CA} {n W : Int} (h : Inv a n W) (i : Int) : Inv (backR a i).2 n (W + 1) := by
  unfold backR
  split
  · exact h.wr_ i
  · exact h.more (Int.le_refl _) (by omega)
theorem Inv.syncL_ : ∀ (l : List Int) {a : CA} {n W : Int}, Inv a n W → Inv (syncL l a).2 n (W + l.length)
  | [], a, n, W, h => by simpa [syncL] using h
  | i :: l, a, n, W, h => by
    unfold syncL
    have h1 := h.wr_ i
    split
    · exact (Inv.syncL_ l h1).more (Int.le_refl _) (by rw [List.length_cons]; omega)
    · exact h1.more (Int.le_refl _) (by rw [List.length_cons]; omega)
theorem Inv.sync {a : CA} {n W : Int} (h : Inv a n W) : Inv (syncR a).2 n (W + 64) := by
  refine (Inv.syncL_ _ h).more (Int.le_refl _) ?_
  rw [sorted_len]
  have h1 := List.length_filter_le (chB a.m) a.os
  have h2 := h.ol
  have h3 := h.sz
  unfold chs
  omega
theorem Inv.drop {a : CA} {n W : Int} (h : Inv a n W) : Inv (dropA a) n W :=
  h.to rfl ⟨List.nodup_nil, fun k => by show k ∈ [] ↔ (none : Option Hd).isSome = true; simp⟩ (fun k hk => by cases hk) rfl (by have := h.sz; show (0 : Int) ≤ a.size; omega) h.wr h.us h.hi h.ms (fun k x hk => by cases hk)
theorem Inv.sup {a : CA} {n W : Int} (h : Inv a n W) (s' : Sup) (hu : s'.used ≤ W) : Inv { a with s := some s' } n W := h.disk rfl h.wr hu
theorem Inv.fresh {size : Int} (h1 : 1 ≤ size) (h2 : size ≤ 64) : Inv (freshC size (freshD 6) (some newS)) 0 0 :=
  { len := rfl
    link := ⟨List.nodup_nil, fun k => by show k ∈ [] ↔ (none : Option Hd).isSome = true; simp⟩
    inn := fun k hk => by cases hk
    sz := ⟨h1, h2⟩
    ol := by show (0 : Int) ≤ size; omega
    wr := Int.le_refl _
    us := Int.le_refl _
    hi := Int.le_refl _
    ms := Int.le_refl _
    pn := fun k x hk => by cases hk }
end Go.Proofs.Ytnbppfhnagacfaa
