/- scupperlaw13.do: one act, at both. -/
import Derived.Test.YtnbppfhnagacfaaJp6
namespace Go.Proofs.Ytnbppfhnagacfaa
open Go.RowKit Go.Proofs.YtnbppfhnagacfaaW.PrintLast
set_option linter.unusedVariables false
set_option linter.unusedSimpArgs false
attribute [local go_sem ↓] Go.wp_at_zero Go.wp_at_succ

def supS (a : CA) : Sup := a.s.getD newS
def limA (a : CA) (n : Int) : Int × CA := ((limS (supS a) n).1, { a with s := some (limS (supS a) n).2 })
def resA (a : CA) : CA := { a with s := some (resS (supS a)) }
/-- What an act does. -/
def stepR (a : CA) (x : ActD) : CA :=
  if amongF x.dn 14 = 3 ∨ amongF x.dn 14 = 4 ∨ amongF x.dn 14 = 5 then (putR a x.at_ x.b).2
  else if amongF x.dn 14 = 13 then (forceR a x.at_ x.b).2
  else if amongF x.dn 14 = 6 then (pinR a x.at_).2
  else if amongF x.dn 14 = 7 then (unpinR a x.at_).2
  else if amongF x.dn 14 = 8 then (backR a x.at_).2
  else if amongF x.dn 14 = 9 then (syncR a).2
  else if amongF x.dn 14 = 10 then dropA a
  else if amongF x.dn 14 = 11 then (limA a x.at_).2
  else if amongF x.dn 14 = 12 then resA a
  else (holdR a x.at_).2
theorem Inv.rm {a : CA} {n W : Int} (h : Inv a n W) (hn : n ≤ 1000) (hW : W ≤ 100000) : Room a ∧ a.x.writes < 800000 ∧ usedO a.s < 900000000 ∧ (∀ s', a.s = some s' → s'.used < 1000000000) ∧ a.os.length < 1000 ∧ (∀ k x, a.m k = some x → x.pins < 1000000) := by
  have h1 := h.wr
  have h2 := h.us
  have h3 := h.hi
  have h4 := h.ms
  have h5 := h.ol
  have h6 := h.sz
  have hu : ∀ s', a.s = some s' → s'.used < 1000000000 := fun s' hs => by rw [hs] at h2; have : s'.used ≤ W := h2; omega
  exact ⟨⟨by omega, by omega, by omega, by omega, hu⟩, by omega, by omega, hu, by omega, fun k x hk => by have := h.pn k x hk; omega⟩
theorem limS_ok {s : Sup} {n : Int} (h : s.ok) (hn : (key n).wf = true) : (limS s n).2.ok := by
  have hb : -9223372036854775808 ≤ n ∧ n ≤ 9223372036854775807 := by
    unfold key at hn
    simp [Lit.wf, IntKind.min, IntKind.max, IntKind.signed, IntKind.bits] at hn
    omega
  unfold limS
  split
  · exact h
  · exact ⟨hb, h.2⟩
theorem resS_ok {s : Sup} (h : s.ok) : (resS s).ok := ⟨⟨by show -9223372036854775808 ≤ (-1 : Int); decide, by show (-1 : Int) ≤ 9223372036854775807; decide⟩, h.2⟩
theorem real_limit {F : Nat → Prop} {c d g : Nat} {hp : Int → Nat} {a : CA} (n : Int) (w : World) (h : St F w c d (some g) hp a) (hn : (key n).wf = true) :
    Calls Try.prog 46 #[.pointer (some ⟨g, 0, none⟩), .int .i64 n] w fun r w' => r = .returned (.int .i64 (limA a n).1) ∧ St (grow F w w') w' c d (some g) hp (limA a n).2 ∧ Turn (fun j => F j ∨ some g = some j) w w' := by
  obtain ⟨s, hs, hb, hok⟩ := h.sup
  have e : supS a = s := by unfold supS; rw [hs]; rfl
  unfold limA
  rw [e]
  refine (limit_any g s n w hb).mono ?_
  rintro r w' ⟨rfl, h1, h2⟩
  exact ⟨rfl, h.setSup h2 h1 (limS_ok hok hn), h2.mono fun j _ e => .inr (by rw [e])⟩
theorem ref_limit {F : Nat → Prop} {y e q : Nat} {a : CA} (n : Int) (w : World) (h : RSt F w y e q a) (hn : (key n).wf = true) :
    Calls Try.prog 47 #[.pointer (some ⟨q, 0, none⟩), .int .i64 n] w fun r w' => r = .returned (.int .i64 (limA a n).1) ∧ RSt (grow F w w') w' y e q (limA a n).2 ∧ Turn (fun j => F j ∨ j = q) w w' := by
  obtain ⟨s, hs, hb, hok⟩ := h.sup
  have e : supS a = s := by unfold supS; rw [hs]; rfl
  unfold limA
  rw [e]
  refine (rlimit_any q s n w hb).mono ?_
  rintro r w' ⟨rfl, h1, h2⟩
  exact ⟨rfl, h.setSup h2 h1 (limS_ok hok hn), h2.mono fun j _ e => .inr e⟩
theorem real_restore {F : Nat → Prop} {c d g : Nat} {hp : Int → Nat} {a : CA} (w : World) (h : St F w c d (some g) hp a) :
    Calls Try.prog 48 #[.pointer (some ⟨g, 0, none⟩)] w fun r w' => r = .returned (.tuple #[]) ∧ St (grow F w w') w' c d (some g) hp (resA a) ∧ Turn (fun j => F j ∨ some g = some j) w w' := by
  obtain ⟨s, hs, hb, hok⟩ := h.sup
  have e : supS a = s := by unfold supS; rw [hs]; rfl
  unfold resA
  rw [e]
  refine (restore_any g s w hb).mono ?_
  rintro r w' ⟨rfl, h1, h2⟩
  exact ⟨rfl, h.setSup h2 h1 (resS_ok hok), h2.mono fun j _ e => .inr (by rw [e])⟩
theorem ref_restore {F : Nat → Prop} {y e q : Nat} {a : CA} (w : World) (h : RSt F w y e q a) :
    Calls Try.prog 49 #[.pointer (some ⟨q, 0, none⟩)] w fun r w' => r = .returned (.tuple #[]) ∧ RSt (grow F w w') w' y e q (resA a) ∧ Turn (fun j => F j ∨ j = q) w w' := by
  obtain ⟨s, hs, hb, hok⟩ := h.sup
  have e : supS a = s := by unfold supS; rw [hs]; rfl
  unfold resA
  rw [e]
  refine (rrestore_any q s w hb).mono ?_
  rintro r w' ⟨rfl, h1, h2⟩
  exact ⟨rfl, h.setSup h2 h1 (resS_ok hok), h2.mono fun j _ e => .inr e⟩
theorem RSt.drop {G : Nat → Prop} {w : World} {y e q : Nat} {a : CA} (h : RSt G w y e q a) : (∃ v, w.cell? ⟨y, 2, none⟩ = some v) ∧ w.frozen? ⟨y, 2, none⟩ = false ∧ y < w.heap.size ∧ RSt (grow G w (w.setCell ⟨y, 2, none⟩ (.slice none 0 0))) (w.setCell ⟨y, 2, none⟩ (.slice none 0 0)) y e q (dropA a) ∧ Turn (fun j => G j ∨ j = q) w (w.setCell ⟨y, 2, none⟩ (.slice none 0 0)) := by
  obtain ⟨s, Fc, Fd, lv, sv, wv, vs, M⟩ := h
  have hT : Turn (fun j => j = y) w (w.setCell ⟨y, 2, none⟩ (.slice none 0 0)) := (Turn.refl (fun j => j = y) w).setCell (p := ⟨y, 2, none⟩) (fun _ => rfl) _
  have hn := M.num
  refine ⟨⟨_, M.blk.cell 2⟩, M.blk.frozen 2, M.blk.lt, ⟨_, _, _, _, _, _, _, M.goC (a' := dropA a) (hT.mono fun j _ e => by rw [e]; exact M.fc) (M.blk.set_ 2 _) ⟨World.ownsRow_nil _ _ _ _, fun c h => by cases h⟩ rfl rfl ⟨List.nodup_nil, fun k => by show k ∈ [] ↔ (none : Option Hd).isSome = true; simp⟩ (fun k h hk => by cases hk) ⟨hn.1, hn.2.1, hn.2.2.1, hn.2.2.2.1, by show 0 ≤ 1000; decide⟩ (fun j hj => by cases hj)⟩, hT.mono fun j _ e => .inl (by rw [e]; exact M.sub _ (.inl M.fc))⟩
theorem Bo.drop {U : Nat → Prop} {w : World} {c d g y e q : Nat} {a1 a2 : CA} (h : Bo U w c d g y e q a1 a2) : (∃ v, w.cell? ⟨y, 2, none⟩ = some v) ∧ w.frozen? ⟨y, 2, none⟩ = false ∧ y < w.heap.size ∧ Bo (grow U w (w.setCell ⟨y, 2, none⟩ (.slice none 0 0))) (w.setCell ⟨y, 2, none⟩ (.slice none 0 0)) c d g y e q a1 (dropA a2) ∧ BT U g q w (w.setCell ⟨y, 2, none⟩ (.slice none 0 0)) := by
  have h0 := h
  obtain ⟨F, G, hp, h1, h2, h3, h4, h5, h6, h7, h8⟩ := h
  obtain ⟨k1, k2, k3, k4, k5⟩ := h2.drop
  have hs := k5.size
  refine ⟨k1, k2, k3, ⟨F, _, hp, h1.turn k5 (fun j hj e => ?_) (fun g' hg e => ?_), k4, fun j hj hG => ?_, fun j hj => ?_, fun e => ?_, fun e => ?_, h7, fun j hj => ?_⟩, k5.mono fun j _ e => ?_⟩
  · rcases e with e | e
    · exact h3 j hj e
    · subst e; exact h6 (h4 _ (.inl hj))
  · obtain rfl := Option.some.inj hg
    rcases e with e | e
    · exact h5 (h4 _ (.inr e))
    · exact h7 e
  · rcases hG with hG | hG
    · exact h3 j hj hG
    · have := h8 j (h4 j (.inl hj)); omega
  · rcases hj with hj | hj | hj
    · exact .inl (h4 j (.inl hj))
    · exact .inl (h4 j (.inr hj))
    · exact .inr hj
  · rcases e with e | e
    · exact h5 e
    · have := h0.sz.1; omega
  · rcases e with e | e
    · exact h6 e
    · have := h0.sz.2.1; omega
  · rcases hj with hj | hj
    · have := h8 j hj; omega
    · exact hj.2
  · rcases e with e | e
    · exact .inl (h4 j (.inr e))
    · exact .inr (.inr e)
theorem Bo.getB_len {U : Nat → Prop} {w : World} {c d g y e q : Nat} {a1 a2 : CA} (h : Bo U w c d g y e q a1 a2) (i : Int) : (getB a1 i).length = 64 := by
  obtain ⟨F, G, hp, h1, -⟩ := h
  unfold getB
  cases hm : a1.m i with
  | none => rfl
  | some hd => exact (h1.held hm).2.1
set_option maxRecDepth 100000 in
set_option maxHeartbeats 16000000 in
theorem do_any {U : Nat → Prop} {c d g y e q : Nat} {a : CA} {n W : Int} (x : ActD) (w : World) (hx : x.b.length = 64) (hxw : (key x.at_).wf = true) (hB : Bo U w c d g y e q a a) (hI : Inv a n W) (hn : 0 ≤ n ∧ n ≤ 1000) (hW : W ≤ 100000) :
    Calls Try.prog 26 #[.pointer (some ⟨c, 0, none⟩), .pointer (some ⟨y, 0, none⟩), .pointer (some ⟨g, 0, none⟩), .pointer (some ⟨q, 0, none⟩), .agg x.cells.toArray] w fun r w' => r = .returned (.bool true) ∧ Bo (grow U w w') w' c d g y e q (stepR a x) (stepR a x) ∧ BT U g q w w' := by
  obtain ⟨hgl, hql, hUg, hUq, hgq, hUl, hUy⟩ := hB.sz
  obtain ⟨hrm, hrw, hru, hrs, hro, hrp⟩ := hI.rm hn.2 hW
  obtain ⟨w1, hw1⟩ : ∃ w1, w1 = w.alloc (.cells x.cells.toArray 35) := ⟨_, rfl⟩
  have hb1 : Below w.heap.size w w1 := by rw [hw1]; exact bel_alloc (Below.refl _ _) _
  have hs1 : w1.heap.size = w.heap.size + 1 := by rw [hw1]; simp
  have hV1 : Blk w1 w.heap.size 35 x.cells.toArray := by rw [hw1]; exact Blk.new _ _ _
  have hB1 := hB.turn (Turn.of_below (S := fun _ => False) hb1) (fun _ _ => id) id id
  have HB1 := Lib.hid hb1
  clear hB
  go_enter Try.func26, Try.ntmps26
  go_upto_region 1 with (fail)
  change Code.wp _ _ _ _ (World.alloc w (.cells x.cells.toArray 35))
  rw [← hw1]
  obtain ⟨b9, hb9⟩ : ∃ b9, b9 = w.heap.size := ⟨_, rfl⟩
  rw [← hb9] at hV1 ⊢
  have hb9l : b9 < w1.heap.size := by omega
  have hb9u : w.heap.size ≤ b9 := by omega
  have hb9U : ¬ (U b9 ∨ b9 = g ∨ b9 = q) := fun e => by
    rcases e with e | e | e
    · have := hUl b9 e; omega
    · omega
    · omega
  have HV1 := Lib.hid hV1
  have HKp := Lib.hid (show ∀ W, BT U g q w1.drew W → W.cell? ⟨b9, 1, none⟩ = some (.int .i64 x.at_) ∧ W.rangeAt b9 2 (bytes x.b) from fun W hT => by
    have hVW : Blk W b9 35 x.cells.toArray := (HV1.out.drew).turn hT hb9U
    refine ⟨by rw [hVW.cell 1]; rfl, fun j v hv => ?_⟩
    rw [hVW.cell (2 + j), List.getElem?_toArray]
    unfold ActD.cells
    rw [List.getElem?_append_right (by simp)]
    simpa using hv)
  have c90 : w1.cell? ⟨b9, 0, none⟩ = some (.int .i64 x.dn) := HV1.out.cell 0
  have c91 : w1.cell? ⟨b9, 1, none⟩ = some (.int .i64 x.at_) := HV1.out.cell 1
  have HsU := Lib.hid (show ∀ j, U j → j < w1.drew.heap.size from fun j hj => by have := hUl j hj; show j < w1.heap.size; omega)
  have HsG := Lib.hid (show ¬ U g ∧ g < w1.drew.heap.size from ⟨hUg, by show g < w1.heap.size; omega⟩)
  have HsQ := Lib.hid (show ¬ U q ∧ q < w1.drew.heap.size from ⟨hUq, by show q < w1.heap.size; omega⟩)
  have HFin := Lib.hid (show ∀ W2 b, Bo (grow U w1.drew W2) W2 c d g y e q b b → BT U g q w1.drew W2 → Bo (grow U w W2) W2 c d g y e q b b ∧ BT U g q w W2 from fun W2 b h1 h2 => by
    have hs2 := h2.size
    have hsd : w1.drew.heap.size = w1.heap.size := rfl
    refine ⟨h1.wide (fun j hj => hj.imp id fun e => ⟨by omega, e.2⟩) (fun j hj => ?_) (fun e => ?_) (fun e => ?_), (Turn.of_below (S := fun j => U j ∨ j = g ∨ j = q) HB1.out).trans (show BT U g q w1 W2 from ⟨h2.os, h2.tape, h2.output, h2.size, h2.block⟩) fun j _ e => e⟩
    · rcases hj with hj | hj
      · have := hUl j hj; omega
      · exact hj.2
    · rcases e with e | e
      · exact hUg e
      · omega
    · rcases e with e | e
      · exact hUq e
      · omega)
  have hi32 : (Try.prog.info? 32).map (fun i => i.size) = some (bytes x.b).length := by rw [bytes_len, hx]; kernel_rfl
  clear hw1 hb1 hb9 hV1
  go_wp2_with fail
  refine (among_any x.dn 14 w1 (by decide) (by decide)).mono ?_
  rintro r w1 ⟨rfl, rfl⟩
  clear c90
  obtain ⟨v, hv⟩ : ∃ v, amongF x.dn 14 = v := ⟨_, rfl⟩
  rw [hv]
  have HVv := Lib.hid hv
  clear hv
  by_cases hv345 : v = 3 ∨ v = 4 ∨ v = 5
  · rcases hv345 with rfl | rfl | rfl
    all_goals
      have HSt := Lib.hid (show stepR a x = (putR a x.at_ x.b).2 from by unfold stepR; rw [if_pos (by rw [HVv.out]; omega)])
      obtain ⟨code, hcode⟩ : ∃ k, (putR a x.at_ x.b).1 = k := ⟨_, rfl⟩
      obtain ⟨a', ha'⟩ : ∃ b, (putR a x.at_ x.b).2 = b := ⟨_, rfl⟩
      have HA := Lib.hid (show (putR a x.at_ x.b).2 = a' from ha')
      have hBd := hB1.turn (show Turn (fun _ => False) w1 w1.drew from Turn.of_below ((Below.refl _ _).drew)) (fun _ _ => id) id id
      have HC1 := Lib.hid (show Calls Try.prog 10 #[.pointer (some ⟨c, 0, none⟩), .int .i64 x.at_, blkV x.b] w1.drew fun r w' => r = .returned (.int .i64 code) ∧ Bo (grow U w1.drew w') w' c d g y e q a' a ∧ BT U g q w1.drew w' from by have h0 := hBd.real (b1 := (putR a x.at_ x.b).2) (val := .int .i64 (putR a x.at_ x.b).1) (fun F hp h => put_any x.at_ x.b _ h hrm hxw hx); rw [hcode, ha'] at h0; exact h0)
      have HC2 := Lib.hid (show ∀ W1, Bo (grow U w1.drew W1) W1 c d g y e q a' a → Calls Try.prog 40 #[.pointer (some ⟨y, 0, none⟩), .int .i64 x.at_, blkV x.b] W1 fun r w' => r = .returned (.int .i64 code) ∧ Bo (grow (grow U w1.drew W1) W1 w') w' c d g y e q a' a' ∧ BT (grow U w1.drew W1) g q W1 w' from fun W1 h1 => by have h0 := h1.ref (b2 := (putR a x.at_ x.b).2) (val := .int .i64 (putR a x.at_ x.b).1) (fun G h => rput_any x.at_ x.b _ h (by omega) hrs hrm.hi hrm.ms hro hx); rw [hcode, ha'] at h0; exact h0)
      clear hBd hB1
      clear hcode ha'
      go_upto_region 5 with (fail)
      have hT0 : BT U g q w1.drew w1.drew := Turn.refl _ _
      refine start_ (n := 14) (S := fun w' => w'.cell? ⟨b9, 1, none⟩ = some (.int .i64 x.at_) ∧ w'.rangeAt b9 2 (bytes x.b)) (ds := []) #[false, false, false, false, false, false, false, false, false, false, false, false, false, false] (by kernel_rfl) rfl rfl ⟨(HKp.out _ hT0).1, (HKp.out _ hT0).2⟩ (fun hHeld => ?_)
      refine pure_ (i := 0) (N := some 22) (v := ?_) (a' := ?_) #[true, false, false, false, false, false, false, false, false, false, false, false, false, false] rfl rfl (by kernel_rfl) (fun _ _ _ h => h) (Or.inl ⟨by rfl, ?_⟩) ?_ ?_
      rotate_left
      · intro w'
        go_simp
        with_reducible rfl
      rotate_left
      · simp only [Act.put, List.setIfInBounds_toArray, List.set_cons_zero, List.set_cons_succ, i64_w, i32_w]
        rfl
      refine pure_ (i := 1) (N := some 23) (v := ?_) (a' := ?_) #[true, true, false, false, false, false, false, false, false, false, false, false, false, false] rfl rfl (by kernel_rfl) (fun _ _ _ h => h) (Or.inl ⟨by rfl, ?_⟩) ?_ ?_
      rotate_left
      · intro w'
        go_simp
        with_reducible rfl
      rotate_left
      · simp only [Act.put, List.setIfInBounds_toArray, List.set_cons_zero, List.set_cons_succ, i64_w, i32_w]
        rfl
      refine pure_ (i := 3) (N := some 25) (v := ?_) (a' := ?_) #[true, true, false, true, false, false, false, false, false, false, false, false, false, false] rfl rfl (by kernel_rfl) (fun _ _ _ h => h) (Or.inl ⟨by rfl, ?_⟩) ?_ ?_
      rotate_left
      · intro w'
        go_simp
        with_reducible rfl
      rotate_left
      · simp only [Act.put, List.setIfInBounds_toArray, List.set_cons_zero, List.set_cons_succ, i64_w, i32_w]
        rfl
      refine pure_ (i := 6) (N := some 28) (v := ?_) (a' := ?_) #[true, true, false, true, false, false, true, false, false, false, false, false, false, false] rfl rfl (by kernel_rfl) (fun _ _ _ h => h) (Or.inl ⟨by rfl, ?_⟩) ?_ ?_
      rotate_left
      · intro w'
        go_simp
        with_reducible rfl
      rotate_left
      · simp only [Act.put, List.setIfInBounds_toArray, List.set_cons_zero, List.set_cons_succ, i64_w, i32_w]
        rfl
      refine pure_ (i := 7) (N := some 29) (v := ?_) (a' := ?_) #[true, true, false, true, false, false, true, true, false, false, false, false, false, false] rfl rfl (by kernel_rfl) (fun _ _ _ h => h) (Or.inl ⟨by rfl, ?_⟩) ?_ ?_
      rotate_left
      · intro w'
        go_simp
        with_reducible rfl
      rotate_left
      · simp only [Act.put, List.setIfInBounds_toArray, List.set_cons_zero, List.set_cons_succ, i64_w, i32_w]
        rfl
      refine pure_ (i := 9) (N := some 31) (v := ?_) (a' := ?_) #[true, true, false, true, false, false, true, true, false, true, false, false, false, false] rfl rfl (by kernel_rfl) (fun _ _ _ h => h) (Or.inl ⟨by rfl, ?_⟩) ?_ ?_
      rotate_left
      · intro w'
        go_simp
        with_reducible rfl
      rotate_left
      · simp only [Act.put, List.setIfInBounds_toArray, List.set_cons_zero, List.set_cons_succ, i64_w, i32_w]
        rfl
      refine take_ (i := 2) (N := some 24) (v := ?_) (a' := ?_) #[true, true, true, true, false, false, true, true, false, true, false, false, false, false] rfl rfl (by kernel_rfl) (fun _ _ _ h => h) (Or.inl ⟨by rfl, ?_⟩) hHeld ?_ ?_
      rotate_left
      · rintro w' ⟨s0, s1⟩
        go_simp
        with_reducible rfl
      rotate_left
      · simp only [Act.put, List.setIfInBounds_toArray, List.set_cons_zero, List.set_cons_succ, i64_w, i32_w]
        rfl
      refine' take_ (i := 4) (N := some 26) (v := _) (a' := ?_) #[true, true, true, true, true, false, true, true, false, true, false, false, false, false] rfl rfl (by kernel_rfl) (fun _ _ _ h => h) (yieldsIf_load_mid (by rfl) _ _ rfl _ _ rfl _ _ (fun w hw => hw.2) Try.underlying32 rfl hi32) hHeld ?_ ?_
      rotate_left
      · simp only [Act.put, List.setIfInBounds_toArray, List.set_cons_zero, List.set_cons_succ, i64_w, i32_w]
        rfl
      refine take_ (i := 8) (N := some 30) (v := ?_) (a' := ?_) #[true, true, true, true, true, false, true, true, true, true, false, false, false, false] rfl rfl (by kernel_rfl) (fun _ _ _ h => h) (Or.inl ⟨by rfl, ?_⟩) hHeld ?_ ?_
      rotate_left
      · rintro w' ⟨s0, s1⟩
        go_simp
        with_reducible rfl
      rotate_left
      · simp only [Act.put, List.setIfInBounds_toArray, List.set_cons_zero, List.set_cons_succ, i64_w, i32_w]
        rfl
      refine' take_ (i := 10) (N := some 32) (v := _) (a' := ?_) #[true, true, true, true, true, false, true, true, true, true, true, false, false, false] rfl rfl (by kernel_rfl) (fun _ _ _ h => h) (yieldsIf_load_mid (by rfl) _ _ rfl _ _ rfl _ _ (fun w hw => hw.2) Try.underlying32 rfl hi32) hHeld ?_ ?_
      rotate_left
      · simp only [Act.put, List.setIfInBounds_toArray, List.set_cons_zero, List.set_cons_succ, i64_w, i32_w]
        rfl
      refine one_ (i := 5) (N := some 27) #[true, true, true, true, true, true, true, true, true, true, true, false, false, false] rfl rfl (by kernel_rfl) (by decide) (fun K hK => ?_)
      refine goes_ Try.func10 (by kernel_rfl) rfl #[.pointer (some ⟨c, 0, none⟩), .int .i64 x.at_, blkV x.b] (by rfl) rfl rfl (by simp only [List.map_toArray, List.map_cons, List.map_nil]; rfl) ?_
      with_reducible refine (HC1.out).mono ?_
      rintro r W1 ⟨rfl, hB1, hT1⟩
      refine ⟨_, rfl, ?_⟩
      refine hK.out _ _ ⟨(HKp.out _ hT1).1, (HKp.out _ hT1).2⟩ (fun hHeld => ?_)
      clear hK K
      refine norm_ (a' := ?_) ?_ ?_
      rotate_left
      · show Act.put _ (some 27) _ = _
        simp only [Act.put, List.setIfInBounds_toArray, List.set_cons_zero, List.set_cons_succ, i64_w, i32_w]
        rfl
      refine one_ (i := 11) (N := some 33) #[true, true, true, true, true, true, true, true, true, true, true, true, false, false] rfl rfl (by kernel_rfl) (by decide) (fun K hK => ?_)
      refine goes_ Try.func40 (by kernel_rfl) rfl #[.pointer (some ⟨y, 0, none⟩), .int .i64 x.at_, blkV x.b] (by rfl) rfl rfl (by simp only [List.map_toArray, List.map_cons, List.map_nil]; rfl) ?_
      with_reducible refine ((HC2.out _ hB1)).mono ?_
      rintro r W2 ⟨rfl, hB2, hT2⟩
      refine ⟨_, rfl, ?_⟩
      have hB2 := hB2.chain hT1.size hT2.size HsU.out HsG.out HsQ.out
      have hT2 := BT.chain hT1 hT2
      refine hK.out _ _ ⟨(HKp.out _ hT2).1, (HKp.out _ hT2).2⟩ (fun hHeld => ?_)
      clear hK K
      refine norm_ (a' := ?_) ?_ ?_
      rotate_left
      · show Act.put _ (some 33) _ = _
        simp only [Act.put, List.setIfInBounds_toArray, List.set_cons_zero, List.set_cons_succ, i64_w, i32_w]
        rfl
      refine pure_ (i := 12) (N := some 34) (v := ?_) (a' := ?_) #[true, true, true, true, true, true, true, true, true, true, true, true, true, false] rfl rfl (by kernel_rfl) (fun _ _ _ h => h) (Or.inl ⟨by rfl, ?_⟩) ?_ ?_
      rotate_left
      · intro w'
        go_simp
        with_reducible rfl
      rotate_left
      · simp only [Act.put, List.setIfInBounds_toArray, List.set_cons_zero, List.set_cons_succ, i64_w, i32_w]
        rfl
      refine pure_ (i := 13) (N := some 10) (v := ?_) (a' := ?_) #[true, true, true, true, true, true, true, true, true, true, true, true, true, true] rfl rfl (by kernel_rfl) (fun _ _ _ h => h) (Or.inl ⟨by rfl, ?_⟩) ?_ ?_
      rotate_left
      · intro w'
        go_simp
        with_reducible rfl
      rotate_left
      · simp only [Act.put, List.setIfInBounds_toArray, List.set_cons_zero, List.set_cons_succ, i64_w, i32_w]
        rfl
      refine done_ (by kernel_rfl) ?_
      have HF := Lib.hid (show Bo (grow U w W2) W2 c d g y e q a' a' ∧ BT U g q w W2 from HFin.out _ _ hB2 hT2)
      clear hB2 hT2 hT0 hHeld HC1 HC2
      go_wp2
      go_ret
      rw [HSt.out, HA.out]
      first | exact ⟨rfl, HF.out⟩ | exact ⟨by simp, HF.out⟩
  have hn3 : (v == 3) = false := by simp; omega
  have hn4 : (v == 4) = false := by simp; omega
  have hn5 : (v == 5) = false := by simp; omega
  by_cases hv13 : v = 13
  · subst hv13
    have HSt := Lib.hid (show stepR a x = (forceR a x.at_ x.b).2 from by unfold stepR; rw [if_neg (by rw [HVv.out]; omega), if_pos (by rw [HVv.out])])
    obtain ⟨code, hcode⟩ : ∃ k, (forceR a x.at_ x.b).1 = k := ⟨_, rfl⟩
    obtain ⟨a', ha'⟩ : ∃ b, (forceR a x.at_ x.b).2 = b := ⟨_, rfl⟩
    have HA := Lib.hid (show (forceR a x.at_ x.b).2 = a' from ha')
    have hBd := hB1.turn (show Turn (fun _ => False) w1 w1.drew from Turn.of_below ((Below.refl _ _).drew)) (fun _ _ => id) id id
    have HC1 := Lib.hid (show Calls Try.prog 11 #[.pointer (some ⟨c, 0, none⟩), .int .i64 x.at_, blkV x.b] w1.drew fun r w' => r = .returned (.int .i64 code) ∧ Bo (grow U w1.drew w') w' c d g y e q a' a ∧ BT U g q w1.drew w' from by have h0 := hBd.real (b1 := (forceR a x.at_ x.b).2) (val := .int .i64 (forceR a x.at_ x.b).1) (fun F hp h => cforce_any x.at_ x.b _ h hrm (by omega) hru hxw hx); rw [hcode, ha'] at h0; exact h0)
    have HC2 := Lib.hid (show ∀ W1, Bo (grow U w1.drew W1) W1 c d g y e q a' a → Calls Try.prog 41 #[.pointer (some ⟨y, 0, none⟩), .int .i64 x.at_, blkV x.b] W1 fun r w' => r = .returned (.int .i64 code) ∧ Bo (grow (grow U w1.drew W1) W1 w') w' c d g y e q a' a' ∧ BT (grow U w1.drew W1) g q W1 w' from fun W1 h1 => by have h0 := h1.ref (b2 := (forceR a x.at_ x.b).2) (val := .int .i64 (forceR a x.at_ x.b).1) (fun G h => rcforce_any x.at_ x.b _ h (by omega) hrs hrm.hi hrm.ms hro hx hru); rw [hcode, ha'] at h0; exact h0)
    clear hBd hB1
    clear hcode ha'
    go_upto_region 7 with (fail)
    have hT0 : BT U g q w1.drew w1.drew := Turn.refl _ _
    refine start_ (n := 14) (S := fun w' => w'.cell? ⟨b9, 1, none⟩ = some (.int .i64 x.at_) ∧ w'.rangeAt b9 2 (bytes x.b)) (ds := []) #[false, false, false, false, false, false, false, false, false, false, false, false, false, false] (by kernel_rfl) rfl rfl ⟨(HKp.out _ hT0).1, (HKp.out _ hT0).2⟩ (fun hHeld => ?_)
    refine pure_ (i := 0) (N := some 37) (v := ?_) (a' := ?_) #[true, false, false, false, false, false, false, false, false, false, false, false, false, false] rfl rfl (by kernel_rfl) (fun _ _ _ h => h) (Or.inl ⟨by rfl, ?_⟩) ?_ ?_
    rotate_left
    · intro w'
      go_simp
      with_reducible rfl
    rotate_left
    · simp only [Act.put, List.setIfInBounds_toArray, List.set_cons_zero, List.set_cons_succ, i64_w, i32_w]
      rfl
    refine pure_ (i := 1) (N := some 38) (v := ?_) (a' := ?_) #[true, true, false, false, false, false, false, false, false, false, false, false, false, false] rfl rfl (by kernel_rfl) (fun _ _ _ h => h) (Or.inl ⟨by rfl, ?_⟩) ?_ ?_
    rotate_left
    · intro w'
      go_simp
      with_reducible rfl
    rotate_left
    · simp only [Act.put, List.setIfInBounds_toArray, List.set_cons_zero, List.set_cons_succ, i64_w, i32_w]
      rfl
    refine pure_ (i := 3) (N := some 40) (v := ?_) (a' := ?_) #[true, true, false, true, false, false, false, false, false, false, false, false, false, false] rfl rfl (by kernel_rfl) (fun _ _ _ h => h) (Or.inl ⟨by rfl, ?_⟩) ?_ ?_
    rotate_left
    · intro w'
      go_simp
      with_reducible rfl
    rotate_left
    · simp only [Act.put, List.setIfInBounds_toArray, List.set_cons_zero, List.set_cons_succ, i64_w, i32_w]
      rfl
    refine pure_ (i := 6) (N := some 43) (v := ?_) (a' := ?_) #[true, true, false, true, false, false, true, false, false, false, false, false, false, false] rfl rfl (by kernel_rfl) (fun _ _ _ h => h) (Or.inl ⟨by rfl, ?_⟩) ?_ ?_
    rotate_left
    · intro w'
      go_simp
      with_reducible rfl
    rotate_left
    · simp only [Act.put, List.setIfInBounds_toArray, List.set_cons_zero, List.set_cons_succ, i64_w, i32_w]
      rfl
    refine pure_ (i := 7) (N := some 44) (v := ?_) (a' := ?_) #[true, true, false, true, false, false, true, true, false, false, false, false, false, false] rfl rfl (by kernel_rfl) (fun _ _ _ h => h) (Or.inl ⟨by rfl, ?_⟩) ?_ ?_
    rotate_left
    · intro w'
      go_simp
      with_reducible rfl
    rotate_left
    · simp only [Act.put, List.setIfInBounds_toArray, List.set_cons_zero, List.set_cons_succ, i64_w, i32_w]
      rfl
    refine pure_ (i := 9) (N := some 46) (v := ?_) (a' := ?_) #[true, true, false, true, false, false, true, true, false, true, false, false, false, false] rfl rfl (by kernel_rfl) (fun _ _ _ h => h) (Or.inl ⟨by rfl, ?_⟩) ?_ ?_
    rotate_left
    · intro w'
      go_simp
      with_reducible rfl
    rotate_left
    · simp only [Act.put, List.setIfInBounds_toArray, List.set_cons_zero, List.set_cons_succ, i64_w, i32_w]
      rfl
    refine take_ (i := 2) (N := some 39) (v := ?_) (a' := ?_) #[true, true, true, true, false, false, true, true, false, true, false, false, false, false] rfl rfl (by kernel_rfl) (fun _ _ _ h => h) (Or.inl ⟨by rfl, ?_⟩) hHeld ?_ ?_
    rotate_left
    · rintro w' ⟨s0, s1⟩
      go_simp
      with_reducible rfl
    rotate_left
    · simp only [Act.put, List.setIfInBounds_toArray, List.set_cons_zero, List.set_cons_succ, i64_w, i32_w]
      rfl
    refine' take_ (i := 4) (N := some 41) (v := _) (a' := ?_) #[true, true, true, true, true, false, true, true, false, true, false, false, false, false] rfl rfl (by kernel_rfl) (fun _ _ _ h => h) (yieldsIf_load_mid (by rfl) _ _ rfl _ _ rfl _ _ (fun w hw => hw.2) Try.underlying32 rfl hi32) hHeld ?_ ?_
    rotate_left
    · simp only [Act.put, List.setIfInBounds_toArray, List.set_cons_zero, List.set_cons_succ, i64_w, i32_w]
      rfl
    refine take_ (i := 8) (N := some 45) (v := ?_) (a' := ?_) #[true, true, true, true, true, false, true, true, true, true, false, false, false, false] rfl rfl (by kernel_rfl) (fun _ _ _ h => h) (Or.inl ⟨by rfl, ?_⟩) hHeld ?_ ?_
    rotate_left
    · rintro w' ⟨s0, s1⟩
      go_simp
      with_reducible rfl
    rotate_left
    · simp only [Act.put, List.setIfInBounds_toArray, List.set_cons_zero, List.set_cons_succ, i64_w, i32_w]
      rfl
    refine' take_ (i := 10) (N := some 47) (v := _) (a' := ?_) #[true, true, true, true, true, false, true, true, true, true, true, false, false, false] rfl rfl (by kernel_rfl) (fun _ _ _ h => h) (yieldsIf_load_mid (by rfl) _ _ rfl _ _ rfl _ _ (fun w hw => hw.2) Try.underlying32 rfl hi32) hHeld ?_ ?_
    rotate_left
    · simp only [Act.put, List.setIfInBounds_toArray, List.set_cons_zero, List.set_cons_succ, i64_w, i32_w]
      rfl
    refine one_ (i := 5) (N := some 42) #[true, true, true, true, true, true, true, true, true, true, true, false, false, false] rfl rfl (by kernel_rfl) (by decide) (fun K hK => ?_)
    refine goes_ Try.func11 (by kernel_rfl) rfl #[.pointer (some ⟨c, 0, none⟩), .int .i64 x.at_, blkV x.b] (by rfl) rfl rfl (by simp only [List.map_toArray, List.map_cons, List.map_nil]; rfl) ?_
    with_reducible refine (HC1.out).mono ?_
    rintro r W1 ⟨rfl, hB1, hT1⟩
    refine ⟨_, rfl, ?_⟩
    refine hK.out _ _ ⟨(HKp.out _ hT1).1, (HKp.out _ hT1).2⟩ (fun hHeld => ?_)
    clear hK K
    refine norm_ (a' := ?_) ?_ ?_
    rotate_left
    · show Act.put _ (some 42) _ = _
      simp only [Act.put, List.setIfInBounds_toArray, List.set_cons_zero, List.set_cons_succ, i64_w, i32_w]
      rfl
    refine one_ (i := 11) (N := some 48) #[true, true, true, true, true, true, true, true, true, true, true, true, false, false] rfl rfl (by kernel_rfl) (by decide) (fun K hK => ?_)
    refine goes_ Try.func41 (by kernel_rfl) rfl #[.pointer (some ⟨y, 0, none⟩), .int .i64 x.at_, blkV x.b] (by rfl) rfl rfl (by simp only [List.map_toArray, List.map_cons, List.map_nil]; rfl) ?_
    with_reducible refine ((HC2.out _ hB1)).mono ?_
    rintro r W2 ⟨rfl, hB2, hT2⟩
    refine ⟨_, rfl, ?_⟩
    have hB2 := hB2.chain hT1.size hT2.size HsU.out HsG.out HsQ.out
    have hT2 := BT.chain hT1 hT2
    refine hK.out _ _ ⟨(HKp.out _ hT2).1, (HKp.out _ hT2).2⟩ (fun hHeld => ?_)
    clear hK K
    refine norm_ (a' := ?_) ?_ ?_
    rotate_left
    · show Act.put _ (some 48) _ = _
      simp only [Act.put, List.setIfInBounds_toArray, List.set_cons_zero, List.set_cons_succ, i64_w, i32_w]
      rfl
    refine pure_ (i := 12) (N := some 49) (v := ?_) (a' := ?_) #[true, true, true, true, true, true, true, true, true, true, true, true, true, false] rfl rfl (by kernel_rfl) (fun _ _ _ h => h) (Or.inl ⟨by rfl, ?_⟩) ?_ ?_
    rotate_left
    · intro w'
      go_simp
      with_reducible rfl
    rotate_left
    · simp only [Act.put, List.setIfInBounds_toArray, List.set_cons_zero, List.set_cons_succ, i64_w, i32_w]
      rfl
    refine pure_ (i := 13) (N := some 10) (v := ?_) (a' := ?_) #[true, true, true, true, true, true, true, true, true, true, true, true, true, true] rfl rfl (by kernel_rfl) (fun _ _ _ h => h) (Or.inl ⟨by rfl, ?_⟩) ?_ ?_
    rotate_left
    · intro w'
      go_simp
      with_reducible rfl
    rotate_left
    · simp only [Act.put, List.setIfInBounds_toArray, List.set_cons_zero, List.set_cons_succ, i64_w, i32_w]
      rfl
    refine done_ (by kernel_rfl) ?_
    have HF := Lib.hid (show Bo (grow U w W2) W2 c d g y e q a' a' ∧ BT U g q w W2 from HFin.out _ _ hB2 hT2)
    clear hB2 hT2 hT0 hHeld HC1 HC2
    go_wp2
    go_ret
    rw [HSt.out, HA.out]
    first | exact ⟨rfl, HF.out⟩ | exact ⟨by simp, HF.out⟩
  have hn13 : (v == 13) = false := by simpa using hv13
  by_cases hv6 : v = 6
  · subst hv6
    have HSt := Lib.hid (show stepR a x = (pinR a x.at_).2 from by unfold stepR; rw [if_neg (by rw [HVv.out]; omega), if_neg (by rw [HVv.out]; omega), if_pos (by rw [HVv.out])])
    obtain ⟨code, hcode⟩ : ∃ k, (pinR a x.at_).1 = k := ⟨_, rfl⟩
    obtain ⟨a', ha'⟩ : ∃ b, (pinR a x.at_).2 = b := ⟨_, rfl⟩
    have HA := Lib.hid (show (pinR a x.at_).2 = a' from ha')
    have hBd := hB1.turn (show Turn (fun _ => False) w1 w1.drew from Turn.of_below ((Below.refl _ _).drew)) (fun _ _ => id) id id
    have HC1 := Lib.hid (show Calls Try.prog 20 #[.pointer (some ⟨c, 0, none⟩), .int .i64 x.at_] w1.drew fun r w' => r = .returned (.int .i64 code) ∧ Bo (grow U w1.drew w') w' c d g y e q a' a ∧ BT U g q w1.drew w' from by have h0 := hBd.real (b1 := (pinR a x.at_).2) (val := .int .i64 (pinR a x.at_).1) (fun F hp h => (pin_any x.at_ _ h hxw hrp).mono fun r w' ⟨k1, k2, k3⟩ => ⟨k1, ⟨_, k2⟩, k3⟩); rw [hcode, ha'] at h0; exact h0)
    have HC2 := Lib.hid (show ∀ W1, Bo (grow U w1.drew W1) W1 c d g y e q a' a → Calls Try.prog 42 #[.pointer (some ⟨y, 0, none⟩), .int .i64 x.at_] W1 fun r w' => r = .returned (.int .i64 code) ∧ Bo (grow (grow U w1.drew W1) W1 w') w' c d g y e q a' a' ∧ BT (grow U w1.drew W1) g q W1 w' from fun W1 h1 => by have h0 := h1.ref (b2 := (pinR a x.at_).2) (val := .int .i64 (pinR a x.at_).1) (fun G h => rpin_any x.at_ _ h hrp); rw [hcode, ha'] at h0; exact h0)
    clear hBd hB1
    clear hcode ha'
    go_upto_region 9 with (fail)
    have hT0 : BT U g q w1.drew w1.drew := Turn.refl _ _
    refine start_ (n := 10) (S := fun w' => w'.cell? ⟨b9, 1, none⟩ = some (.int .i64 x.at_)) (ds := []) #[false, false, false, false, false, false, false, false, false, false] (by kernel_rfl) rfl rfl ((HKp.out _ hT0).1) (fun hHeld => ?_)
    refine pure_ (i := 0) (N := some 52) (v := ?_) (a' := ?_) #[true, false, false, false, false, false, false, false, false, false] rfl rfl (by kernel_rfl) (fun _ _ _ h => h) (Or.inl ⟨by rfl, ?_⟩) ?_ ?_
    rotate_left
    · intro w'
      go_simp
      with_reducible rfl
    rotate_left
    · simp only [Act.put, List.setIfInBounds_toArray, List.set_cons_zero, List.set_cons_succ, i64_w, i32_w]
      rfl
    refine pure_ (i := 1) (N := some 53) (v := ?_) (a' := ?_) #[true, true, false, false, false, false, false, false, false, false] rfl rfl (by kernel_rfl) (fun _ _ _ h => h) (Or.inl ⟨by rfl, ?_⟩) ?_ ?_
    rotate_left
    · intro w'
      go_simp
      with_reducible rfl
    rotate_left
    · simp only [Act.put, List.setIfInBounds_toArray, List.set_cons_zero, List.set_cons_succ, i64_w, i32_w]
      rfl
    refine pure_ (i := 4) (N := some 56) (v := ?_) (a' := ?_) #[true, true, false, false, true, false, false, false, false, false] rfl rfl (by kernel_rfl) (fun _ _ _ h => h) (Or.inl ⟨by rfl, ?_⟩) ?_ ?_
    rotate_left
    · intro w'
      go_simp
      with_reducible rfl
    rotate_left
    · simp only [Act.put, List.setIfInBounds_toArray, List.set_cons_zero, List.set_cons_succ, i64_w, i32_w]
      rfl
    refine pure_ (i := 5) (N := some 57) (v := ?_) (a' := ?_) #[true, true, false, false, true, true, false, false, false, false] rfl rfl (by kernel_rfl) (fun _ _ _ h => h) (Or.inl ⟨by rfl, ?_⟩) ?_ ?_
    rotate_left
    · intro w'
      go_simp
      with_reducible rfl
    rotate_left
    · simp only [Act.put, List.setIfInBounds_toArray, List.set_cons_zero, List.set_cons_succ, i64_w, i32_w]
      rfl
    refine take_ (i := 2) (N := some 54) (v := ?_) (a' := ?_) #[true, true, true, false, true, true, false, false, false, false] rfl rfl (by kernel_rfl) (fun _ _ _ h => h) (Or.inl ⟨by rfl, ?_⟩) hHeld ?_ ?_
    rotate_left
    · intro w' s0
      go_simp
      with_reducible rfl
    rotate_left
    · simp only [Act.put, List.setIfInBounds_toArray, List.set_cons_zero, List.set_cons_succ, i64_w, i32_w]
      rfl
    refine take_ (i := 6) (N := some 58) (v := ?_) (a' := ?_) #[true, true, true, false, true, true, true, false, false, false] rfl rfl (by kernel_rfl) (fun _ _ _ h => h) (Or.inl ⟨by rfl, ?_⟩) hHeld ?_ ?_
    rotate_left
    · intro w' s0
      go_simp
      with_reducible rfl
    rotate_left
    · simp only [Act.put, List.setIfInBounds_toArray, List.set_cons_zero, List.set_cons_succ, i64_w, i32_w]
      rfl
    refine one_ (i := 3) (N := some 55) #[true, true, true, true, true, true, true, false, false, false] rfl rfl (by kernel_rfl) (by decide) (fun K hK => ?_)
    refine goes_ Try.func20 (by kernel_rfl) rfl #[.pointer (some ⟨c, 0, none⟩), .int .i64 x.at_] (by rfl) rfl rfl (by simp only [List.map_toArray, List.map_cons, List.map_nil]; rfl) ?_
    with_reducible refine (HC1.out).mono ?_
    rintro r W1 ⟨rfl, hB1, hT1⟩
    refine ⟨_, rfl, ?_⟩
    refine hK.out _ _ ((HKp.out _ hT1).1) (fun hHeld => ?_)
    clear hK K
    refine norm_ (a' := ?_) ?_ ?_
    rotate_left
    · show Act.put _ (some 55) _ = _
      simp only [Act.put, List.setIfInBounds_toArray, List.set_cons_zero, List.set_cons_succ, i64_w, i32_w]
      rfl
    refine one_ (i := 7) (N := some 59) #[true, true, true, true, true, true, true, true, false, false] rfl rfl (by kernel_rfl) (by decide) (fun K hK => ?_)
    refine goes_ Try.func42 (by kernel_rfl) rfl #[.pointer (some ⟨y, 0, none⟩), .int .i64 x.at_] (by rfl) rfl rfl (by simp only [List.map_toArray, List.map_cons, List.map_nil]; rfl) ?_
    with_reducible refine ((HC2.out _ hB1)).mono ?_
    rintro r W2 ⟨rfl, hB2, hT2⟩
    refine ⟨_, rfl, ?_⟩
    have hB2 := hB2.chain hT1.size hT2.size HsU.out HsG.out HsQ.out
    have hT2 := BT.chain hT1 hT2
    refine hK.out _ _ ((HKp.out _ hT2).1) (fun hHeld => ?_)
    clear hK K
    refine norm_ (a' := ?_) ?_ ?_
    rotate_left
    · show Act.put _ (some 59) _ = _
      simp only [Act.put, List.setIfInBounds_toArray, List.set_cons_zero, List.set_cons_succ, i64_w, i32_w]
      rfl
    refine pure_ (i := 8) (N := some 60) (v := ?_) (a' := ?_) #[true, true, true, true, true, true, true, true, true, false] rfl rfl (by kernel_rfl) (fun _ _ _ h => h) (Or.inl ⟨by rfl, ?_⟩) ?_ ?_
    rotate_left
    · intro w'
      go_simp
      with_reducible rfl
    rotate_left
    · simp only [Act.put, List.setIfInBounds_toArray, List.set_cons_zero, List.set_cons_succ, i64_w, i32_w]
      rfl
    refine pure_ (i := 9) (N := some 10) (v := ?_) (a' := ?_) #[true, true, true, true, true, true, true, true, true, true] rfl rfl (by kernel_rfl) (fun _ _ _ h => h) (Or.inl ⟨by rfl, ?_⟩) ?_ ?_
    rotate_left
    · intro w'
      go_simp
      with_reducible rfl
    rotate_left
    · simp only [Act.put, List.setIfInBounds_toArray, List.set_cons_zero, List.set_cons_succ, i64_w, i32_w]
      rfl
    refine done_ (by kernel_rfl) ?_
    have HF := Lib.hid (show Bo (grow U w W2) W2 c d g y e q a' a' ∧ BT U g q w W2 from HFin.out _ _ hB2 hT2)
    clear hB2 hT2 hT0 hHeld HC1 HC2
    go_wp2
    go_ret
    rw [HSt.out, HA.out]
    first | exact ⟨rfl, HF.out⟩ | exact ⟨by simp, HF.out⟩
  have hn6 : (v == 6) = false := by simpa using hv6
  by_cases hv7 : v = 7
  · subst hv7
    have HSt := Lib.hid (show stepR a x = (unpinR a x.at_).2 from by unfold stepR; rw [if_neg (by rw [HVv.out]; omega), if_neg (by rw [HVv.out]; omega), if_neg (by rw [HVv.out]; omega), if_pos (by rw [HVv.out])])
    obtain ⟨code, hcode⟩ : ∃ k, (unpinR a x.at_).1 = k := ⟨_, rfl⟩
    obtain ⟨a', ha'⟩ : ∃ b, (unpinR a x.at_).2 = b := ⟨_, rfl⟩
    have HA := Lib.hid (show (unpinR a x.at_).2 = a' from ha')
    have hBd := hB1.turn (show Turn (fun _ => False) w1 w1.drew from Turn.of_below ((Below.refl _ _).drew)) (fun _ _ => id) id id
    have HC1 := Lib.hid (show Calls Try.prog 21 #[.pointer (some ⟨c, 0, none⟩), .int .i64 x.at_] w1.drew fun r w' => r = .returned (.int .i64 code) ∧ Bo (grow U w1.drew w') w' c d g y e q a' a ∧ BT U g q w1.drew w' from by have h0 := hBd.real (b1 := (unpinR a x.at_).2) (val := .int .i64 (unpinR a x.at_).1) (fun F hp h => (unpin_any x.at_ _ h hxw).mono fun r w' ⟨k1, k2, k3⟩ => ⟨k1, ⟨_, k2⟩, k3⟩); rw [hcode, ha'] at h0; exact h0)
    have HC2 := Lib.hid (show ∀ W1, Bo (grow U w1.drew W1) W1 c d g y e q a' a → Calls Try.prog 43 #[.pointer (some ⟨y, 0, none⟩), .int .i64 x.at_] W1 fun r w' => r = .returned (.int .i64 code) ∧ Bo (grow (grow U w1.drew W1) W1 w') w' c d g y e q a' a' ∧ BT (grow U w1.drew W1) g q W1 w' from fun W1 h1 => by have h0 := h1.ref (b2 := (unpinR a x.at_).2) (val := .int .i64 (unpinR a x.at_).1) (fun G h => runpin_any x.at_ _ h); rw [hcode, ha'] at h0; exact h0)
    clear hBd hB1
    clear hcode ha'
    go_upto_region 11 with (fail)
    have hT0 : BT U g q w1.drew w1.drew := Turn.refl _ _
    refine start_ (n := 10) (S := fun w' => w'.cell? ⟨b9, 1, none⟩ = some (.int .i64 x.at_)) (ds := []) #[false, false, false, false, false, false, false, false, false, false] (by kernel_rfl) rfl rfl ((HKp.out _ hT0).1) (fun hHeld => ?_)
    refine pure_ (i := 0) (N := some 63) (v := ?_) (a' := ?_) #[true, false, false, false, false, false, false, false, false, false] rfl rfl (by kernel_rfl) (fun _ _ _ h => h) (Or.inl ⟨by rfl, ?_⟩) ?_ ?_
    rotate_left
    · intro w'
      go_simp
      with_reducible rfl
    rotate_left
    · simp only [Act.put, List.setIfInBounds_toArray, List.set_cons_zero, List.set_cons_succ, i64_w, i32_w]
      rfl
    refine pure_ (i := 1) (N := some 64) (v := ?_) (a' := ?_) #[true, true, false, false, false, false, false, false, false, false] rfl rfl (by kernel_rfl) (fun _ _ _ h => h) (Or.inl ⟨by rfl, ?_⟩) ?_ ?_
    rotate_left
    · intro w'
      go_simp
      with_reducible rfl
    rotate_left
    · simp only [Act.put, List.setIfInBounds_toArray, List.set_cons_zero, List.set_cons_succ, i64_w, i32_w]
      rfl
    refine pure_ (i := 4) (N := some 67) (v := ?_) (a' := ?_) #[true, true, false, false, true, false, false, false, false, false] rfl rfl (by kernel_rfl) (fun _ _ _ h => h) (Or.inl ⟨by rfl, ?_⟩) ?_ ?_
    rotate_left
    · intro w'
      go_simp
      with_reducible rfl
    rotate_left
    · simp only [Act.put, List.setIfInBounds_toArray, List.set_cons_zero, List.set_cons_succ, i64_w, i32_w]
      rfl
    refine pure_ (i := 5) (N := some 68) (v := ?_) (a' := ?_) #[true, true, false, false, true, true, false, false, false, false] rfl rfl (by kernel_rfl) (fun _ _ _ h => h) (Or.inl ⟨by rfl, ?_⟩) ?_ ?_
    rotate_left
    · intro w'
      go_simp
      with_reducible rfl
    rotate_left
    · simp only [Act.put, List.setIfInBounds_toArray, List.set_cons_zero, List.set_cons_succ, i64_w, i32_w]
      rfl
    refine take_ (i := 2) (N := some 65) (v := ?_) (a' := ?_) #[true, true, true, false, true, true, false, false, false, false] rfl rfl (by kernel_rfl) (fun _ _ _ h => h) (Or.inl ⟨by rfl, ?_⟩) hHeld ?_ ?_
    rotate_left
    · intro w' s0
      go_simp
      with_reducible rfl
    rotate_left
    · simp only [Act.put, List.setIfInBounds_toArray, List.set_cons_zero, List.set_cons_succ, i64_w, i32_w]
      rfl
    refine take_ (i := 6) (N := some 69) (v := ?_) (a' := ?_) #[true, true, true, false, true, true, true, false, false, false] rfl rfl (by kernel_rfl) (fun _ _ _ h => h) (Or.inl ⟨by rfl, ?_⟩) hHeld ?_ ?_
    rotate_left
    · intro w' s0
      go_simp
      with_reducible rfl
    rotate_left
    · simp only [Act.put, List.setIfInBounds_toArray, List.set_cons_zero, List.set_cons_succ, i64_w, i32_w]
      rfl
    refine one_ (i := 3) (N := some 66) #[true, true, true, true, true, true, true, false, false, false] rfl rfl (by kernel_rfl) (by decide) (fun K hK => ?_)
    refine goes_ Try.func21 (by kernel_rfl) rfl #[.pointer (some ⟨c, 0, none⟩), .int .i64 x.at_] (by rfl) rfl rfl (by simp only [List.map_toArray, List.map_cons, List.map_nil]; rfl) ?_
    with_reducible refine (HC1.out).mono ?_
    rintro r W1 ⟨rfl, hB1, hT1⟩
    refine ⟨_, rfl, ?_⟩
    refine hK.out _ _ ((HKp.out _ hT1).1) (fun hHeld => ?_)
    clear hK K
    refine norm_ (a' := ?_) ?_ ?_
    rotate_left
    · show Act.put _ (some 66) _ = _
      simp only [Act.put, List.setIfInBounds_toArray, List.set_cons_zero, List.set_cons_succ, i64_w, i32_w]
      rfl
    refine one_ (i := 7) (N := some 70) #[true, true, true, true, true, true, true, true, false, false] rfl rfl (by kernel_rfl) (by decide) (fun K hK => ?_)
    refine goes_ Try.func43 (by kernel_rfl) rfl #[.pointer (some ⟨y, 0, none⟩), .int .i64 x.at_] (by rfl) rfl rfl (by simp only [List.map_toArray, List.map_cons, List.map_nil]; rfl) ?_
    with_reducible refine ((HC2.out _ hB1)).mono ?_
    rintro r W2 ⟨rfl, hB2, hT2⟩
    refine ⟨_, rfl, ?_⟩
    have hB2 := hB2.chain hT1.size hT2.size HsU.out HsG.out HsQ.out
    have hT2 := BT.chain hT1 hT2
    refine hK.out _ _ ((HKp.out _ hT2).1) (fun hHeld => ?_)
    clear hK K
    refine norm_ (a' := ?_) ?_ ?_
    rotate_left
    · show Act.put _ (some 70) _ = _
      simp only [Act.put, List.setIfInBounds_toArray, List.set_cons_zero, List.set_cons_succ, i64_w, i32_w]
      rfl
    refine pure_ (i := 8) (N := some 71) (v := ?_) (a' := ?_) #[true, true, true, true, true, true, true, true, true, false] rfl rfl (by kernel_rfl) (fun _ _ _ h => h) (Or.inl ⟨by rfl, ?_⟩) ?_ ?_
    rotate_left
    · intro w'
      go_simp
      with_reducible rfl
    rotate_left
    · simp only [Act.put, List.setIfInBounds_toArray, List.set_cons_zero, List.set_cons_succ, i64_w, i32_w]
      rfl
    refine pure_ (i := 9) (N := some 10) (v := ?_) (a' := ?_) #[true, true, true, true, true, true, true, true, true, true] rfl rfl (by kernel_rfl) (fun _ _ _ h => h) (Or.inl ⟨by rfl, ?_⟩) ?_ ?_
    rotate_left
    · intro w'
      go_simp
      with_reducible rfl
    rotate_left
    · simp only [Act.put, List.setIfInBounds_toArray, List.set_cons_zero, List.set_cons_succ, i64_w, i32_w]
      rfl
    refine done_ (by kernel_rfl) ?_
    have HF := Lib.hid (show Bo (grow U w W2) W2 c d g y e q a' a' ∧ BT U g q w W2 from HFin.out _ _ hB2 hT2)
    clear hB2 hT2 hT0 hHeld HC1 HC2
    go_wp2
    go_ret
    rw [HSt.out, HA.out]
    first | exact ⟨rfl, HF.out⟩ | exact ⟨by simp, HF.out⟩
  have hn7 : (v == 7) = false := by simpa using hv7
  by_cases hv8 : v = 8
  · subst hv8
    have HSt := Lib.hid (show stepR a x = (backR a x.at_).2 from by unfold stepR; rw [if_neg (by rw [HVv.out]; omega), if_neg (by rw [HVv.out]; omega), if_neg (by rw [HVv.out]; omega), if_neg (by rw [HVv.out]; omega), if_pos (by rw [HVv.out])])
    obtain ⟨code, hcode⟩ : ∃ k, (backR a x.at_).1 = k := ⟨_, rfl⟩
    obtain ⟨a', ha'⟩ : ∃ b, (backR a x.at_).2 = b := ⟨_, rfl⟩
    have HA := Lib.hid (show (backR a x.at_).2 = a' from ha')
    have hBd := hB1.turn (show Turn (fun _ => False) w1 w1.drew from Turn.of_below ((Below.refl _ _).drew)) (fun _ _ => id) id id
    have HC1 := Lib.hid (show Calls Try.prog 12 #[.pointer (some ⟨c, 0, none⟩), .int .i64 x.at_] w1.drew fun r w' => r = .returned (.int .i64 code) ∧ Bo (grow U w1.drew w') w' c d g y e q a' a ∧ BT U g q w1.drew w' from by have h0 := hBd.real (b1 := (backR a x.at_).2) (val := .int .i64 (backR a x.at_).1) (fun F hp h => (back_any x.at_ _ h (by omega) hrs hxw).mono fun r w' ⟨k1, k2, k3⟩ => ⟨k1, ⟨_, k2⟩, k3⟩); rw [hcode, ha'] at h0; exact h0)
    have HC2 := Lib.hid (show ∀ W1, Bo (grow U w1.drew W1) W1 c d g y e q a' a → Calls Try.prog 44 #[.pointer (some ⟨y, 0, none⟩), .int .i64 x.at_] W1 fun r w' => r = .returned (.int .i64 code) ∧ Bo (grow (grow U w1.drew W1) W1 w') w' c d g y e q a' a' ∧ BT (grow U w1.drew W1) g q W1 w' from fun W1 h1 => by have h0 := h1.ref (b2 := (backR a x.at_).2) (val := .int .i64 (backR a x.at_).1) (fun G h => rback_any x.at_ _ h (by omega) hrs); rw [hcode, ha'] at h0; exact h0)
    clear hBd hB1
    clear hcode ha'
    go_upto_region 13 with (fail)
    have hT0 : BT U g q w1.drew w1.drew := Turn.refl _ _
    refine start_ (n := 10) (S := fun w' => w'.cell? ⟨b9, 1, none⟩ = some (.int .i64 x.at_)) (ds := []) #[false, false, false, false, false, false, false, false, false, false] (by kernel_rfl) rfl rfl ((HKp.out _ hT0).1) (fun hHeld => ?_)
    refine pure_ (i := 0) (N := some 74) (v := ?_) (a' := ?_) #[true, false, false, false, false, false, false, false, false, false] rfl rfl (by kernel_rfl) (fun _ _ _ h => h) (Or.inl ⟨by rfl, ?_⟩) ?_ ?_
    rotate_left
    · intro w'
      go_simp
      with_reducible rfl
    rotate_left
    · simp only [Act.put, List.setIfInBounds_toArray, List.set_cons_zero, List.set_cons_succ, i64_w, i32_w]
      rfl
    refine pure_ (i := 1) (N := some 75) (v := ?_) (a' := ?_) #[true, true, false, false, false, false, false, false, false, false] rfl rfl (by kernel_rfl) (fun _ _ _ h => h) (Or.inl ⟨by rfl, ?_⟩) ?_ ?_
    rotate_left
    · intro w'
      go_simp
      with_reducible rfl
    rotate_left
    · simp only [Act.put, List.setIfInBounds_toArray, List.set_cons_zero, List.set_cons_succ, i64_w, i32_w]
      rfl
    refine pure_ (i := 4) (N := some 78) (v := ?_) (a' := ?_) #[true, true, false, false, true, false, false, false, false, false] rfl rfl (by kernel_rfl) (fun _ _ _ h => h) (Or.inl ⟨by rfl, ?_⟩) ?_ ?_
    rotate_left
    · intro w'
      go_simp
      with_reducible rfl
    rotate_left
    · simp only [Act.put, List.setIfInBounds_toArray, List.set_cons_zero, List.set_cons_succ, i64_w, i32_w]
      rfl
    refine pure_ (i := 5) (N := some 79) (v := ?_) (a' := ?_) #[true, true, false, false, true, true, false, false, false, false] rfl rfl (by kernel_rfl) (fun _ _ _ h => h) (Or.inl ⟨by rfl, ?_⟩) ?_ ?_
    rotate_left
    · intro w'
      go_simp
      with_reducible rfl
    rotate_left
    · simp only [Act.put, List.setIfInBounds_toArray, List.set_cons_zero, List.set_cons_succ, i64_w, i32_w]
      rfl
    refine take_ (i := 2) (N := some 76) (v := ?_) (a' := ?_) #[true, true, true, false, true, true, false, false, false, false] rfl rfl (by kernel_rfl) (fun _ _ _ h => h) (Or.inl ⟨by rfl, ?_⟩) hHeld ?_ ?_
    rotate_left
    · intro w' s0
      go_simp
      with_reducible rfl
    rotate_left
    · simp only [Act.put, List.setIfInBounds_toArray, List.set_cons_zero, List.set_cons_succ, i64_w, i32_w]
      rfl
    refine take_ (i := 6) (N := some 80) (v := ?_) (a' := ?_) #[true, true, true, false, true, true, true, false, false, false] rfl rfl (by kernel_rfl) (fun _ _ _ h => h) (Or.inl ⟨by rfl, ?_⟩) hHeld ?_ ?_
    rotate_left
    · intro w' s0
      go_simp
      with_reducible rfl
    rotate_left
    · simp only [Act.put, List.setIfInBounds_toArray, List.set_cons_zero, List.set_cons_succ, i64_w, i32_w]
      rfl
    refine one_ (i := 3) (N := some 77) #[true, true, true, true, true, true, true, false, false, false] rfl rfl (by kernel_rfl) (by decide) (fun K hK => ?_)
    refine goes_ Try.func12 (by kernel_rfl) rfl #[.pointer (some ⟨c, 0, none⟩), .int .i64 x.at_] (by rfl) rfl rfl (by simp only [List.map_toArray, List.map_cons, List.map_nil]; rfl) ?_
    with_reducible refine (HC1.out).mono ?_
    rintro r W1 ⟨rfl, hB1, hT1⟩
    refine ⟨_, rfl, ?_⟩
    refine hK.out _ _ ((HKp.out _ hT1).1) (fun hHeld => ?_)
    clear hK K
    refine norm_ (a' := ?_) ?_ ?_
    rotate_left
    · show Act.put _ (some 77) _ = _
      simp only [Act.put, List.setIfInBounds_toArray, List.set_cons_zero, List.set_cons_succ, i64_w, i32_w]
      rfl
    refine one_ (i := 7) (N := some 81) #[true, true, true, true, true, true, true, true, false, false] rfl rfl (by kernel_rfl) (by decide) (fun K hK => ?_)
    refine goes_ Try.func44 (by kernel_rfl) rfl #[.pointer (some ⟨y, 0, none⟩), .int .i64 x.at_] (by rfl) rfl rfl (by simp only [List.map_toArray, List.map_cons, List.map_nil]; rfl) ?_
    with_reducible refine ((HC2.out _ hB1)).mono ?_
    rintro r W2 ⟨rfl, hB2, hT2⟩
    refine ⟨_, rfl, ?_⟩
    have hB2 := hB2.chain hT1.size hT2.size HsU.out HsG.out HsQ.out
    have hT2 := BT.chain hT1 hT2
    refine hK.out _ _ ((HKp.out _ hT2).1) (fun hHeld => ?_)
    clear hK K
    refine norm_ (a' := ?_) ?_ ?_
    rotate_left
    · show Act.put _ (some 81) _ = _
      simp only [Act.put, List.setIfInBounds_toArray, List.set_cons_zero, List.set_cons_succ, i64_w, i32_w]
      rfl
    refine pure_ (i := 8) (N := some 82) (v := ?_) (a' := ?_) #[true, true, true, true, true, true, true, true, true, false] rfl rfl (by kernel_rfl) (fun _ _ _ h => h) (Or.inl ⟨by rfl, ?_⟩) ?_ ?_
    rotate_left
    · intro w'
      go_simp
      with_reducible rfl
    rotate_left
    · simp only [Act.put, List.setIfInBounds_toArray, List.set_cons_zero, List.set_cons_succ, i64_w, i32_w]
      rfl
    refine pure_ (i := 9) (N := some 10) (v := ?_) (a' := ?_) #[true, true, true, true, true, true, true, true, true, true] rfl rfl (by kernel_rfl) (fun _ _ _ h => h) (Or.inl ⟨by rfl, ?_⟩) ?_ ?_
    rotate_left
    · intro w'
      go_simp
      with_reducible rfl
    rotate_left
    · simp only [Act.put, List.setIfInBounds_toArray, List.set_cons_zero, List.set_cons_succ, i64_w, i32_w]
      rfl
    refine done_ (by kernel_rfl) ?_
    have HF := Lib.hid (show Bo (grow U w W2) W2 c d g y e q a' a' ∧ BT U g q w W2 from HFin.out _ _ hB2 hT2)
    clear hB2 hT2 hT0 hHeld HC1 HC2
    go_wp2
    go_ret
    rw [HSt.out, HA.out]
    first | exact ⟨rfl, HF.out⟩ | exact ⟨by simp, HF.out⟩
  have hn8 : (v == 8) = false := by simpa using hv8
  by_cases hv9 : v = 9
  · subst hv9
    have HSt := Lib.hid (show stepR a x = (syncR a).2 from by unfold stepR; rw [if_neg (by rw [HVv.out]; omega), if_neg (by rw [HVv.out]; omega), if_neg (by rw [HVv.out]; omega), if_neg (by rw [HVv.out]; omega), if_neg (by rw [HVv.out]; omega), if_pos (by rw [HVv.out])])
    have hsy : syncL (chR a) a = syncR a := by unfold syncR; rw [ch_same hI]
    obtain ⟨code, hcode⟩ : ∃ k, (syncR a).1 = k := ⟨_, rfl⟩
    obtain ⟨a', ha'⟩ : ∃ b, (syncR a).2 = b := ⟨_, rfl⟩
    have HA := Lib.hid (show (syncR a).2 = a' from ha')
    have hlen := hI.len
    have HC1 := Lib.hid (show Calls Try.prog 13 #[.pointer (some ⟨c, 0, none⟩)] w1 fun r w' => r = .returned (.int .i64 code) ∧ Bo (grow U w1 w') w' c d g y e q a' a ∧ BT U g q w1 w' from by
      have h0 := hB1.real (b1 := (syncR a).2) (val := .int .i64 (syncR a).1) (fun F hp h => (sync_any _ h (by omega) (by omega) hru).mono fun r w' ⟨k1, k2, k3⟩ => ⟨k1, ⟨_, k2⟩, k3⟩)
      rw [hcode, ha'] at h0
      exact h0)
    have HC2 := Lib.hid (show ∀ W1, Bo (grow U w1 W1) W1 c d g y e q a' a → Calls Try.prog 45 #[.pointer (some ⟨y, 0, none⟩)] W1 fun r w' => r = .returned (.int .i64 code) ∧ Bo (grow (grow U w1 W1) W1 w') w' c d g y e q a' a' ∧ BT (grow U w1 W1) g q W1 w' from fun W1 h1 => by
      have h0 := h1.ref (b2 := (syncL (chR a) a).2) (val := .int .i64 (syncL (chR a) a).1) (fun G h => rsync_any _ h (by omega) (by omega) hru)
      rw [hsy, hcode, ha'] at h0
      exact h0)
    clear hB1 hcode ha' hsy
    go_wp2_with fail
    refine HC1.out.mono ?_
    rintro r W1 ⟨rfl, hB1, hT1⟩
    have HT1 := Lib.hid hT1
    have HC3 := Lib.hid (HC2.out W1 hB1)
    clear hB1 hT1
    go_wp2_with fail
    refine HC3.out.mono ?_
    rintro r W2 ⟨rfl, hB2, hT2⟩
    have hB2 := hB2.chain HT1.out.size hT2.size HsU.out HsG.out HsQ.out
    have hT2 := BT.chain HT1.out hT2
    have HF := Lib.hid (show Bo (grow U w W2) W2 c d g y e q a' a' ∧ BT U g q w W2 from HFin.out _ _ hB2 (show BT U g q w1.drew W2 from ⟨hT2.os, hT2.tape, hT2.output, hT2.size, hT2.block⟩))
    clear hB2 hT2 HC1 HC2 HC3
    go_wp2
    go_ret
    rw [HSt.out, HA.out]
    first | exact ⟨rfl, HF.out⟩ | exact ⟨by simp, HF.out⟩
  have hn9 : (v == 9) = false := by simpa using hv9
  by_cases hv10 : v = 10
  · subst hv10
    have HSt := Lib.hid (show stepR a x = dropA a from by unfold stepR; rw [if_neg (by rw [HVv.out]; omega), if_neg (by rw [HVv.out]; omega), if_neg (by rw [HVv.out]; omega), if_neg (by rw [HVv.out]; omega), if_neg (by rw [HVv.out]; omega), if_neg (by rw [HVv.out]; omega), if_pos (by rw [HVv.out])])
    have HC1 := Lib.hid (hB1.real (b1 := dropA a) (val := .tuple #[]) (fun F hp h => (drop_any _ h).mono fun r w' ⟨k1, k2, k3⟩ => ⟨k1, ⟨_, k2⟩, k3⟩))
    clear hB1
    go_wp2_with fail
    refine HC1.out.mono ?_
    rintro r W1 ⟨rfl, hB1, hT1⟩
    obtain ⟨⟨v2, cy⟩, fy, hyl, hB2, hT2⟩ := hB1.drop
    have hB2 := hB2.chain hT1.size hT2.size HsU.out HsG.out HsQ.out
    have hT2 := BT.chain hT1 hT2
    have HF := Lib.hid (show Bo (grow U w (W1.setCell ⟨y, 2, none⟩ (.slice none 0 0))) (W1.setCell ⟨y, 2, none⟩ (.slice none 0 0)) c d g y e q (dropA a) (dropA a) ∧ BT U g q w (W1.setCell ⟨y, 2, none⟩ (.slice none 0 0)) from HFin.out _ _ hB2 (show BT U g q w1.drew (W1.setCell ⟨y, 2, none⟩ (.slice none 0 0)) from ⟨hT2.os, hT2.tape, hT2.output, hT2.size, hT2.block⟩))
    clear hB2 hT2 HC1 hB1 hT1
    go_wp2
    go_ret
    rw [HSt.out]
    exact ⟨rfl, HF.out⟩
  have hn10 : (v == 10) = false := by simpa using hv10
  by_cases hv11 : v = 11
  · subst hv11
    have HSt := Lib.hid (show stepR a x = (limA a x.at_).2 from by unfold stepR; rw [if_neg (by rw [HVv.out]; omega), if_neg (by rw [HVv.out]; omega), if_neg (by rw [HVv.out]; omega), if_neg (by rw [HVv.out]; omega), if_neg (by rw [HVv.out]; omega), if_neg (by rw [HVv.out]; omega), if_neg (by rw [HVv.out]; omega), if_pos (by rw [HVv.out])])
    obtain ⟨code, hcode⟩ : ∃ k, (limA a x.at_).1 = k := ⟨_, rfl⟩
    obtain ⟨a', ha'⟩ : ∃ b, (limA a x.at_).2 = b := ⟨_, rfl⟩
    have HA := Lib.hid (show (limA a x.at_).2 = a' from ha')
    have hBd := hB1.turn (show Turn (fun _ => False) w1 w1.drew from Turn.of_below ((Below.refl _ _).drew)) (fun _ _ => id) id id
    have HC1 := Lib.hid (show Calls Try.prog 46 #[.pointer (some ⟨g, 0, none⟩), .int .i64 x.at_] w1.drew fun r w' => r = .returned (.int .i64 code) ∧ Bo (grow U w1.drew w') w' c d g y e q a' a ∧ BT U g q w1.drew w' from by have h0 := hBd.real (b1 := (limA a x.at_).2) (val := .int .i64 (limA a x.at_).1) (fun F hp h => (real_limit x.at_ _ h hxw).mono fun r w' ⟨k1, k2, k3⟩ => ⟨k1, ⟨_, k2⟩, k3⟩); rw [hcode, ha'] at h0; exact h0)
    have HC2 := Lib.hid (show ∀ W1, Bo (grow U w1.drew W1) W1 c d g y e q a' a → Calls Try.prog 47 #[.pointer (some ⟨q, 0, none⟩), .int .i64 x.at_] W1 fun r w' => r = .returned (.int .i64 code) ∧ Bo (grow (grow U w1.drew W1) W1 w') w' c d g y e q a' a' ∧ BT (grow U w1.drew W1) g q W1 w' from fun W1 h1 => by have h0 := h1.ref (b2 := (limA a x.at_).2) (val := .int .i64 (limA a x.at_).1) (fun G h => ref_limit x.at_ _ h hxw); rw [hcode, ha'] at h0; exact h0)
    clear hBd hB1
    clear hcode ha'
    go_upto_region 21 with (fail)
    have hT0 : BT U g q w1.drew w1.drew := Turn.refl _ _
    refine start_ (n := 10) (S := fun w' => w'.cell? ⟨b9, 1, none⟩ = some (.int .i64 x.at_)) (ds := []) #[false, false, false, false, false, false, false, false, false, false] (by kernel_rfl) rfl rfl ((HKp.out _ hT0).1) (fun hHeld => ?_)
    refine pure_ (i := 0) (N := some 99) (v := ?_) (a' := ?_) #[true, false, false, false, false, false, false, false, false, false] rfl rfl (by kernel_rfl) (fun _ _ _ h => h) (Or.inl ⟨by rfl, ?_⟩) ?_ ?_
    rotate_left
    · intro w'
      go_simp
      with_reducible rfl
    rotate_left
    · simp only [Act.put, List.setIfInBounds_toArray, List.set_cons_zero, List.set_cons_succ, i64_w, i32_w]
      rfl
    refine pure_ (i := 1) (N := some 100) (v := ?_) (a' := ?_) #[true, true, false, false, false, false, false, false, false, false] rfl rfl (by kernel_rfl) (fun _ _ _ h => h) (Or.inl ⟨by rfl, ?_⟩) ?_ ?_
    rotate_left
    · intro w'
      go_simp
      with_reducible rfl
    rotate_left
    · simp only [Act.put, List.setIfInBounds_toArray, List.set_cons_zero, List.set_cons_succ, i64_w, i32_w]
      rfl
    refine pure_ (i := 4) (N := some 103) (v := ?_) (a' := ?_) #[true, true, false, false, true, false, false, false, false, false] rfl rfl (by kernel_rfl) (fun _ _ _ h => h) (Or.inl ⟨by rfl, ?_⟩) ?_ ?_
    rotate_left
    · intro w'
      go_simp
      with_reducible rfl
    rotate_left
    · simp only [Act.put, List.setIfInBounds_toArray, List.set_cons_zero, List.set_cons_succ, i64_w, i32_w]
      rfl
    refine pure_ (i := 5) (N := some 104) (v := ?_) (a' := ?_) #[true, true, false, false, true, true, false, false, false, false] rfl rfl (by kernel_rfl) (fun _ _ _ h => h) (Or.inl ⟨by rfl, ?_⟩) ?_ ?_
    rotate_left
    · intro w'
      go_simp
      with_reducible rfl
    rotate_left
    · simp only [Act.put, List.setIfInBounds_toArray, List.set_cons_zero, List.set_cons_succ, i64_w, i32_w]
      rfl
    refine take_ (i := 2) (N := some 101) (v := ?_) (a' := ?_) #[true, true, true, false, true, true, false, false, false, false] rfl rfl (by kernel_rfl) (fun _ _ _ h => h) (Or.inl ⟨by rfl, ?_⟩) hHeld ?_ ?_
    rotate_left
    · intro w' s0
      go_simp
      with_reducible rfl
    rotate_left
    · simp only [Act.put, List.setIfInBounds_toArray, List.set_cons_zero, List.set_cons_succ, i64_w, i32_w]
      rfl
    refine take_ (i := 6) (N := some 105) (v := ?_) (a' := ?_) #[true, true, true, false, true, true, true, false, false, false] rfl rfl (by kernel_rfl) (fun _ _ _ h => h) (Or.inl ⟨by rfl, ?_⟩) hHeld ?_ ?_
    rotate_left
    · intro w' s0
      go_simp
      with_reducible rfl
    rotate_left
    · simp only [Act.put, List.setIfInBounds_toArray, List.set_cons_zero, List.set_cons_succ, i64_w, i32_w]
      rfl
    refine one_ (i := 3) (N := some 102) #[true, true, true, true, true, true, true, false, false, false] rfl rfl (by kernel_rfl) (by decide) (fun K hK => ?_)
    refine goes_ Try.func46 (by kernel_rfl) rfl #[.pointer (some ⟨g, 0, none⟩), .int .i64 x.at_] (by rfl) rfl rfl (by simp only [List.map_toArray, List.map_cons, List.map_nil]; rfl) ?_
    with_reducible refine (HC1.out).mono ?_
    rintro r W1 ⟨rfl, hB1, hT1⟩
    refine ⟨_, rfl, ?_⟩
    refine hK.out _ _ ((HKp.out _ hT1).1) (fun hHeld => ?_)
    clear hK K
    refine norm_ (a' := ?_) ?_ ?_
    rotate_left
    · show Act.put _ (some 102) _ = _
      simp only [Act.put, List.setIfInBounds_toArray, List.set_cons_zero, List.set_cons_succ, i64_w, i32_w]
      rfl
    refine one_ (i := 7) (N := some 106) #[true, true, true, true, true, true, true, true, false, false] rfl rfl (by kernel_rfl) (by decide) (fun K hK => ?_)
    refine goes_ Try.func47 (by kernel_rfl) rfl #[.pointer (some ⟨q, 0, none⟩), .int .i64 x.at_] (by rfl) rfl rfl (by simp only [List.map_toArray, List.map_cons, List.map_nil]; rfl) ?_
    with_reducible refine ((HC2.out _ hB1)).mono ?_
    rintro r W2 ⟨rfl, hB2, hT2⟩
    refine ⟨_, rfl, ?_⟩
    have hB2 := hB2.chain hT1.size hT2.size HsU.out HsG.out HsQ.out
    have hT2 := BT.chain hT1 hT2
    refine hK.out _ _ ((HKp.out _ hT2).1) (fun hHeld => ?_)
    clear hK K
    refine norm_ (a' := ?_) ?_ ?_
    rotate_left
    · show Act.put _ (some 106) _ = _
      simp only [Act.put, List.setIfInBounds_toArray, List.set_cons_zero, List.set_cons_succ, i64_w, i32_w]
      rfl
    refine pure_ (i := 8) (N := some 107) (v := ?_) (a' := ?_) #[true, true, true, true, true, true, true, true, true, false] rfl rfl (by kernel_rfl) (fun _ _ _ h => h) (Or.inl ⟨by rfl, ?_⟩) ?_ ?_
    rotate_left
    · intro w'
      go_simp
      with_reducible rfl
    rotate_left
    · simp only [Act.put, List.setIfInBounds_toArray, List.set_cons_zero, List.set_cons_succ, i64_w, i32_w]
      rfl
    refine pure_ (i := 9) (N := some 10) (v := ?_) (a' := ?_) #[true, true, true, true, true, true, true, true, true, true] rfl rfl (by kernel_rfl) (fun _ _ _ h => h) (Or.inl ⟨by rfl, ?_⟩) ?_ ?_
    rotate_left
    · intro w'
      go_simp
      with_reducible rfl
    rotate_left
    · simp only [Act.put, List.setIfInBounds_toArray, List.set_cons_zero, List.set_cons_succ, i64_w, i32_w]
      rfl
    refine done_ (by kernel_rfl) ?_
    have HF := Lib.hid (show Bo (grow U w W2) W2 c d g y e q a' a' ∧ BT U g q w W2 from HFin.out _ _ hB2 hT2)
    clear hB2 hT2 hT0 hHeld HC1 HC2
    go_wp2
    go_ret
    rw [HSt.out, HA.out]
    first | exact ⟨rfl, HF.out⟩ | exact ⟨by simp, HF.out⟩
  have hn11 : (v == 11) = false := by simpa using hv11
  by_cases hv12 : v = 12
  · subst hv12
    have HSt := Lib.hid (show stepR a x = resA a from by unfold stepR; rw [if_neg (by rw [HVv.out]; omega), if_neg (by rw [HVv.out]; omega), if_neg (by rw [HVv.out]; omega), if_neg (by rw [HVv.out]; omega), if_neg (by rw [HVv.out]; omega), if_neg (by rw [HVv.out]; omega), if_neg (by rw [HVv.out]; omega), if_neg (by rw [HVv.out]; omega), if_pos (by rw [HVv.out])])
    have HC1 := Lib.hid (hB1.real (b1 := resA a) (val := .tuple #[]) (fun F hp h => (real_restore _ h).mono fun r w' ⟨k1, k2, k3⟩ => ⟨k1, ⟨_, k2⟩, k3⟩))
    clear hB1
    go_wp2_with fail
    refine HC1.out.mono ?_
    rintro r W1 ⟨rfl, hB1, hT1⟩
    have HT1 := Lib.hid hT1
    have HC3 := Lib.hid (hB1.ref (b2 := resA a) (val := .tuple #[]) (fun G h => ref_restore _ h))
    clear hB1 hT1
    go_wp2_with fail
    refine HC3.out.mono ?_
    rintro r W2 ⟨rfl, hB2, hT2⟩
    have hB2 := hB2.chain HT1.out.size hT2.size HsU.out HsG.out HsQ.out
    have hT2 := BT.chain HT1.out hT2
    have HF := Lib.hid (show Bo (grow U w W2) W2 c d g y e q (resA a) (resA a) ∧ BT U g q w W2 from HFin.out _ _ hB2 (show BT U g q w1.drew W2 from ⟨hT2.os, hT2.tape, hT2.output, hT2.size, hT2.block⟩))
    clear hB2 hT2 HC1 HC3
    go_wp2
    go_ret
    rw [HSt.out]
    exact ⟨rfl, HF.out⟩
  have hn12 : (v == 12) = false := by simpa using hv12
  have HSt := Lib.hid (show stepR a x = (holdR a x.at_).2 from by unfold stepR; rw [if_neg (by rw [HVv.out]; omega), if_neg (by rw [HVv.out]; omega), if_neg (by rw [HVv.out]; omega), if_neg (by rw [HVv.out]; omega), if_neg (by rw [HVv.out]; omega), if_neg (by rw [HVv.out]; omega), if_neg (by rw [HVv.out]; omega), if_neg (by rw [HVv.out]; omega), if_neg (by rw [HVv.out]; omega)])
  obtain ⟨code, hcode⟩ : ∃ k, (holdR a x.at_).1 = k := ⟨_, rfl⟩
  obtain ⟨a', ha'⟩ : ∃ b, (holdR a x.at_).2 = b := ⟨_, rfl⟩
  have HA := Lib.hid (show (holdR a x.at_).2 = a' from ha')
  obtain ⟨bb, hbb⟩ : ∃ b, (if code = 0 then getB a' x.at_ else zeroB) = b := ⟨_, rfl⟩
  have HC1 := Lib.hid (show Calls Try.prog 16 #[.pointer (some ⟨c, 0, none⟩), .int .i64 x.at_] w1 fun r w' => r = .returned (.tuple #[blkV bb, .int .i64 code]) ∧ Bo (grow U w1 w') w' c d g y e q a' a ∧ BT U g q w1 w' from by
    have h0 := hB1.real (b1 := (holdR a x.at_).2) (val := .tuple #[blkV (if (holdR a x.at_).1 = 0 then getB (holdR a x.at_).2 x.at_ else zeroB), .int .i64 (holdR a x.at_).1]) (fun F hp h => get_any x.at_ _ h hrm hxw)
    rw [hcode, ha', hbb] at h0
    exact h0)
  have HC2 := Lib.hid (show ∀ U1 W1, Bo U1 W1 c d g y e q a' a → Calls Try.prog 50 #[.pointer (some ⟨y, 0, none⟩), .int .i64 x.at_] W1 fun r w' => r = .returned (.tuple #[blkV bb, .int .i64 code]) ∧ Bo (grow U1 W1 w') w' c d g y e q a' a' ∧ BT U1 g q W1 w' from fun U1 W1 h1 => by
    have h0 := h1.ref (b2 := (holdR a x.at_).2) (val := .tuple #[blkV (if (holdR a x.at_).1 = 0 then getB (holdR a x.at_).2 x.at_ else zeroB), .int .i64 (holdR a x.at_).1]) (fun G h => rget_any x.at_ _ h (by omega) hrs hrm.hi hrm.ms hro)
    rw [hcode, ha', hbb] at h0
    exact h0)
  have HBl := Lib.hid (show ∀ U1 W1, Bo U1 W1 c d g y e q a' a → bb.length = 64 from fun U1 W1 h1 => by
    rw [← hbb]
    split
    · exact h1.getB_len x.at_
    · rfl)
  clear hB1 hcode ha' hbb
  go_wp2_with fail
  refine HC1.out.mono ?_
  rintro r W1 ⟨rfl, hB1, hT1⟩
  have hbl := HBl.out _ _ hB1
  go_upto_region 27 with (first | (refine wl_store32 (new_there _) hbl _ _ rfl rfl rfl rfl ?_))
  obtain ⟨W2, hW2, hb2, hv2⟩ := var_at W1 hbl
  change Code.wp _ _ _ _ (World.setCells (World.alloc W1 (.cells (bytes zeroB).toArray 32)) W1.heap.size 0 (bytes bb))
  rw [← hW2]
  obtain ⟨b2, hb2e⟩ : ∃ b2, b2 = W1.heap.size := ⟨_, rfl⟩
  rw [← hb2e] at hv2 ⊢
  have hs11 := hT1.size
  have hs12 := hb2.size
  have hb2U : ¬ (grow U w1 W1 b2 ∨ b2 = g ∨ b2 = q) := fun e => by
    have hg' := HsG.out.2
    have hq' := HsQ.out.2
    have hw1d : w1.drew.heap.size = w1.heap.size := rfl
    rcases e with (e | e) | e | e
    · have := HsU.out b2 e; omega
    · omega
    · omega
    · omega
  have HV2 := Lib.hid hv2
  have HT1 := Lib.hid hT1
  have HT12 := Lib.hid (Turn.of_below (S := fun _ => False) hb2)
  have HC3 := Lib.hid (HC2.out _ W2 (hB1.turn HT12.out (fun _ _ => id) id id))
  have t1 : BT U g q w1 W2 := HT1.out.trans HT12.out fun j _ e => e.elim
  have c91b := (HKp.out W2 (show BT U g q w1.drew W2 from ⟨t1.os, t1.tape, t1.output, t1.size, t1.block⟩)).1
  clear t1
  clear hW2 hb2 hv2 hb2e hB1 hT1 HC1 HC2 HBl
  go_wp2_with fail
  refine HC3.out.mono ?_
  rintro r W3 ⟨rfl, hB3, hT3⟩
  have HV3 := Lib.hid (HV2.out.turn hT3 hb2U)
  have HB3 := Lib.hid hB3
  have HT3 := Lib.hid hT3
  have hs13 := hT3.size
  clear hB3 hT3
  go_upto_region 28 with (first | (refine wl_store32 (new_there _) hbl _ _ rfl rfl rfl rfl ?_))
  obtain ⟨W4, hW4, hb4, hv4⟩ := var_at W3 hbl
  change Code.wp _ _ _ _ (World.setCells (World.alloc W3 (.cells (bytes zeroB).toArray 32)) W3.heap.size 0 (bytes bb))
  rw [← hW4]
  obtain ⟨b4, hb4e⟩ : ∃ b4, b4 = W3.heap.size := ⟨_, rfl⟩
  rw [← hb4e] at hv4 ⊢
  have hs14 := hb4.size
  have HRg2 := Lib.hid (HV3.out.below hb4 HV3.out.lt).range
  have HRg4 := Lib.hid hv4.range
  have HF := Lib.hid (show Bo (grow U w W4) W4 c d g y e q a' a' ∧ BT U g q w W4 from by
    have hT4 := Turn.of_below (S := fun _ => False) hb4
    have h4 := HB3.out.turn hT4 (fun _ _ => id) id id
    have hTT : BT U g q w1 W4 := by
      have t1 : BT U g q w1 W2 := HT1.out.trans HT12.out fun j _ e => e.elim
      have t2 : BT U g q w1 W3 := t1.trans HT3.out fun j hj e => by
        rcases e with (e | e) | e
        · exact .inl e
        · exfalso; omega
        · exact .inr e
      exact t2.trans hT4 fun j _ e => e.elim
    have hw1d : w1.drew.heap.size = w1.heap.size := rfl
    have hb5 : Bo (grow U w1.drew W4) W4 c d g y e q a' a' := h4.wide (fun j hj => by
      rcases hj with (hj | hj) | hj
      · exact .inl hj
      · exact .inr ⟨hj.1, by omega⟩
      · exact .inr ⟨by omega, by omega⟩) (fun j hj => by
      rcases hj with hj | hj
      · have := HsU.out j hj; omega
      · exact hj.2) (fun e => by
      rcases e with e | e
      · exact HsG.out.1 e
      · have := HsG.out.2; omega) (fun e => by
      rcases e with e | e
      · exact HsQ.out.1 e
      · have := HsQ.out.2; omega)
    exact HFin.out _ _ hb5 (show BT U g q w1.drew W4 from ⟨hTT.os, hTT.tape, hTT.output, hTT.size, hTT.block⟩))
  have hde : decide (bb = bb) = true := decide_eq_true rfl
  clear hW4 hb4 hv4 hb4e HB3 HT3 HV3
  go_wp2_with (first | (refine wl_load32g HRg2 hbl _ rfl rfl rfl ?_) | (refine wl_load32g HRg4 hbl _ rfl rfl rfl ?_) | (refine wl_eql32 (b := bb) (b' := bb) hbl hbl _ _ rfl rfl rfl rfl ?_))
  go_ret
  rw [HSt.out, HA.out]
  first | exact ⟨rfl, HF.out⟩ | exact ⟨by simp, HF.out⟩
end Go.Proofs.Ytnbppfhnagacfaa
