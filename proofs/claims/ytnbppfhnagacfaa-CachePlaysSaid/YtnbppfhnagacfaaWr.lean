/- package disk: use, Write, Force, New. -/
import Derived.Test.YtnbppfhnagacfaaFill
import Derived.Test.YtnbppfhnagacfaaPower
import Derived.Deep.AppendLies
namespace Go.Proofs.Ytnbppfhnagacfaa
open Go.RowKit
set_option linter.unusedVariables false
attribute [local go_sem ↓] Go.wp_at_zero Go.wp_at_succ

def SupIs (w : World) : Option Nat → Option Sup → Prop
  | none, none => True
  | some g, some s => Blk w g 86 s.cells
  | _, _ => False
def useO : Option Sup → Int × Option Sup
  | none => (0, none)
  | some s => (s.use.1, some s.use.2)
def Sup.ok (s : Sup) : Prop := (-9223372036854775808 ≤ s.left ∧ s.left ≤ 9223372036854775807) ∧ 0 ≤ s.used ∧ s.used ≤ 1000000000
theorem SupIs.turn {S : Nat → Prop} {w w' : World} {sp : Option Nat} {s : Option Sup} (h : SupIs w sp s) (hT : Turn S w w') (hS : ∀ g, sp = some g → ¬ S g) : SupIs w' sp s := by
  cases sp with
  | none => cases s with | none => trivial | some s => exact h
  | some g => cases s with | none => exact h | some s => exact Blk.turn h hT (hS g rfl)

theorem puse_any (w : World) (sp : Option Nat) (s : Option Sup) (h : SupIs w sp s) (hok : ∀ s', s = some s' → s'.ok) :
    Calls Try.prog 66 #[ptr sp] w fun e w' => e = .returned (.int .i64 (useO s).1) ∧ SupIs w' sp (useO s).2 ∧ Turn (fun j => sp = some j) w w' := by
  cases sp with
  | none =>
    cases s with
    | none => exact (use_nil w).mono fun e w' ⟨h1, h2⟩ => ⟨h1, trivial, (Turn.of_below (S := fun _ => False) h2).mono fun _ _ h => h.elim⟩
    | some s => exact absurd h id
  | some g =>
    cases s with
    | none => exact absurd h id
    | some s => exact (use_some g s w h (hok s rfl).1 (hok s rfl).2).mono fun e w' ⟨h1, h2, h3⟩ => ⟨h1, h2, h3.mono fun j _ e => by rw [e]⟩

set_option maxHeartbeats 1000000 in
theorem duse_any {F : Nat → Prop} {d mw : Nat} {sp : Option Nat} {sv : Value} {f : Int → Option Value} {x : Dk} {s : Option Sup} (i : Int) (w : World) (h : DiskIs F w d sp mw sv f x) (hs : SupIs w sp s) (hok : ∀ s', s = some s' → s'.ok) (hsp : ∀ g, sp = some g → ¬ F g) :
    Calls Try.prog 56 #[.pointer (some ⟨d, 0, none⟩), .int .i64 i] w fun e w' => e = .returned (.int .i64 (if x.is i then (useO s).1 else 2)) ∧ SupIs w' sp (if x.is i then (useO s).2 else s) ∧ Turn (fun j => sp = some j) w w' ∧ DiskIs F w' d sp mw sv f x := by
  have HD := Lib.hid h
  have HM := Lib.hid (may_any i w h)
  have HS := Lib.hid hs
  have HK := Lib.hid hok
  clear h hs hok
  go_enter Try.func56, Try.ntmps56
  go_wp2_with fail
  refine HM.out.mono ?_
  rintro e w2 ⟨rfl, n, rfl⟩
  have HD2 := Lib.hid (HD.out.below (below_drawnN w n))
  have HS2 := Lib.hid (show SupIs (w.drewN n) sp s from HS.out.turn (Turn.of_below (S := fun _ => False) (below_drawnN w n)) fun _ _ => id)
  have HT2 := Lib.hid (show Turn (fun j => sp = some j) w (w.drewN n) from (Turn.refl _ _).drewN n)
  generalize w.drewN n = w2 at *
  clear HM HD HS
  by_cases hi : 0 ≤ i ∧ i < x.stable.length
  · rw [if_pos hi]
    have hi' : x.is i := hi
    have HP := Lib.hid (puse_any w2 sp s HS2.out HK.out)
    have c0 := HD2.out.blk.cell 0
    simp at c0
    clear hi
    go_wp2_with fail
    refine HP.out.mono ?_
    rintro e w3 ⟨rfl, hs3, hT3⟩
    have HS3 := Lib.hid hs3
    have HR := Lib.hid (show Turn (fun j => sp = some j) w w3 ∧ DiskIs F w3 d sp mw sv f x from ⟨HT2.out.trans hT3 fun _ _ h => h, HD2.out.turn hT3 fun j hj e => hsp j e hj⟩)
    clear hs3 hT3 c0
    go_wp2
    go_ret
    first | exact ⟨rfl, HS3.out, HR.out⟩ | exact ⟨by rw [if_pos hi']; rfl, by rw [if_pos hi']; exact HS3.out, HR.out⟩
  · rw [if_neg hi]
    have hi' : ¬ x.is i := hi
    clear hi
    go_wp2
    go_ret
    first | exact ⟨rfl, HS2.out, HT2.out, HD2.out⟩ | exact ⟨by rw [if_neg hi']; rfl, by rw [if_neg hi']; exact HS2.out, HT2.out, HD2.out⟩

def Dk.write (x : Dk) (i : Int) (b : List Int) : Dk := { x with waits := fun k => if k = i then x.waits i ++ [b] else x.waits k, writes := x.writes + 1 }
def Dk.force (x : Dk) (i : Int) (b : List Int) : Dk := { stable := x.stable.set i.toNat b, waits := fun k => if k = i then [] else x.waits k, writes := x.writes + 1 }
/-- F and what was made from w to w'. -/
def grow (F : Nat → Prop) (w w' : World) : Nat → Prop := fun j => F j ∨ (w.heap.size ≤ j ∧ j < w'.heap.size)
theorem DiskIs.mono {F F' : Nat → Prop} {w : World} {d mw : Nat} {sp : Option Nat} {sv : Value} {f : Int → Option Value} {x : Dk} (h : DiskIs F w d sp mw sv f x) (hF : ∀ j, F j → F' j) (hl : ∀ j, F' j → j < w.heap.size) : DiskIs F' w d sp mw sv f x :=
  { h with
    fd := hF _ h.fd
    fm := hF _ h.fm
    fs := fun j hj => hF _ (h.fs j hj)
    fw := fun k v hk j hj => hF _ (h.fw k v hk j hj)
    lt := hl }
theorem rows_type {w : World} {v : Value} {L : List (List Int)} (h : Rows w v L) : ∀ j, v.ownBlock = some j → ∃ cs, Blk w j 32 cs := by
  intro j hj
  rcases h.1.2 with ⟨hv, _⟩ | ⟨g, cap, cur, hv, hb, hg, _⟩
  · rw [hv] at hj; cases hj
  · rw [hv] at hj
    obtain rfl : g = j := Option.some.inj hj
    exact ⟨cur, hg⟩
theorem flat_append (L : List (List Int)) (b : List Int) : flat (L ++ [b]) = flat L ++ bytes b := by unfold flat; simp

theorem DiskIs.wrote {F : Nat → Prop} {w w' : World} {d mw : Nat} {sp : Option Nat} {sv : Value} {f : Int → Option Value} {x : Dk} (h : DiskIs F w d sp mw sv f x) (i : Int) (b : List Int) (v' : Value) (g : Nat) (hg : v'.ownBlock = some g)
    (ho : (∃ v, f i = some v ∧ v.ownBlock = some g) ∨ (w.heap.size ≤ g ∧ g < w'.heap.size)) (hT : Turn (fun j => j = d ∨ j = mw ∨ ((f i).getD (.slice none 0 0)).ownBlock = some j) w w')
    (hblk : Blk w' d 70 #[ptr sp, sv, .map (some mw), .int .i64 (x.writes + 1)]) (hmap : MapIs w' mw (x.writes + 1).toNat (upd f i (some v'))) (hrow : Rows w' v' (x.waits i ++ [b])) :
    DiskIs (grow F w w') w' d sp mw sv (upd f i (some v')) (x.write i b) := by
  have hS : ∀ j, (∃ cs, Blk w j 32 cs) → ((f i).getD (.slice none 0 0)).ownBlock ≠ some j → ¬ (j = d ∨ j = mw ∨ ((f i).getD (.slice none 0 0)).ownBlock = some j) := by
    rintro j ⟨cs, hj⟩ hne (e | e | e)
    · exact Blk.ne_ hj h.blk (by decide) e
    · exact (h.map.not_blk hj) e.symm
    · exact hne e
  have hoi : ∀ v, f i = some v → ((f i).getD (.slice none 0 0)) = v := fun v e => by rw [e]; rfl
  have hwo : ∀ k v, k ≠ i → f k = some v → ∀ j, v.ownBlock = some j → ((f i).getD (.slice none 0 0)).ownBlock ≠ some j := by
    intro k v hk e j hj e2
    cases hf : f i with
    | none => rw [hf] at e2; cases e2
    | some u => rw [hf] at e2; exact h.ap k v i u e hf hk j hj e2
  have hso : ∀ j, sv.ownBlock = some j → ((f i).getD (.slice none 0 0)).ownBlock ≠ some j := by
    intro j hj e2
    cases hf : f i with
    | none => rw [hf] at e2; cases e2
    | some u => rw [hf] at e2; exact h.as_ i u hf j e2 hj
  exact
    { blk := hblk
      st := h.st.turn hT fun j hj => hS j (rows_type h.st j hj) (hso j hj)
      n1 := h.n1
      n2 := h.n2
      map := hmap
      wt := fun k v hk => by
        show Rows w' v (if k = i then x.waits i ++ [b] else x.waits k)
        by_cases e : k = i
        · rw [if_pos e]
          rw [e, upd_same] at hk
          obtain rfl := Option.some.inj hk
          exact hrow
        · rw [if_neg e]
          rw [upd_other _ _ e] at hk
          exact (h.wt k v hk).turn hT fun j hj => hS j (rows_type (h.wt k v hk) j hj) (hwo k v e hk j hj)
      none_ := fun k hk => by
        show (if k = i then x.waits i ++ [b] else x.waits k) = []
        by_cases e : k = i
        · rw [e, upd_same] at hk; cases hk
        · rw [if_neg e]
          rw [upd_other _ _ e] at hk
          exact h.none_ k hk
      cnt := ⟨show 0 ≤ x.writes + 1 from by have := h.cnt.1; omega, fun k => by
        show ((if k = i then x.waits i ++ [b] else x.waits k).length : Int) ≤ x.writes + 1
        have h1 := h.cnt.2 k
        have h2 := h.cnt.2 i
        by_cases e : k = i
        · rw [if_pos e, List.length_append]
          simp
          omega
        · rw [if_neg e]; omega⟩
      fd := .inl h.fd
      fm := .inl h.fm
      fs := fun j hj => .inl (h.fs j hj)
      fw := fun k v hk j hj => by
        by_cases e : k = i
        · rw [e, upd_same] at hk
          obtain rfl := Option.some.inj hk
          obtain rfl : g = j := Option.some.inj (hg.symm.trans hj)
          rcases ho with ⟨v, hv, hvg⟩ | hn
          · exact .inl (h.fw i v hv g hvg)
          · exact .inr hn
        · rw [upd_other _ _ e] at hk
          exact .inl (h.fw k v hk j hj)
      ap := fun k v k' u hk hk' hne j hj hu => by
        have key : ∀ q z, q ≠ i → f q = some z → z.ownBlock ≠ some g := by
          intro q z hq hz e
          rcases ho with ⟨v0, hv0, hvg⟩ | hn
          · exact h.ap q z i v0 hz hv0 hq g e hvg
          · have := (h.wt q z hz).lt g e
            omega
        by_cases e : k = i
        · rw [e, upd_same] at hk
          obtain rfl := Option.some.inj hk
          obtain rfl : g = j := Option.some.inj (hg.symm.trans hj)
          have e' : k' ≠ i := fun e2 => hne (e.trans e2.symm)
          rw [upd_other _ _ e'] at hk'
          exact key k' u e' hk' hu
        · rw [upd_other _ _ e] at hk
          by_cases e' : k' = i
          · rw [e', upd_same] at hk'
            obtain rfl := Option.some.inj hk'
            obtain rfl : g = j := Option.some.inj (hg.symm.trans hu)
            exact key k v e hk hj
          · rw [upd_other _ _ e'] at hk'
            exact h.ap k v k' u hk hk' hne j hj hu
      as_ := fun k v hk j hj hs => by
        by_cases e : k = i
        · rw [e, upd_same] at hk
          obtain rfl := Option.some.inj hk
          obtain rfl : g = j := Option.some.inj (hg.symm.trans hj)
          rcases ho with ⟨v, hv, hvg⟩ | hn
          · exact h.as_ i v hv g hvg hs
          · have := h.st.lt g hs
            omega
        · rw [upd_other _ _ e] at hk
          exact h.as_ k v hk j hj hs
      lt := fun j hj => by
        rcases hj with hj | hj
        · exact Nat.lt_of_lt_of_le (h.lt j hj) hT.size
        · exact hj.2 }

theorem wr_step {F : Nat → Prop} {w2 w4 : World} {d mw b1 g cap : Nat} {sp : Option Nat} {sv : Value} {f : Int → Option Value} {x : Dk} {i : Int} {b : List Int} {v : Value} (h : DiskIs F w2 d sp mw sv f x) (hV : Var w2 b1 b) (hb1 : ¬ F b1) (hv : v = (f i).getD (.slice none 0 0)) (hk : (key i).wf = true) (hw : x.writes ≤ 1000000)
    (hown : w4.ownsRow 0 32 64 (.slice (some ⟨g, 0, none⟩) ((x.waits i).length + 1) cap) ((x.waits i).length + 1) (flat (x.waits i) ++ bytes b))
    (hgrow : ((w2.alloc (.cells (bytes b).toArray 32)).drew).grownBy w4 v.ownBlock) (hat : v.ownBlock = some g ∨ g = ((w2.alloc (.cells (bytes b).toArray 32)).drew).heap.size) (hlt : g < w4.heap.size) :
    ∃ w5, (Instr.mapUpdate 68 (.map (some mw)) (.int .i64 i) (.slice (some ⟨g, 0, none⟩) ((x.waits i).length + 1) cap)).run Try.prog w4 = .ok () w5 ∧
      (w4.cell? ⟨d, 2, none⟩ = some (.map (some mw)) ∧ w4.rangeAt b1 0 (bytes b)) ∧ (w5.cell? ⟨d, 2, none⟩ = some (.map (some mw)) ∧ w5.rangeAt b1 0 (bytes b)) ∧ w5.cell? ⟨d, 3, none⟩ = some (.int .i64 x.writes) ∧ w5.frozen? ⟨d, 3, none⟩ = false ∧
      DiskIs (grow F w2 (w5.setCell ⟨d, 3, none⟩ (.int .i64 (x.writes + 1)))) (w5.setCell ⟨d, 3, none⟩ (.int .i64 (x.writes + 1))) d sp mw sv (upd f i (some (.slice (some ⟨g, 0, none⟩) ((x.waits i).length + 1) cap))) (x.write i b) ∧ Turn F w2 (w5.setCell ⟨d, 3, none⟩ (.int .i64 (x.writes + 1))) := by
  have hvF : ∀ j, v.ownBlock = some j → F j ∧ ∃ cs, Blk w2 j 32 cs := by
    intro j hj
    cases hf : f i with
    | none => rw [hv, hf] at hj; cases hj
    | some u =>
      rw [hv, hf] at hj
      exact ⟨h.fw i u hf j hj, rows_type (h.wt i u hf) j hj⟩
  have hrow : Turn (fun j => v.ownBlock = some j) w2 w4 := by
    have h1 : Turn (fun j => v.ownBlock = some j) w2 ((w2.alloc (.cells (bytes b).toArray 32)).drew) := ((Turn.refl _ _).alloc _).drew
    exact h1.grown hgrow fun k hk _ => hk
  have hMb : ∀ j, v.ownBlock = some j → j ≠ mw := fun j hj e => by
    obtain ⟨-, cs, hc⟩ := hvF j hj
    exact h.map.not_blk hc e.symm
  have hdb : ∀ j, v.ownBlock = some j → j ≠ d := fun j hj e => by
    obtain ⟨-, cs, hc⟩ := hvF j hj
    exact Blk.ne_ hc h.blk (by decide) e
  have hM4 : MapIs w4 mw x.writes.toNat f := h.map.turn hrow fun e => hMb _ e rfl
  have hD4 : Blk w4 d 70 _ := h.blk.turn hrow fun e => hdb _ e rfl
  have hV4 : Var w4 b1 b := hV.turn hrow fun e => hb1 (hvF _ e).1
  obtain ⟨w5, hrun, hM5, hg5⟩ := hM4.store Try.underlying68 (by unfold maxLen; omega) hk (.slice (some ⟨g, 0, none⟩) ((x.waits i).length + 1) cap)
  have hT5 := turn_of_grown hg5
  have hdm : ¬ d = mw := fun e => h.map.not_blk h.blk e.symm
  have hbm : ¬ b1 = mw := fun e => hb1 (e ▸ h.fm)
  have hD5 : Blk w5 d 70 _ := hD4.turn hT5 hdm
  have hV5 : Var w5 b1 b := hV4.turn hT5 hbm
  have hgm : ¬ g = mw := fun e => by
    rcases hown.2 with ⟨e1, -⟩ | ⟨g', cap', cur, e1, -, hg', -⟩
    · cases e1
    · injection e1 with e1
      injection e1 with e1
      injection e1 with e1
      subst e1
      exact hM4.not_blk (show Blk w4 g 32 cur from hg') e.symm
  have hR4 : Rows w4 (.slice (some ⟨g, 0, none⟩) ((x.waits i).length + 1) cap) (x.waits i ++ [b]) := by
    refine ⟨?_, fun q hq => ?_⟩
    · rw [flat_append, List.length_append]
      exact hown
    · rcases List.mem_append.1 hq with hq | hq
      · cases hf : f i with
        | none => rw [h.none_ i hf] at hq; cases hq
        | some u => exact (h.wt i u hf).2 q hq
      · rw [List.mem_singleton.1 hq]; exact hV.2
  have hR5 : Rows w5 (.slice (some ⟨g, 0, none⟩) ((x.waits i).length + 1) cap) (x.waits i ++ [b]) := hR4.turn hT5 fun j hj e => hgm ((Option.some.inj hj).trans e)
  have hgd : ¬ g = d := fun e => by
    obtain ⟨cs, hc⟩ := rows_type hR4 g rfl
    exact Blk.ne_ hc hD4 (by decide) e
  have hT6 : Turn (fun j => j = d) w5 (w5.setCell ⟨d, 3, none⟩ (.int .i64 (x.writes + 1))) := (Turn.refl (fun j => j = d) w5).setCell (p := ⟨d, 3, none⟩) (fun _ => rfl) (.int .i64 (x.writes + 1))
  have hTT : Turn (fun j => j = d ∨ j = mw ∨ v.ownBlock = some j) w2 (w5.setCell ⟨d, 3, none⟩ (.int .i64 (x.writes + 1))) :=
    ((hrow.mono (S' := fun j => j = d ∨ j = mw ∨ v.ownBlock = some j) fun j _ e => .inr (.inr e)).trans hT5 fun j _ e => .inr (.inl e)).trans hT6 fun j _ e => .inl e
  have hew : (x.writes + 1).toNat = x.writes.toNat + 1 := by have := h.cnt.1; omega
  refine ⟨w5, hrun, ⟨hD4.cell 2, hV4.range⟩, ⟨hD5.cell 2, hV5.range⟩, hD5.cell 3, hD5.frozen 3, ?_, ?_⟩
  · refine h.wrote i b _ g rfl ?_ (by rw [← hv]; exact hTT) (hD5.set_ 3 _) ?_ (hR5.turn hT6 fun j hj e => hgd ((Option.some.inj hj).trans e))
    · rcases hat with e | e
      · left
        cases hf : f i with
        | none => rw [hv, hf] at e; cases e
        | some u => rw [hv, hf] at e; exact ⟨u, rfl, e⟩
      · right
        refine ⟨by rw [e]; simp, ?_⟩
        have := hg5.size
        simp [World.setCell]
        omega
    · rw [hew]
      exact hM5.turn hT6 fun e => hdm e.symm
  · exact hTT.mono fun j _ e => by
      rcases e with rfl | rfl | e
      · exact h.fd
      · exact h.fm
      · exact (hvF j e).1
end Go.Proofs.Ytnbppfhnagacfaa
