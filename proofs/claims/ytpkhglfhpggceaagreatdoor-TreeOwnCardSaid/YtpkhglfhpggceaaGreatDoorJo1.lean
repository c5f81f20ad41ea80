/- maps.Clone at a map of texts: the library contract laid at this program by the kit's lay-plain.mjs; no walk. What package tree does to memory: a copy's parts. What package tree does to memory: Open; what a copy under way holds. What package tree does to memory: Copy (printed by gencpy.py). What SameInts of package scupperbase computes. What a tree that is none answers. A tree, its copy and a reference's tree in one world. -/
import Derived.Test.YtpkhglfhpggceaaGreatDoorProg
import Derived.Shelf.SlMaps.Clone
import Derived.Shelf.SlGeneric
import Derived.Test.YtpkhglfhpggceaaGreatDoorMake
import Derived.Test.YtpkhglfhpggceaaGreatDoorTinv
import Derived.Test.YtpkhglfhpggceaaGreatDoorSq
import Derived.Test.YtpkhglfhpggceaaGreatDoorClone
import Derived.Test.YtpkhglfhpggceaaGreatDoorRows
import Derived.Test.YtpkhglfhpggceaaGreatDoorCheck
import Derived.Deep.QuietTactic
import Derived.BigQuiet
import Derived.Test.YtpkhglfhpggceaaGreatDoorJc5
namespace Go.Proofs
open Go.Shelf
def YtpkhglfhpggceaaGreatDoor.cloneM_ren : Go.Shelf.Ren := ⟨fun | 5 => 50 | 7 => 95 | n => n, fun | 23 => 72 | 25 => 9 | 3 => 3 | 4 => 4 | 20 => 20 | n => n, fun | n => n⟩
theorem YtpkhglfhpggceaaGreatDoor.cloneM : Go.Proofs.SlLaysW.n5 Tryz.prog YtpkhglfhpggceaaGreatDoor.cloneM_ren := {
  mixed := by kernel_rfl
  f5 := ⟨Tryz.f50.name, by decide, Tryz.func50.trans (congrArg some (by kernel_rfl))⟩
  f7 := Tryz.func95.trans (congrArg some (by kernel_rfl))
  t4 := Tryz.underlying4
  a4 := Tryz.isAgg4
  z4 := Tryz.sizeOf4
  v4 := Tryz.zeroValue4
  t20 := Tryz.underlying20
  a20 := Tryz.isAgg20
  z20 := Tryz.sizeOf20
  v20 := Tryz.zeroValue20
  t23 := Tryz.underlying72
  a23 := Tryz.isAgg72
  z23 := Tryz.sizeOf72
  v23 := Tryz.zeroValue72 }
end Go.Proofs
namespace Go.Proofs.YtpkhglfhpggceaaGreatDoor
open Go.RowKit Go.Maps Go.Shelf
set_option linter.unusedVariables false
set_option linter.unusedSimpArgs false
section
variable {F F' : Nat → Prop} {w w' : World} {t c : Nat} {M : TMem} {a : TS}
theorem TreeIs.addWhole (h : TreeIs F w t M c a) {k g b : Nat} {v : Nd} {u : Value} (hk : (a.nd k).kind = 0) (hT : Turn (· = M.mb) w w') (hm : MapIs w' M.mb (c + 1) (upd (nodeF M a) (k : Int) (some (.pointer (some ⟨g, 0, none⟩)))))
  (hg : Blk w' g 74 #[.int .i64 v.kind, .int .i64 v.links, u, .map (some b)]) (hu : Byt w' u v.data) (huF : ∀ j, u.ownBlock = some j → F' j) (hb : MapS w' b (c + 1) v.names) (hF : ∀ j, F j → F' j) (hgF : F' g) (hbF : F' b) (hlt : ∀ j, F' j → j < w'.heap.size) (h0 : ¬ F' 0)
  (hgn : ¬ F g) (hbn : ¬ F b) (hkd : v.kind ≠ 0) :
  TreeIs F' w' t { M with hp := setF M.hp k g, nb := setF M.nb k b, dv := setF M.dv k u } (c + 1) (a.setNd k v) := by
 have nb : ∀ {g : Nat} {ty : TypeId} {cs : Array Value}, Blk w g ty cs → g ≠ M.mb := fun {g ty cs} hb e => h.map.not_blk hb e.symm
 have hlive : ∀ i, ((a.setNd k v).nd i).kind ≠ 0 → i = k ∨ (i ≠ k ∧ (a.nd i).kind ≠ 0) := fun i hi => by
  have hi : (setF a.nd k v i).kind ≠ 0 := hi
  by_cases e : i = k
  ·exact .inl e
  ·rw [setF_other _ _ e] at hi; exact .inr ⟨e, hi⟩
 refine ⟨h.blk.turn hT (nb h.blk), ?_, fun i hi => ?_, h.tab.turn hT fun j hj => ?_, h.op, fun i j hi hj hij => ?_, fun i hi => ?_, hF _ h.ft, hF _ h.fm, fun j hj => hF _ (h.ftab j hj), hlt, h0, mx_turn h.mx hT fun e => h.f0 (by rw [e]; exact h.fm)⟩
 ·have e : nodeF { M with hp := setF M.hp k g, nb := setF M.nb k b, dv := setF M.dv k u } (a.setNd k v) = upd (nodeF M a) (k : Int) (some (.pointer (some ⟨g, 0, none⟩))) := by
   funext i
   unfold nodeF
   by_cases e : i = (k : Int)
   ·subst e
    rw [upd_same]
    have e1 : (a.setNd k v).nd k = v := setF_same _ _ _
    rw [show (k : Int).toNat = k from by omega, e1, if_pos ⟨by omega, hkd⟩]
    show some (Value.pointer (some ⟨setF M.hp k g k, 0, none⟩)) = _
    rw [setF_same]
   ·rw [upd_other _ _ e]
    by_cases h0 : 0 ≤ i
    ·have e1 : (a.setNd k v).nd i.toNat = a.nd i.toNat := setF_other _ _ (by omega)
     have e2 : setF M.hp k g i.toNat = M.hp i.toNat := setF_other _ _ (by omega)
     rw [e1]
     show (if 0 ≤ i ∧ (a.nd i.toNat).kind ≠ 0 then some (Value.pointer (some ⟨setF M.hp k g i.toNat, 0, none⟩)) else none) = _
     rw [e2]
    ·rw [if_neg fun x => h0 x.1, if_neg fun x => h0 x.1]
  rw [e]
  exact hm
 ·rcases hlive i hi with e | ⟨e, hi'⟩
  ·subst e
   have e1 : (a.setNd i v).nd i = v := setF_same _ _ _
   show Blk w' (setF M.hp i g i) 74 #[.int .i64 ((a.setNd i v).nd i).kind, .int .i64 ((a.setNd i v).nd i).links, setF M.dv i u i, .map (some (setF M.nb i b i))] ∧ Byt w' (setF M.dv i u i) ((a.setNd i v).nd i).data ∧ MapS w' (setF M.nb i b i) (c + 1) ((a.setNd i v).nd i).names ∧ F' (setF M.hp i g i) ∧ F' (setF M.nb i b i) ∧ ∀ j, (setF M.dv i u i).ownBlock = some j → F' j
   rw [e1, setF_same, setF_same, setF_same]
   exact ⟨hg, hu, hb, hgF, hbF, huF⟩
  ·have e1 : (a.setNd k v).nd i = a.nd i := setF_other _ _ e
   obtain ⟨g1, g2, g3, g4, g5, g6⟩ := h.node i hi'
   show Blk w' (setF M.hp k g i) 74 #[.int .i64 ((a.setNd k v).nd i).kind, .int .i64 ((a.setNd k v).nd i).links, setF M.dv k u i, .map (some (setF M.nb k b i))] ∧ Byt w' (setF M.dv k u i) ((a.setNd k v).nd i).data ∧ MapS w' (setF M.nb k b i) (c + 1) ((a.setNd k v).nd i).names ∧ F' (setF M.hp k g i) ∧ F' (setF M.nb k b i) ∧ ∀ j, (setF M.dv k u i).ownBlock = some j → F' j
   rw [e1, setF_other _ _ e, setF_other _ _ e, setF_other _ _ e]
   exact ⟨g1.turn hT (nb g1), g2.turn hT fun j hj => by obtain ⟨cs, hb⟩ := g2.type j hj; exact nb hb, (g3.turn hT (h.nmb i hi')).mono (by omega), hF _ g4, hF _ g5, fun j hj => hF _ (g6 j hj)⟩
 ·rcases hj with rfl | ⟨i, x, hi, hx, rfl⟩
  ·exact nb h.tab.tab
  ·exact nb (h.tab.file i hi x hx)
 ·have hij : setF M.hp k g i = setF M.hp k g j ∨ setF M.nb k b i = setF M.nb k b j := hij
  rcases hlive i hi with e | ⟨e, hi'⟩ <;> rcases hlive j hj with e' | ⟨e', hj'⟩
  ·rw [e, e']
  ·rw [e, setF_same, setF_same, setF_other _ _ e', setF_other _ _ e'] at hij
   rcases hij with x | x
   ·exact absurd (x ▸ (h.node j hj').2.2.2.1) hgn
   ·exact absurd (x ▸ (h.node j hj').2.2.2.2.1) hbn
  ·rw [e', setF_same, setF_same, setF_other _ _ e, setF_other _ _ e] at hij
   rcases hij with x | x
   ·exact absurd (x ▸ (h.node i hi').2.2.2.1) hgn
   ·exact absurd (x ▸ (h.node i hi').2.2.2.2.1) hbn
  ·rw [setF_other _ _ e, setF_other _ _ e', setF_other _ _ e, setF_other _ _ e'] at hij
   exact h.inj i j hi' hj' hij
 ·show setF M.nb k b i ≠ M.mb
  rcases hlive i hi with e | ⟨e, hi'⟩
  ·rw [e, setF_same]
   exact fun x => hbn (by rw [x]; exact h.fm)
  ·rw [setF_other _ _ e]
   exact h.nmb i hi'
theorem names_clone {b n : Nat} {l : Names} (w : World) (h : MapS w b n l) : Calls Tryz.prog 50 #[.map (some b)] w fun e w' => e = .returned (.map (some w.heap.size)) ∧ MapS w' w.heap.size n l ∧ Below w.heap.size w w' ∧ w'.heap.size = w.heap.size + 1 := by
 obtain ⟨h1, h2, h3, D, ⟨es, clock, hb, hF, hs, hD⟩, hr, hsz⟩ := h
 have := AnyW.maps_Clone YtpkhglfhpggceaaGreatDoor.cloneM b es clock w hb
 change Calls Tryz.prog 50 _ _ _ at this
 refine this.mono ?_
 rintro e w' ⟨rfl, rfl⟩
 refine ⟨rfl, ⟨h1, h2, h3, D, ⟨es, clock, (MapKept.heap_alloc w _).1, hF, hs, hD⟩, hr, hsz⟩, (Below.refl _ _).alloc (Nat.le_refl _) _, by simp⟩
theorem RangeIs.few {b r n : Nat} {f : Int → Option Value} {left : Int → Bool} {cnt : Nat} (h : RangeIs w b r n f left cnt) : cnt ≤ n := by
 obtain ⟨D, lf, ⟨es, clock, since, seen, c0, h1, h2, h3, h4, h5, h6, h7, h8⟩, rd, hl⟩ := h
 rw [← h7]
 unfold leftOf
 exact Nat.le_trans (Array.size_filter_le ..) h3
end
end Go.Proofs.YtpkhglfhpggceaaGreatDoor
namespace Go.Proofs.YtpkhglfhpggceaaGreatDoor
open Go.RowKit Go.Maps
set_option linter.unusedVariables false
set_option linter.unusedSimpArgs false
section
variable {F : Nat → Prop} {w w' : World} {t c : Nat} {M : TMem} {a : TS}
theorem topenC_any (w : World) (h : TreeIs F w t M c a) : Calls Tryz.prog 20 #[.pointer (some ⟨t, 0, none⟩)] w fun e w' => ∃ tb T', e = .returned (.pointer (some ⟨tb, 0, none⟩)) ∧ w.heap.size ≤ tb ∧ Tab w' tb T' ∧
  (∀ i, i < 8 → (T' i).map (·.2) = (M.T i).map (·.2) ∧ ∀ x, T' i = some x → w.heap.size ≤ x.1) ∧ Below w.heap.size w w' := by
 have HC := Lib.hid (copy_any M.T M.tb w h.tab)
 obtain ⟨c0, c1, c2⟩ := h.cells
 clear h
 go_enter Tryz.func20, Tryz.ntmps20
 go_wp2_with fail
 refine HC.out.mono ?_
 rintro e w' ⟨T', rfl, h1, h2, h3⟩
 go_wp2
 go_ret
 exact ⟨_, T', rfl, Nat.le_refl _, h1, h2, h3⟩
def cpS (a : TS) (done : Nat → Bool) : TS := ⟨a.last, fun k => if done k then a.nd k else nd0, a.op⟩
theorem cpS_nd (a : TS) (done : Nat → Bool) (k : Nat) : (cpS a done).nd k = if done k then a.nd k else nd0 := rfl
theorem cpS_zero (a : TS) (k : Nat) : ((cpS a fun _ => false).nd k).kind = 0 := rfl
theorem cpS_set (a : TS) (done : Nat → Bool) (k : Nat) : (cpS a done).setNd k (a.nd k) = cpS a fun i => done i || decide (i = k) := by
 unfold cpS TS.setNd
 congr 1
 funext i
 by_cases e : i = k
 ·subst e
  rw [setF_same]
  simp
 ·rw [setF_other _ _ e]
  simp [e]
theorem cpS_end {a : TS} {c : Nat} (hg : Good a c) {done : Nat → Bool} (h : ∀ k, done k = true ↔ (a.nd k).kind ≠ 0) : cpS a done = a := by
 unfold cpS
 have : (fun k => if done k then a.nd k else nd0) = a.nd := by
  funext k
  by_cases e : done k = true
  ·rw [if_pos e]
  ·rw [if_neg e]
   have h0 : (a.nd k).kind = 0 := Decidable.byContradiction fun x => e ((h k).2 x)
   rcases hg.kinds k with h1 | h1 | h1
   ·exact h1.2.symm
   ·rw [h1.1] at h0; cases h0
   ·rw [h1] at h0; cases h0
 rw [this]
def cpF (w wr : World) (rb : Nat) : Nat → Prop := fun j => (w.heap.size ≤ j ∧ j < wr.heap.size) ∧ j ≠ rb
theorem cp_start {mb tb t2 : Nat} {T T' : Nat → Option FileT} (hw : 0 < w.heap.size) (hb : Below w.heap.size w w') (hm0 : w.heap.size ≤ mb) (hm : MapIs w' mb 0 fun _ => none) (ht0 : w.heap.size ≤ tb) (ht : Tab w' tb T')
  (hT : ∀ i, i < 8 → (T' i).map (·.2) = (T i).map (·.2) ∧ ∀ x, T' i = some x → w.heap.size ≤ x.1) (hop : ∀ i, i < 8 → (T i).map (·.2) = a.op i) (hX : Blk w' t2 70 #[.int .i64 (a.last : Nat), .map (some mb), .pointer (some ⟨tb, 0, none⟩)])
  (hx0 : w.heap.size ≤ t2) (hmx : ∃ m, w.cell? ⟨0, 0, none⟩ = some (.int .i64 m)) (c : Nat) :
  TreeIs (cpF w w' w'.heap.size) w' t2 ⟨mb, tb, fun _ => 0, fun _ => 0, fun _ => .slice none 0 0, T'⟩ c (cpS a fun _ => false) where
 blk := hX
 map := by
  have e : nodeF ⟨mb, tb, fun _ => 0, fun _ => 0, fun _ => .slice none 0 0, T'⟩ (cpS a fun _ => false) = fun _ => none := by
   funext k
   unfold nodeF
   rw [if_neg fun x => x.2 rfl]
  rw [e]
  exact hm.mono (Nat.zero_le _)
 node := fun k hk => absurd (cpS_zero a k) hk
 tab := ht
 op := fun i hi => (hT i hi).1.trans (hop i hi)
 inj := fun k k' hk => absurd (cpS_zero a k) hk
 nmb := fun k hk => absurd (cpS_zero a k) hk
 ft := ⟨⟨hx0, hX.lt⟩, Nat.ne_of_lt hX.lt⟩
 fm := ⟨⟨hm0, hm.lt⟩, Nat.ne_of_lt hm.lt⟩
 ftab := fun j hj => ⟨⟨by
  rcases hj with rfl | ⟨i, x, hi, hx, rfl⟩
  ·exact ht0
  ·exact (hT i hi).2 x hx, ht.lt hj⟩, Nat.ne_of_lt (ht.lt hj)⟩
 lt := fun j hj => hj.1.2
 f0 := fun hj => by have := hj.1.1; omega
 mx := by
  obtain ⟨m, hm⟩ := hmx
  exact ⟨m, (World.cell?_of_block (a := ⟨0, 0, none⟩) (hb.block 0 hw)).trans hm⟩
def CpI (w : World) (a : TS) (c t2 mb rb : Nat) (left : Int → Bool) (n : Nat) (wr : World) : Prop :=
 ∃ M done, M.mb = mb ∧ TreeIs (cpF w wr rb) wr t2 M (c + n) (cpS a done) ∧ ∀ k : Nat, done k = true ↔ (a.nd k).kind ≠ 0 ∧ left (k : Int) = false
section
variable {mb t2 rb n : Nat} {left : Int → Bool} {wr : World}
theorem CpI.start (h : TreeIs (cpF w wr rb) wr t2 M c (cpS a fun _ => false)) (hl : ∀ k : Nat, (a.nd k).kind ≠ 0 → left k = true) : CpI w a c t2 M.mb rb left 0 wr :=
 ⟨M, fun _ => false, rfl, h, fun k => ⟨fun e => (by cases e), fun e => (by have := hl k e.1; rw [e.2] at this; cases this)⟩⟩
theorem CpI.turn (h : CpI w a c t2 mb rb left n wr) (hT : Turn (· = rb) wr w') (hw : 0 < w.heap.size) (hrb : rb ≠ 0) : CpI w a c t2 mb rb left n w' := by
 obtain ⟨M, done, hm, h, hd⟩ := h
 exact ⟨M, done, hm, (h.turn hT (fun j hj => hj.2) fun e => hrb e.symm).wide (fun j hj => ⟨⟨hj.1.1, Nat.lt_of_lt_of_le hj.1.2 hT.size⟩, hj.2⟩) (fun j hj => hj.1.2) (fun hj => by have := hj.1.1; omega), hd⟩
theorem CpI.mbs (h : CpI w a c t2 mb rb left n wr) : wr.cell? ⟨t2, 1, none⟩ = some (.map (some mb)) ∧ (w.heap.size ≤ mb ∧ mb < wr.heap.size) ∧ mb ≠ rb := by
 obtain ⟨M, done, rfl, h, hd⟩ := h
 exact ⟨h.cells.2.1, h.fm⟩
theorem CpI.done (hg : Good a c) (h : CpI w a c t2 mb rb left n wr) (h0 : ∀ k, left k = false) (hw : 0 < w.heap.size) : St (grow (fun _ => False) w wr) wr t2 (c + n) a := by
 obtain ⟨M, done, hm, h, hd⟩ := h
 have e := cpS_end hg (done := done) fun k => ⟨fun x => ((hd k).1 x).1, fun x => (hd k).2 ⟨x, h0 _⟩⟩
 rw [e] at h
 exact ⟨M, h.wide (fun j hj => .inr hj.1) (fun j hj => by
  rcases hj with hj | hj
  ·exact hj.elim
  ·exact hj.2) (fun hj => by
  rcases hj with hj | hj
  ·exact hj
  ·omega)⟩
theorem CpI.step {k g b : Nat} {w2 : World} {u : Value} (h : CpI w a c t2 mb rb left n wr) (hk : (a.nd k).kind ≠ 0) (hl : left (k : Int) = true) (hw : 0 < w.heap.size) (hk9 : k ≤ 1000000) (hc : c + n ≤ 1000000) (hrb : rb < wr.heap.size)
  (h0 : w.heap.size ≤ wr.heap.size) (hb : Below wr.heap.size wr w2) (hg : Blk w2 g 74 #[.int .i64 (a.nd k).kind, .int .i64 (a.nd k).links, u, .map (some b)]) (hu : Byt w2 u (a.nd k).data) (hu0 : ∀ j, u.ownBlock = some j → wr.heap.size ≤ j)
  (hnm : MapS w2 b c (a.nd k).names) (hg0 : wr.heap.size ≤ g) (hb0 : wr.heap.size ≤ b) :
  ∃ w', (Instr.mapUpdate 68 (.map (some mb)) (.int .i64 (k : Nat)) (.pointer (some ⟨g, 0, none⟩))).run Tryz.prog w2 = .ok () w' ∧ CpI w a c t2 mb rb (fun x => left x && !decide (x = (k : Int))) (n + 1) w' ∧ Turn (· = mb) w2 w' := by
 obtain ⟨M, done, rfl, h, hd⟩ := h
 have hlt := h.lt
 have h2 := h.below hb
 obtain ⟨w', hrun, hm, hgr⟩ := h2.map.store Tryz.underlying68 (by unfold maxLen; omega) (wfNat hk9) (.pointer (some ⟨g, 0, none⟩))
 have hT := turn_of_grown hgr
 have hs2 := hb.size
 have hs' := hT.size
 have hnd : done k = false := by
  cases e : done k with
  | false => rfl
  | true => have := ((hd k).1 e).2; rw [hl] at this; cases this
 have hk0 : ((cpS a done).nd k).kind = 0 := by rw [cpS_nd, hnd]; rfl
 have hgF : ¬ cpF w wr rb g := fun e => by have := hlt g e; omega
 have hbF : ¬ cpF w wr rb b := fun e => by have := hlt b e; omega
 have hmF := h.fm
 have hgm : g ≠ M.mb := fun e => hgF (e ▸ hmF)
 have hbm : b ≠ M.mb := fun e => hbF (e ▸ hmF)
 have hres := h2.addWhole (F' := cpF w w' rb) (k := k) (g := g) (b := b) (v := a.nd k) (u := u) hk0 hT hm (hg.turn hT hgm) (hu.turn hT fun j hj e => ?_)
  (fun j hj => ⟨⟨Nat.le_trans h0 (hu0 j hj), Nat.lt_of_lt_of_le (hu.lt j hj) hs'⟩, fun e => by have := hu0 j hj; omega⟩) ((hnm.turn hT hbm).mono (by omega))
  (fun j hj => ⟨⟨hj.1.1, by have := hj.1.2; omega⟩, hj.2⟩) ⟨⟨Nat.le_trans h0 hg0, Nat.lt_of_lt_of_le hg.lt hs'⟩, by omega⟩ ⟨⟨Nat.le_trans h0 hb0, Nat.lt_of_lt_of_le hnm.lt hs'⟩, by omega⟩ (fun j hj => hj.1.2) (fun hj => by have := hj.1.1; omega) hgF hbF hk
 ·rw [cpS_set] at hres
  refine ⟨w', hrun, ⟨{ M with hp := setF M.hp k g, nb := setF M.nb k b, dv := setF M.dv k u }, fun i => done i || decide (i = k), rfl, hres, fun i => ?_⟩, hT⟩
  by_cases e : i = k
  ·subst e
   simp [hk]
  ·have e' : ¬ (i : Int) = (k : Int) := by omega
   simp [e, e', hd]
 ·have h1 : w.heap.size ≤ M.mb ∧ M.mb < wr.heap.size := hmF.1
  have := hu0 j hj
  omega
end
def CpH (w0 : World) (T : Nat → Option FileT) (om ot : Option Nat) (w : World) : Prop :=
 Below w0.heap.size w0 w ∧ (∀ mb, om = some mb → w0.heap.size ≤ mb ∧ MapIs w mb 0 fun _ => none) ∧ ∀ tb, ot = some tb → w0.heap.size ≤ tb ∧ ∃ T', Tab w tb T' ∧ ∀ i, i < 8 → (T' i).map (·.2) = (T i).map (·.2) ∧ ∀ x, T' i = some x → w0.heap.size ≤ x.1
section
variable {w0 : World} {T : Nat → Option FileT} {om ot : Option Nat}
theorem CpH.bel (h : CpH w0 T om ot w) : Below w0.heap.size w0 w := h.1
theorem CpH.drew (h : CpH w0 T om ot w) : CpH w0 T om ot w.drew := ⟨h.1.trans ((⟨rfl, rfl, rfl, Nat.le_refl _, fun _ _ => rfl⟩ : Below w.heap.size w w.drew).mono h.1.size), fun mb e => ⟨(h.2.1 mb e).1, (h.2.1 mb e).2.drew⟩, fun tb e => by
 obtain ⟨k1, T', k2, k3⟩ := h.2.2 tb e
 exact ⟨k1, T', k2.drew, k3⟩⟩
theorem CpH.map {ot : Option Nat} (h : CpH w0 T none ot w) : CpH w0 T (some w.heap.size) ot (w.alloc (.map #[] 0)) := by
 obtain ⟨h1, h2, h3⟩ := h
 refine ⟨h1.alloc h1.size _, fun mb e => ?_, fun tb e => ?_⟩
 ·obtain rfl := Option.some.inj e
  exact ⟨h1.size, MapIs.new w⟩
 ·obtain ⟨k1, T', k2, k3⟩ := h3 tb e
  exact ⟨k1, T', k2.alloc _, k3⟩
theorem CpH.tab {tb : Nat} {T' : Nat → Option FileT} (h : CpH w0 T om none w) (h0 : w.heap.size ≤ tb) (ht : Tab w' tb T') (hT : ∀ i, i < 8 → (T' i).map (·.2) = (T i).map (·.2) ∧ ∀ x, T' i = some x → w.heap.size ≤ x.1) (hb : Below w.heap.size w w') : CpH w0 T om (some tb) w' := by
 obtain ⟨h1, h2, h3⟩ := h
 refine ⟨h1.trans (hb.mono h1.size), fun mb e => ?_, fun tb' e => ?_⟩
 ·obtain ⟨k1, k2⟩ := h2 mb e
  exact ⟨k1, k2.turn (S := fun _ => False) (Turn.of_below hb) fun e => e⟩
 ·obtain rfl := Option.some.inj e
  exact ⟨Nat.le_trans h1.size h0, T', ht, fun i hi => ⟨(hT i hi).1, fun x hx => Nat.le_trans h1.size ((hT i hi).2 x hx)⟩⟩
end
end
end Go.Proofs.YtpkhglfhpggceaaGreatDoor
namespace Go.Proofs.YtpkhglfhpggceaaGreatDoor
set_option maxRecDepth 100000
set_option maxHeartbeats 16000000
open Go.RowKit Go.Maps Go.Proofs.YtpkhglfhpggceaaGreatDoorW.PrintLast
set_option linter.unusedVariables false
set_option linter.unusedSimpArgs false
section
variable {F : Nat → Prop} {w w' : World} {t c : Nat} {M : TMem} {a : TS}
theorem clone_q (v : Value) (l : List UInt8) (w : World) (h : Bs w v l) (hl : l.length ≤ 100000) :
  Calls Tryz.prog 47 #[v] w fun e w' => ∃ A c, e = .returned (.slice A l.length c) ∧ Byt w' (.slice A l.length c) l ∧ (∀ j, (Value.slice A l.length c).ownBlock = some j → w.heap.size ≤ j) ∧ Below w.heap.size w w' :=
 (clone_any v l w h hl).mono fun e w' hx => by
  obtain ⟨r, rfl, h1, h2, h3⟩ := hx
  obtain ⟨A, c, rfl, -⟩ := h1.rd
  exact ⟨A, c, rfl, h1, h2, h3⟩
theorem tcopy_any (w : World) (h : TreeIs F w t M c a) (hg : Good a c) (hc : c ≤ 100000) :
  Calls Tryz.prog 17 #[.pointer (some ⟨t, 0, none⟩)] w fun e w' => ∃ t2, e = .returned (.pointer (some ⟨t2, 0, none⟩)) ∧ St (grow (fun _ => False) w w') w' t2 (2 * c) a ∧ Below w.heap.size w w' := by
 have HT := Lib.hid h
 have HG := Lib.hid hg
 have hw0 := h.w0
 have hmm := @run_makeMap Tryz.prog
 obtain ⟨c0, c1, c2⟩ := h.cells
 clear h hg c1 c2
 go_enter Tryz.func17, Tryz.ntmps17
 go_upto_region 3 with (fail)
 have hC0 : CpH w M.T none none w := ⟨Below.refl _ _, fun mb e => (by cases e), fun tb e => (by cases e)⟩
 have hC := hC0.drew
 refine start_ (n := 10) (S := fun w' => w'.cell? ⟨t, 0, none⟩ = some (.int .i64 (a.last : Nat))) (ds := []) (bs 10 0) (by kernel_rfl) rfl rfl ((HT.out.below hC.bel).cells.1) (fun hHeld => ?_)
 refine py_ 0 8 (bs 10 1) rfl rfl (by kernel_rfl) (fun _ _ _ h => h) (by rfl) (fun w' => by go_simp; with_reducible rfl) (by simp only [Act.put, sA, sZ, sS, i64_w, i32_w]; rfl) ?_
 refine py_ 1 9 (bs 10 3) rfl rfl (by kernel_rfl) (fun _ _ _ h => h) (by rfl) (fun w' => by go_simp; with_reducible rfl) (by simp only [Act.put, sA, sZ, sS, i64_w, i32_w]; rfl) ?_
 refine py_ 2 10 (bs 10 7) rfl rfl (by kernel_rfl) (fun _ _ _ h => h) (by rfl) (fun w' => by go_simp; with_reducible rfl) (by simp only [Act.put, sA, sZ, sS, i64_w, i32_w]; rfl) ?_
 refine py_ 5 13 (bs 10 39) rfl rfl (by kernel_rfl) (fun _ _ _ h => h) (by rfl) (fun w' => by go_simp; with_reducible rfl) (by simp only [Act.put, sA, sZ, sS, i64_w, i32_w]; rfl) ?_
 refine ty_ 3 11 (bs 10 47) rfl rfl (by kernel_rfl) (fun _ _ _ h => h) (by rfl) (by intro w' s0; go_simp; with_reducible rfl) hHeld (by simp only [Act.put, sA, sZ, sS, i64_w, i32_w]; rfl) ?_
 refine join_ (σ := Nat × Nat) 3 (bs 10 127) (fun s => [(12, Value.map (some s.1)), (14, Value.pointer (some ⟨s.2, 0, none⟩))]) (fun s w' => CpH w M.T (some s.1) (some s.2) w') ?_ ?_
 rotate_left
 ·intro hCont
  refine two_ (i := 4) (j := 6) (Ni := some 12) (Nj := some 14) (bs 10 63) (bs 10 111) rfl rfl rfl rfl (by kernel_rfl) (by decide) (by decide) (fun K hK => ?_) (fun K hK => ?_)
  ·skip
   refine value_ (w1 := ?_) (v := ?_) (by rfl) rfl ?_ ?_
   rotate_left 2
   ·go_simp
    constructor
    ·rfl
    ·rfl
   have hC := hC0.map.drew
   refine hK.out _ _ ((HT.out.below hC.bel).cells.1) (fun hHeld => ?_)
   clear hK K
   refine norm_ (a' := ?_) ?_ ?_
   rotate_left
   ·show Act.put _ (some 12) _ = _
    simp only [Act.put, sA, sZ, sS, i64_w, i32_w]
    rfl
   refine one_ (i := 6) (N := some 14) (bs 10 127) rfl rfl (by kernel_rfl) (by decide) (fun K hK => ?_)
   refine goes_ Tryz.func20 (by kernel_rfl) rfl #[.pointer (some ⟨t, 0, none⟩)] (by rfl) rfl rfl (by simp only [List.map_toArray, List.map_cons, List.map_nil]; rfl) ?_
   with_reducible refine ((topenC_any _ (HT.out.below hC.bel))).mono ?_
   rintro e w3 ⟨tb, T2, rfl, hot, htb, htp, hb3⟩
   refine ⟨_, rfl, ?_⟩
   have hC := hC.tab hot htb htp hb3
   clear hot htb htp hb3
   refine hK.out _ _ ((HT.out.below hC.bel).cells.1) (fun hHeld => ?_)
   clear hK K
   refine norm_ (a' := ?_) ?_ ?_
   rotate_left
   ·show Act.put _ (some 14) _ = _
    simp only [Act.put, sA, sZ, sS, i64_w, i32_w]
    rfl
   exact norm_ (by first | (simp only [putAll, Act.put, sA, sZ, sS]; done) | (simp only [putAll, Act.put, sA, sZ, sS]; rfl)) (hCont (_, _) _ hC)
  ·skip
   refine goes_ Tryz.func20 (by kernel_rfl) rfl #[.pointer (some ⟨t, 0, none⟩)] (by rfl) rfl rfl (by simp only [List.map_toArray, List.map_cons, List.map_nil]; rfl) ?_
   with_reducible refine ((topenC_any _ (HT.out.below hC.bel))).mono ?_
   rintro e w3 ⟨tb, T2, rfl, hot, htb, htp, hb3⟩
   refine ⟨_, rfl, ?_⟩
   have hC := hC.tab hot htb htp hb3
   clear hot htb htp hb3
   refine hK.out _ _ ((HT.out.below hC.bel).cells.1) (fun hHeld => ?_)
   clear hK K
   refine norm_ (a' := ?_) ?_ ?_
   rotate_left
   ·show Act.put _ (some 14) _ = _
    simp only [Act.put, sA, sZ, sS, i64_w, i32_w]
    rfl
   refine one_ (i := 4) (N := some 12) (bs 10 127) rfl rfl (by kernel_rfl) (by decide) (fun K hK => ?_)
   refine value_ (w1 := ?_) (v := ?_) (by rfl) rfl ?_ ?_
   rotate_left 2
   ·go_simp
    constructor
    ·rfl
    ·rfl
   have hC := hC.map
   refine hK.out _ _ ((HT.out.below hC.bel).cells.1) (fun hHeld => ?_)
   clear hK K
   refine norm_ (a' := ?_) ?_ ?_
   rotate_left
   ·show Act.put _ (some 12) _ = _
    simp only [Act.put, sA, sZ, sS, i64_w, i32_w]
    rfl
   exact norm_ (by first | (simp only [putAll, Act.put, sA, sZ, sS]; done) | (simp only [putAll, Act.put, sA, sZ, sS]; rfl)) (hCont (_, _) _ hC)
 rintro ⟨mb, tb⟩ w4 hC
 have hHeld := (HT.out.below hC.bel).cells.1
 refine norm_ (a' := ?_) ?_ ?_
 rotate_left
 ·simp only [putAll, Act.put, sA, sZ, sS]
  rfl
 refine py_ 7 15 (bs 10 255) rfl rfl (by kernel_rfl) (fun _ _ _ h => h) (by rfl) (fun w' => by go_simp; with_reducible rfl) (by simp only [Act.put, sA, sZ, sS, i64_w, i32_w]; rfl) ?_
 refine one_ (i := 8) (N := some 16) (bs 10 511) rfl rfl (by kernel_rfl) (by decide) (fun K hK => ?_)
 refine value_ (w1 := ?_) (v := ?_) (by rfl) rfl ?_ ?_
 rotate_left 2
 ·go_simp
  constructor
  ·rfl
  ·rfl
 refine hK.out _ _ ((HT.out.below (hC.bel.alloc hC.bel.size _)).cells.1) (fun hHeld => ?_)
 clear hK K
 refine norm_ (a' := ?_) ?_ ?_
 rotate_left
 ·show Act.put _ (some 16) _ = _
  simp only [Act.put, sA, sZ, sS, i64_w, i32_w]
  rfl
 refine py_ 9 3 (bs 10 1023) rfl rfl (by kernel_rfl) (fun _ _ _ h => h) (by rfl) (fun w' => by go_simp; with_reducible rfl) (by simp only [Act.put, sA, sZ, sS, i64_w, i32_w]; rfl) ?_
 refine done_ (by kernel_rfl) ?_
 obtain ⟨hB, hm, ht⟩ := hC
 obtain ⟨hm0, hm1⟩ := hm mb rfl
 obtain ⟨ht0, T2, ht1, ht2⟩ := ht tb rfl
 have hX := Blk.new w4 70 #[.int .i64 (a.last : Nat), .map (some mb), .pointer (some ⟨tb, 0, none⟩)]
 have hst := cp_start (a := a) (T := M.T) hw0 (hB.alloc hB.size (.cells #[.int .i64 (a.last : Nat), .map (some mb), .pointer (some ⟨tb, 0, none⟩)] 70)) hm0 (hm1.alloc _) ht0 (ht1.alloc _) ht2 HT.out.op hX hB.size HT.out.mx c
 have hb5 := hB.alloc hB.size (.cells #[.int .i64 (a.last : Nat), .map (some mb), .pointer (some ⟨tb, 0, none⟩)] 70)
 obtain ⟨t2, ht2e⟩ : ∃ x, x = w4.heap.size := ⟨_, rfl⟩
 rw [← ht2e] at hst ⊢
 clear hHeld hC hX hm ht hm1 ht1 ht2 hB hmm ht2e
 generalize w4.alloc (.cells #[.int .i64 (a.last : Nat), .map (some mb), .pointer (some ⟨tb, 0, none⟩)] 70) = w5 at *
 have hst := CpI.start (left := fun k => (nodeF M a k).isSome) hst (fun k hk => by rw [nodeF_live hk]; rfl)
 obtain ⟨t0, t1, t2c⟩ := (HT.out.below hb5).cells
 obtain ⟨w6, cnt0, hrange, hr6, hgr6, hsz6⟩ := (HT.out.below hb5).map.range Tryz.underlying68
 have hB6 : Below w5.heap.size w5 w6 := ⟨hgr6.os, hgr6.tape, hgr6.output, hgr6.size, fun i hi => hgr6.block i hi (by simp)⟩
 have hcp6 := hst.turn (Turn.of_below (S := fun j => j = w5.heap.size) hB6) hw0 (by have := hb5.size; omega)
 have hrf := hr6.few
 have hmb5 := hst.mbs
 have HCP := Lib.hid hcp6
 have HR6 := Lib.hid hr6
 have HB6 := Lib.hid (hb5.trans (hB6.mono hb5.size))
 have hwb := hb5.size
 clear hst hcp6 hr6 hB6 hgr6 hb5
 go_wp2_with fail
 obtain ⟨rb, hrb⟩ : ∃ x, x = w5.heap.size := ⟨_, rfl⟩
 rw [← hrb] at HCP HR6 hmb5 hwb ⊢
 clear hrb
 go_loopw [4, 5] (fun _ _ wr => ∃ (left : Int → Bool) (cnt n : Nat), Hid (RangeIs wr M.mb rb c (nodeF M a) left cnt) ∧ n + cnt ≤ c ∧ Hid (CpI w a c t2 mb rb left n wr) ∧ Hid (Below w.heap.size w wr)) (fun _ _ wr => wr.rangeLeft M.mb rb)
 case atStart => exact ⟨_, cnt0, 0, HR6, by omega, HCP, HB6⟩
 case round =>
  clear HCP HR6 HB6 hrange hrf t0 t1 t2c c0
  rename World => wr
  obtain ⟨left, cnt, n, hrg, hnc, hcp, hbel⟩ := hrel
  have hcnt := hrg.out.left_eq
  have hrl := hrg.out.lt
  have hwr := hbel.out.size
  rcases hrg.out.next 0 with ⟨h0, hrun⟩ | ⟨k, v, w7, cnt2, hfk, hlk, hwf, hrun, hr2, hlt, hg2, hsz2, hen⟩
  ·have HE := Lib.hid ((hcp.out.done HG.out h0 hw0).mono (show c + n ≤ 2 * c by omega))
   clear hrg hcp h0
   go_wp2
   go_ret
   exact ⟨t2, rfl, HE.out, hbel.out⟩
  ·obtain ⟨kn, rfl, hkk, rfl⟩ : ∃ kn : Nat, k = (kn : Int) ∧ (a.nd kn).kind ≠ 0 ∧ v = .pointer (some ⟨M.hp kn, 0, none⟩) := by
    unfold nodeF at hfk
    split at hfk
    ·rename_i hh
     exact ⟨k.toNat, by omega, hh.2, (Option.some.inj hfk).symm⟩
    ·cases hfk
   have hlast := (HG.out.in_last hkk).2
   have hfew := HG.out.few
   have hkn9 : kn ≤ 1000000 := by omega
   have hcn : c + n ≤ 1000000 := by omega
   have hdl : (a.nd kn).data.length ≤ 100000 := by have := HG.out.data kn; omega
   have T7 : Turn (fun j => j = rb) wr w7 := turn_of_grown hg2
   have hb7' : Below w.heap.size w w7 := hbel.out.trans (T7.below (B := w.heap.size) hwr fun i hi e => by omega)
   have HCP := Lib.hid (hcp.out.turn T7 hw0 (by omega))
   have HR7 := Lib.hid hr2
   have HB7 := Lib.hid hb7'
   have hrl : rb < w7.heap.size := by omega
   have hwr : w.heap.size ≤ w7.heap.size := by omega
   have HS7 := Lib.hid (fun W (hb : Below w7.heap.size w7 W) => show W.cell? ⟨t2, 1, none⟩ = some (.map (some mb)) ∧ _ from ⟨(World.cell?_of_block (a := ⟨t2, 1, none⟩) (hb.block t2 (World.block_lt_of_cell? w7 _ HCP.out.mbs.1))).trans HCP.out.mbs.1, ((HT.out.below HB7.out).below hb).ncells hkk⟩)
   have HDT := Lib.hid (fun W (hb : Below w7.heap.size w7 W) => (((HT.out.below HB7.out).below hb).node kn hkk).2.1)
   have HNM := Lib.hid (fun W (hb : Below w7.heap.size w7 W) => (((HT.out.below HB7.out).below hb).node kn hkk).2.2.1)
   have hmbb := HCP.out.mbs.2
   have hmbn : mb ≠ M.mb := fun e => by have h1 := hmbb.1.1; have h2 := HT.out.lt _ HT.out.fm; omega
   clear hrg hcp hr2 hg2 T7 hb7' hfk hwf
   go_upto_region 7 with (fail)
   have hb7 : Below w7.heap.size w7 w7.drew := drew_below'
   refine start_ (n := 26) (S := fun w' => w'.cell? ⟨t2, 1, none⟩ = some (.map (some mb)) ∧ w'.cell? ⟨M.hp kn, 0, none⟩ = some (.int .i64 (a.nd kn).kind) ∧ w'.cell? ⟨M.hp kn, 1, none⟩ = some (.int .i64 (a.nd kn).links) ∧ w'.cell? ⟨M.hp kn, 2, none⟩ = some (M.dv kn) ∧ w'.cell? ⟨M.hp kn, 3, none⟩ = some (.map (some (M.nb kn)))) (ds := [25]) (bs 26 0) (by kernel_rfl) rfl rfl ⟨(HS7.out _ hb7).1, (HS7.out _ hb7).2.1, (HS7.out _ hb7).2.2.1, (HS7.out _ hb7).2.2.2.1, (HS7.out _ hb7).2.2.2.2⟩ (fun hHeld => ?_)
   refine py_ 0 27 (bs 26 1) rfl rfl (by kernel_rfl) (fun _ _ _ h => h) (by rfl) (fun w' => by go_simp; with_reducible rfl) (by simp only [Act.put, sA, sZ, sS, i64_w, i32_w]; rfl) ?_
   refine py_ 1 28 (bs 26 3) rfl rfl (by kernel_rfl) (fun _ _ _ h => h) (by rfl) (fun w' => by go_simp; with_reducible rfl) (by simp only [Act.put, sA, sZ, sS, i64_w, i32_w]; rfl) ?_
   refine py_ 2 29 (bs 26 7) rfl rfl (by kernel_rfl) (fun _ _ _ h => h) (by rfl) (fun w' => by go_simp; with_reducible rfl) (by simp only [Act.put, sA, sZ, sS, i64_w, i32_w]; rfl) ?_
   refine py_ 4 31 (bs 26 23) rfl rfl (by kernel_rfl) (fun _ _ _ h => h) (by rfl) (fun w' => by go_simp; with_reducible rfl) (by simp only [Act.put, sA, sZ, sS, i64_w, i32_w]; rfl) ?_
   refine py_ 5 32 (bs 26 55) rfl rfl (by kernel_rfl) (fun _ _ _ h => h) (by rfl) (fun w' => by go_simp; with_reducible rfl) (by simp only [Act.put, sA, sZ, sS, i64_w, i32_w]; rfl) ?_
   refine py_ 6 33 (bs 26 119) rfl rfl (by kernel_rfl) (fun _ _ _ h => h) (by rfl) (fun w' => by go_simp; with_reducible rfl) (by simp only [Act.put, sA, sZ, sS, i64_w, i32_w]; rfl) ?_
   refine py_ 7 34 (bs 26 247) rfl rfl (by kernel_rfl) (fun _ _ _ h => h) (by rfl) (fun w' => by go_simp; with_reducible rfl) (by simp only [Act.put, sA, sZ, sS, i64_w, i32_w]; rfl) ?_
   refine py_ 9 36 (bs 26 759) rfl rfl (by kernel_rfl) (fun _ _ _ h => h) (by rfl) (fun w' => by go_simp; with_reducible rfl) (by simp only [Act.put, sA, sZ, sS, i64_w, i32_w]; rfl) ?_
   refine py_ 10 37 (bs 26 1783) rfl rfl (by kernel_rfl) (fun _ _ _ h => h) (by rfl) (fun w' => by go_simp; with_reducible rfl) (by simp only [Act.put, sA, sZ, sS, i64_w, i32_w]; rfl) ?_
   refine py_ 11 38 (bs 26 3831) rfl rfl (by kernel_rfl) (fun _ _ _ h => h) (by rfl) (fun w' => by go_simp; with_reducible rfl) (by simp only [Act.put, sA, sZ, sS, i64_w, i32_w]; rfl) ?_
   refine py_ 13 40 (bs 26 12023) rfl rfl (by kernel_rfl) (fun _ _ _ h => h) (by rfl) (fun w' => by go_simp; with_reducible rfl) (by simp only [Act.put, sA, sZ, sS, i64_w, i32_w]; rfl) ?_
   refine py_ 14 41 (bs 26 28407) rfl rfl (by kernel_rfl) (fun _ _ _ h => h) (by rfl) (fun w' => by go_simp; with_reducible rfl) (by simp only [Act.put, sA, sZ, sS, i64_w, i32_w]; rfl) ?_
   refine py_ 15 42 (bs 26 61175) rfl rfl (by kernel_rfl) (fun _ _ _ h => h) (by rfl) (fun w' => by go_simp; with_reducible rfl) (by simp only [Act.put, sA, sZ, sS, i64_w, i32_w]; rfl) ?_
   refine py_ 18 45 (bs 26 323319) rfl rfl (by kernel_rfl) (fun _ _ _ h => h) (by rfl) (fun w' => by go_simp; with_reducible rfl) (by simp only [Act.put, sA, sZ, sS, i64_w, i32_w]; rfl) ?_
   refine py_ 19 46 (bs 26 847607) rfl rfl (by kernel_rfl) (fun _ _ _ h => h) (by rfl) (fun w' => by go_simp; with_reducible rfl) (by simp only [Act.put, sA, sZ, sS, i64_w, i32_w]; rfl) ?_
   refine py_ 20 47 (bs 26 1896183) rfl rfl (by kernel_rfl) (fun _ _ _ h => h) (by rfl) (fun w' => by go_simp; with_reducible rfl) (by simp only [Act.put, sA, sZ, sS, i64_w, i32_w]; rfl) ?_
   refine ty_ 3 30 (bs 26 1896191) rfl rfl (by kernel_rfl) (fun _ _ _ h => h) (by rfl) (by rintro w' ⟨s0, s1, s2, s3, s4⟩; go_simp; with_reducible rfl) hHeld (by simp only [Act.put, sA, sZ, sS, i64_w, i32_w]; rfl) ?_
   refine ty_ 8 35 (bs 26 1896447) rfl rfl (by kernel_rfl) (fun _ _ _ h => h) (by rfl) (by rintro w' ⟨s0, s1, s2, s3, s4⟩; go_simp; with_reducible rfl) hHeld (by simp only [Act.put, sA, sZ, sS, i64_w, i32_w]; rfl) ?_
   refine ty_ 12 39 (bs 26 1900543) rfl rfl (by kernel_rfl) (fun _ _ _ h => h) (by rfl) (by rintro w' ⟨s0, s1, s2, s3, s4⟩; go_simp; with_reducible rfl) hHeld (by simp only [Act.put, sA, sZ, sS, i64_w, i32_w]; rfl) ?_
   refine ty_ 16 43 (bs 26 1966079) rfl rfl (by kernel_rfl) (fun _ _ _ h => h) (by rfl) (by rintro w' ⟨s0, s1, s2, s3, s4⟩; go_simp; with_reducible rfl) hHeld (by simp only [Act.put, sA, sZ, sS, i64_w, i32_w]; rfl) ?_
   refine ty_ 21 48 (bs 26 4063231) rfl rfl (by kernel_rfl) (fun _ _ _ h => h) (by rfl) (by rintro w' ⟨s0, s1, s2, s3, s4⟩; go_simp; with_reducible rfl) hHeld (by simp only [Act.put, sA, sZ, sS, i64_w, i32_w]; rfl) ?_
   refine one_ (i := 17) (N := some 44) (bs 26 4194303) rfl rfl (by kernel_rfl) (by decide) (fun K hK => ?_)
   refine goes_ Tryz.func47 (by kernel_rfl) rfl #[M.dv kn] (by rfl) rfl rfl (by simp only [List.map_toArray, List.map_cons, List.map_nil]; rfl) ?_
   with_reducible refine ((clone_q (M.dv kn) (a.nd kn).data _ (HDT.out _ hb7).bs hdl)).mono ?_
   rintro e wc ⟨A7, c7, rfl, hby, hown, hbx⟩
   refine ⟨_, rfl, ?_⟩
   have hsz7 := hb7.size
   have hb7 := hb7.trans (hbx.mono hb7.size)
   clear hbx
   refine hK.out _ _ ⟨(HS7.out _ hb7).1, (HS7.out _ hb7).2.1, (HS7.out _ hb7).2.2.1, (HS7.out _ hb7).2.2.2.1, (HS7.out _ hb7).2.2.2.2⟩ (fun hHeld => ?_)
   clear hK K
   refine norm_ (a' := ?_) ?_ ?_
   rotate_left
   ·show Act.put _ (some 44) _ = _
    simp only [Act.put, sA, sZ, sS, i64_w, i32_w]
    rfl
   refine one_ (i := 22) (N := some 49) (bs 26 8388607) rfl rfl (by kernel_rfl) (by decide) (fun K hK => ?_)
   refine goes_ Tryz.func50 (by kernel_rfl) rfl #[.map (some (M.nb kn))] (by rfl) rfl rfl (by simp only [List.map_toArray, List.map_cons, List.map_nil]; rfl) ?_
   with_reducible refine ((names_clone _ (HNM.out _ hb7))).mono ?_
   rintro e w8 ⟨rfl, hms, hbx, -⟩
   refine ⟨_, rfl, ?_⟩
   have hsz8 := hb7.size
   have hb7 := hb7.trans (hbx.mono hb7.size)
   have hby := hby.below hbx
   clear hbx
   refine hK.out _ _ ⟨(HS7.out _ hb7).1, (HS7.out _ hb7).2.1, (HS7.out _ hb7).2.2.1, (HS7.out _ hb7).2.2.2.1, (HS7.out _ hb7).2.2.2.2⟩ (fun hHeld => ?_)
   clear hK K
   refine norm_ (a' := ?_) ?_ ?_
   rotate_left
   ·show Act.put _ (some 49) _ = _
    simp only [Act.put, sA, sZ, sS, i64_w, i32_w]
    rfl
   refine py_ 23 50 (bs 26 16777215) rfl rfl (by kernel_rfl) (fun _ _ _ h => h) (by rfl) (fun w' => by go_simp; with_reducible rfl) (by simp only [Act.put, sA, sZ, sS, i64_w, i32_w]; rfl) ?_
   refine one_ (i := 24) (N := some 51) (bs 26 33554431) rfl rfl (by kernel_rfl) (by decide) (fun K hK => ?_)
   refine value_ (w1 := ?_) (v := ?_) (by rfl) rfl ?_ ?_
   rotate_left 2
   ·go_simp
    constructor
    ·rfl
    ·rfl
   have hX := Blk.new w8 74 #[.int .i64 (a.nd kn).kind, .int .i64 (a.nd kn).links, .slice A7 (a.nd kn).data.length c7, .map (some wc.heap.size)]
   have hba : Below w8.heap.size w8 (w8.alloc (.cells #[.int .i64 (a.nd kn).kind, .int .i64 (a.nd kn).links, .slice A7 (a.nd kn).data.length c7, .map (some wc.heap.size)] 74)) := (Below.refl _ _).alloc (Nat.le_refl _) _
   have hsz9 := hb7.size
   have hb7 := hb7.trans (hba.mono hb7.size)
   have hby := hby.below hba
   have hms := hms.turn (S := fun _ => False) (Turn.of_below hba) id
   generalize w8.alloc (.cells #[.int .i64 (a.nd kn).kind, .int .i64 (a.nd kn).links, .slice A7 (a.nd kn).data.length c7, .map (some wc.heap.size)] 74) = w9 at *
   refine hK.out _ _ ⟨(HS7.out _ hb7).1, (HS7.out _ hb7).2.1, (HS7.out _ hb7).2.2.1, (HS7.out _ hb7).2.2.2.1, (HS7.out _ hb7).2.2.2.2⟩ (fun hHeld => ?_)
   clear hK K
   refine norm_ (a' := ?_) ?_ ?_
   rotate_left
   ·show Act.put _ (some 51) _ = _
    simp only [Act.put, sA, sZ, sS, i64_w, i32_w]
    rfl
   refine last_ (i := 25) (N := none) (bs 26 67108863) rfl rfl (by kernel_rfl) (by decide) (fun K hK => ?_)
   obtain ⟨w10, hupd, hcp, htu⟩ := CpI.step HCP.out hkk hlk hw0 hkn9 hcn hrl hwr hb7 hX hby (fun j hj => Nat.le_trans hsz7 (hown j hj)) hms (by omega) (by omega)
   refine skip_ (w1 := ?_) (by rfl) rfl ?_ ?_
   rotate_left
   ·go_simp
    first | exact hupd | rfl
   refine hK.out _ _ ?_
   clear hK K
   refine done_ (by kernel_rfl) ?_
   have HR9 := Lib.hid ((HR7.out.turn (Turn.of_below (S := fun j => j = mb) hb7) (fun e => hmbn e.symm) (fun e => hmbb.2 e.symm)).turn htu (fun e => hmbn e.symm) (fun e => hmbb.2 e.symm))
   have HB9 := Lib.hid ((HB7.out.trans (hb7.mono HB7.out.size)).trans (htu.below (B := w.heap.size) (Nat.le_trans hwr hb7.size) fun i hi e => by omega))
   have HCP9 := Lib.hid hcp
   have hcnt9 := HR9.out.left_eq
   clear hHeld hcp htu hb7 hX hby hms hupd hown
   go_wp2
   go_roundw
   case rel => exact ⟨_, cnt2, n + 1, HR9, by omega, HCP9, HB9⟩
   case measure => rw [hcnt9, hcnt]; exact hlt
end
end Go.Proofs.YtpkhglfhpggceaaGreatDoor
namespace Go.Proofs.YtpkhglfhpggceaaGreatDoor
set_option maxRecDepth 100000
set_option maxHeartbeats 16000000
open Go.RowKit
theorem sameInts_any (a b : Value) (l m : List Int) (w : World) {B C : Nat} (ha : Ints B w a l) (hb : Ints C w b m) :
  Calls Tryz.prog 19 #[a, b] w fun e w' => e = .returned (.bool (decide (l = m))) ∧ ∃ n, w' = w.drewN n := by
 obtain ⟨A, c, rfl, hlc, hcm, hA⟩ := ha
 obtain ⟨D, d, rfl, hld, hdm, hB⟩ := hb
 have HA := Lib.hid hA
 have HB := Lib.hid hB
 clear hA hB
 unfold maxLen at hcm hdm
 by_cases hlen : l.length = m.length
 ·rw [← hlen]
  rw [← hlen] at hld
  have HL := Lib.hid hlen
  clear hlen
  go_enter Tryz.func19, Tryz.ntmps19
  go_wp2
  go_loopw [5] (fun i wr => ∃ k : Nat, k ≤ l.length ∧ i = .int .i64 k ∧ (∃ n, wr = w.drewN n) ∧ Hid (l.take k = m.take k)) (fun i _ => l.length - (intOf i).toNat)
  case atStart => exact ⟨0, Nat.zero_le _, rfl, ⟨0, rfl⟩, by unfold Hid; simp⟩
  case round =>
   obtain ⟨k, hk, rfl, ⟨n, rfl⟩, hT⟩ := hrel
   by_cases hlt : k < l.length
   ·have hlt' : k < m.length := by rw [← HL.out]; exact hlt
    obtain ⟨g, o, eA, _, hg, hcA⟩ := HA.out k l[k] (List.getElem?_eq_getElem hlt)
    obtain ⟨g', o', eB, _, hg', hcB⟩ := HB.out k m[k] (List.getElem?_eq_getElem hlt')
    subst eA eB
    generalize hu : l[k] = u at hcA
    generalize hv : m[k] = v at hcB
    have HU := Lib.hid hu
    have HV := Lib.hid hv
    clear hu hv
    by_cases huv : u = v
    ·subst huv
     have ht1 : (u != u) = false := by simp
     go_wp2
     go_quiet (fail)
     go_wp2
     go_roundw
     case rel => exact ⟨k + 1, by omega, by go_num, ⟨_, rfl⟩, by
      unfold Hid; rw [List.take_succ_eq_append_getElem hlt, List.take_succ_eq_append_getElem hlt', hT.out, HU.out, HV.out]⟩
     case measure => simp [intOf]; omega
    ·have ht1 : (u != v) = true := by simp [huv]
     have HUV := Lib.hid huv
     clear huv
     go_wp2
     go_quiet (fail)
     go_wp2
     go_ret
     refine ⟨ret_bool ?_, _, World.drewN_drewN _ _ _⟩
     have : ¬ l = m := fun e => HUV.out (by subst e; rw [← HU.out, ← HV.out])
     simp [this]
   ·obtain rfl : k = l.length := by omega
    go_wp2
    go_ret
    refine ⟨ret_bool ?_, _, rfl⟩
    have : l = m := by
     have h1 := hT.out
     have h2 : m.take l.length = m := List.take_of_length_le (by rw [HL.out]; exact Nat.le_refl _)
     rw [h2] at h1
     simpa using h1
    simp [this]
 ·have h1 : ((l.length : Int) != (m.length : Int)) = true := by simp; omega
  have HL := Lib.hid hlen
  clear hlen
  go_enter Tryz.func19, Tryz.ntmps19
  go_wp2
  go_ret
  refine ⟨ret_bool ?_, 0, rfl⟩
  have : ¬ l = m := fun e => HL.out (by rw [e])
  simp [this]
end Go.Proofs.YtpkhglfhpggceaaGreatDoor
namespace Go.Proofs.YtpkhglfhpggceaaGreatDoor
set_option maxRecDepth 100000
set_option maxHeartbeats 16000000
open Go.RowKit
set_option linter.unusedVariables false
set_option linter.unusedSimpArgs false
theorem twalk_nil (p : ByteArray) (w : World) : Calls Tryz.prog 10 #[.pointer none, .string p] w fun e w' => e = .returned (.tuple #[.int .i64 0, .int .i64 1]) ∧ Below w.heap.size w w' := by
 go_enter Tryz.func10, Tryz.ntmps10
 go_wp2
 go_ret2
 exact ⟨rfl, Below.refl _ _⟩
theorem tcopy_nil (w : World) : Calls Tryz.prog 17 #[.pointer none] w fun e w' => e = .returned (.pointer none) ∧ Below w.heap.size w w' := by
 go_enter Tryz.func17, Tryz.ntmps17
 go_wp2
 go_ret
 exact ⟨rfl, Below.refl _ _⟩
theorem topen_nil (w : World) : Calls Tryz.prog 20 #[.pointer none] w fun e w' => e = .returned (.pointer none) ∧ Below w.heap.size w w' := by
 go_enter Tryz.func20, Tryz.ntmps20
 go_wp2
 go_ret
 exact ⟨rfl, Below.refl _ _⟩
theorem tpaths_nil (w : World) : Calls Tryz.prog 23 #[.pointer none] w fun e w' => e = .returned (.slice none 0 0) ∧ Below w.heap.size w w' := by
 go_enter Tryz.func23, Tryz.ntmps23
 go_wp2
 go_ret
 exact ⟨rfl, Below.refl _ _⟩
theorem tnode_nil (k : Int) (w : World) : Calls Tryz.prog 16 #[.pointer none, .int .i64 k] w fun e w' => e = .returned (.tuple #[.agg #[.int .i64 0, .int .i64 0, .slice none 0 0, .slice none 0 0], .int .i64 1]) ∧ Below w.heap.size w w' := by
 have HB := Lib.hid (below_0 w (.cells #[.int .i64 0, .int .i64 0, .slice none 0 0, .slice none 0 0] 48))
 have HX := Lib.hid (Blk.new w 48 #[.int .i64 0, .int .i64 0, .slice none 0 0, .slice none 0 0])
 have hwl := HX.out.lt
 go_enter Tryz.func16, Tryz.ntmps16
 go_upto_region 1 with (fail)
 generalize w.alloc (.cells #[.int .i64 0, .int .i64 0, .slice none 0 0, .slice none 0 0] 48) = w1 at *
 have x0 := HX.out.cell 0
 have x1 := HX.out.cell 1
 have x2 := HX.out.cell 2
 have x3 := HX.out.cell 3
 have q0 := HX.out.frozen 0
 have q1 := HX.out.frozen 1
 have q2 := HX.out.frozen 2
 have q3 := HX.out.frozen 3
 simp at x0 x1 x2 x3
 go_wp2_with fail
 refine bodyPost_ret (v := .tuple #[.agg #[.int .i64 0, .int .i64 0, .slice none 0 0, .slice none 0 0], .int .i64 1]) (by simp [results, Tryz.results16, go_sem, x0, x1, x2, x3, hwl]) rfl ⟨rfl, ?_⟩
 exact below_set (below_set (below_set (below_set HB.out (p := ⟨w.heap.size, 0, none⟩) (Nat.le_refl _) _) (p := ⟨w.heap.size, 1, none⟩) (Nat.le_refl _) _) (p := ⟨w.heap.size, 2, none⟩) (Nat.le_refl _) _) (p := ⟨w.heap.size, 3, none⟩) (Nat.le_refl _) _
theorem tdo_nil (w : World) : Calls Tryz.prog 7 #[.pointer none, .agg #[.int .i64 15, .string ⟨#[]⟩, .string ⟨#[]⟩, .int .i64 0, .int .i64 0, .int .i64 0, .int .i64 0, .slice none 0 0]] w fun e w' =>
  e = .returned (.agg #[.int .i64 1, .int .i64 0, .slice none 0 0, .slice none 0 0, .int .i64 0, .int .i64 0, .int .i64 0]) ∧ Below w.heap.size w w' := by
 have HO1 := Lib.hid (OO.start w #[.int .i64 15, .string ⟨#[]⟩, .string ⟨#[]⟩, .int .i64 0, .int .i64 0, .int .i64 0, .int .i64 0, .slice none 0 0])
 have HB1 := Lib.hid (below_00 w (.cells #[.int .i64 15, .string ⟨#[]⟩, .string ⟨#[]⟩, .int .i64 0, .int .i64 0, .int .i64 0, .int .i64 0, .slice none 0 0] 36) (.cells zero7 33))
 go_enter Tryz.func7, Tryz.ntmps7
 go_upto_region 1 with (fail)
 generalize (w.alloc (.cells #[.int .i64 15, .string ⟨#[]⟩, .string ⟨#[]⟩, .int .i64 0, .int .i64 0, .int .i64 0, .int .i64 0, .slice none 0 0] 36)).alloc (.cells zero7 33) = w1 at *
 have ur0 := (HO1.out).b1.cf7
 have ul := (HO1.out).b1.lt
 go_wp2_with fail
 refine bodyPost_ret (v := .agg #[.int .i64 1, .int .i64 0, .slice none 0 0, .slice none 0 0, .int .i64 0, .int .i64 0, .int .i64 0]) (by simp [results, Tryz.results7, go_sem, ur0, ul]) rfl ⟨rfl, ?_⟩
 exact ans_set HB1.out (Nat.le_succ _) _ _ _ _ _ _ _
end Go.Proofs.YtpkhglfhpggceaaGreatDoor
namespace Go.Proofs.YtpkhglfhpggceaaGreatDoor
open Go.RowKit
set_option linter.unusedVariables false
set_option linter.unusedSimpArgs false
def Trip (w0 : World) (t y t2 c c2 : Nat) (a b a2 : TS) (w : World) : Prop :=
 ∃ F1 F2 F3, St F1 w t c a ∧ RSt F2 w y b ∧ St F3 w t2 c2 a2 ∧ (∀ j, F1 j → w0.heap.size ≤ j ∧ ¬ F2 j ∧ ¬ F3 j) ∧ (∀ j, F2 j → w0.heap.size ≤ j) ∧ (∀ j, F3 j → w0.heap.size ≤ j ∧ ¬ F2 j) ∧ Below w0.heap.size w0 w
def usedL (op : Nat → Option FT) : List Int := ((List.range 8).filter fun i => (op i).isSome).map fun (i : Nat) => (i : Int)
section
variable {w0 w w1 w' : World} {t y t2 c c2 : Nat} {a b a2 : TS}
theorem Trip.below (h : Trip w0 t y t2 c c2 a b a2 w) (hb : Below w.heap.size w w') : Trip w0 t y t2 c c2 a b a2 w' := by
 obtain ⟨F1, F2, F3, ⟨M, h1⟩, ⟨R, h2⟩, ⟨N, h3⟩, h4, h5, h6, h7⟩ := h
 exact ⟨F1, F2, F3, ⟨M, h1.below hb⟩, ⟨R, h2.below hb⟩, ⟨N, h3.below hb⟩, h4, h5, h6, h7.trans (hb.mono h7.size)⟩
theorem Trip.bel (h : Trip w0 t y t2 c c2 a b a2 w) : Below w0.heap.size w0 w := by obtain ⟨F1, F2, F3, h1, h2, h3, h4, h5, h6, h7⟩ := h; exact h7
theorem Trip.pair (h : Trip w0 t y t2 c c2 a b a2 w) : Pair w0 t2 y c2 a2 b w := by
 obtain ⟨F1, F2, F3, h1, h2, h3, h4, h5, h6, h7⟩ := h
 exact ⟨F3, F2, h3, h2, h6, h5, h7⟩
theorem Pair.copied (h : Pair w0 t y c a b w) (hg : Good a c) (hc : c ≤ 100000) :
  Calls Tryz.prog 17 #[.pointer (some ⟨t, 0, none⟩)] w fun e w' => ∃ t2, e = .returned (.pointer (some ⟨t2, 0, none⟩)) ∧ Trip w0 t y t2 c (2 * c) a b a w' := by
 obtain ⟨F1, F2, ⟨M, h1⟩, ⟨R, h2⟩, h3, h4, h5⟩ := h
 have hl1 := h1.lt
 have hl2 := h2.lt
 refine (tcopy_any w h1 hg hc).mono ?_
 rintro e w' ⟨t2, rfl, hst, hb⟩
 refine ⟨t2, rfl, F1, F2, _, ⟨M, h1.below hb⟩, ⟨R, h2.below hb⟩, hst, fun j hj => ⟨(h3 j hj).1, (h3 j hj).2, fun e => ?_⟩, h4, fun j hj => ?_, h5.trans (hb.mono h5.size)⟩
 ·rcases e with e | e
  ·exact e
  ·have := hl1 j hj; omega
 ·rcases hj with hj | hj
  ·exact hj.elim
  ·exact ⟨Nat.le_trans h5.size hj.1, fun e => by have := hl2 j e; omega⟩
theorem Trip.do7 (h : Trip w0 t y t2 c c2 a b a2 w) (hg : Good a c) (hc : c ≤ 100000) (o : OpT) {A : Option Addr} {cap : Nat} (hp : o.path.size ≤ 1000) (hp2 : o.to.size ≤ 1000) (hb : Below w.heap.size w w1)
  (hB : Byt w1 (.slice A o.data.length cap) o.data) (hown : ∀ j, (Value.slice A o.data.length cap).ownBlock = some j → w.heap.size ≤ j) :
  Calls Tryz.prog 7 #[.pointer (some ⟨t, 0, none⟩), o.val A o.data.length cap] w1 fun e w' => ∃ v, e = .returned v ∧ Trip w0 t y t2 (c + 2) c2 (a.doT o) b a2 w' := by
 obtain ⟨F1, F2, F3, ⟨M, h1⟩, ⟨R, h2⟩, ⟨N, h3⟩, h4, h5, h6, h7⟩ := h
 have hl1 := h1.lt
 have hl2 := h2.lt
 have hl3 := h3.lt
 have hs1 := hb.size
 have h17 := h7.trans (hb.mono h7.size)
 refine (do_any (a := a) o A cap w1 (h1.below hb) hg hc hp hp2 hB.rd (own_far hl1 hown)).mono ?_
 rintro e w' ⟨er, n, A1, n1, c1, A2, n2, c3, k, s, l, rfl, hst, hT⟩
 refine ⟨_, rfl, grow F1 w1 w', F2, F3, hst, ⟨R, (h2.below hb).turn hT fun j hj e => (h4 j e).2.1 hj⟩, ⟨N, (h3.below hb).turn hT (fun j hj e => (h4 j e).2.2 hj) h1.f0⟩, fun j hj => ?_, h5, h6, h17.trans (hT.below h17.size fun i hi e => by have := (h4 i e).1; omega)⟩
 rcases hj with hj | hj
 ·exact h4 j hj
 ·exact ⟨Nat.le_trans h17.size hj.1, fun e => by have := hl2 j e; omega, fun e => by have := hl3 j e; omega⟩
theorem used_of {T : Nat → Option FileT} {op : Nat → Option FT} (h : ∀ i, i < 8 → (T i).map (·.2) = op i) : usedTo T 8 = usedL op := by
 unfold usedTo usedL
 congr 1
 refine List.filter_congr fun i hi => ?_
 rw [← h i (List.mem_range.1 hi)]
 cases T i <;> rfl
theorem Pair.opened (h : Pair w0 t y c a b w) : Calls Tryz.prog 20 #[.pointer (some ⟨t, 0, none⟩)] w fun e w' => ∃ tb T', e = .returned (.pointer (some ⟨tb, 0, none⟩)) ∧ Tab w' tb T' ∧ usedTo T' 8 = usedL a.op ∧ Below w.heap.size w w' := by
 obtain ⟨F1, F2, ⟨M, h1⟩, ⟨R, h2⟩, h3, h4, h5⟩ := h
 refine (topenC_any w h1).mono ?_
 rintro e w' ⟨tb, T', rfl, k1, k2, k3, k4⟩
 exact ⟨tb, T', rfl, k2, used_of fun i hi => (k3 i hi).1.trans (h1.op i hi), k4⟩
theorem used_q {T : Nat → Option FileT} {tb : Nat} (ht : Tab w tb T) {l : List Int} (hl : usedTo T 8 = l) : Calls Tryz.prog 21 #[.pointer (some ⟨tb, 0, none⟩)] w fun e w' => ∃ v, e = .returned v ∧ Ints w.heap.size w' v l ∧ Below w.heap.size w w' := by
 refine (used_any T tb w ht).mono ?_
 rintro e w' ⟨v, rfl, h1, h2⟩
 exact ⟨v, rfl, hl ▸ Ints.of_own h1, h2⟩
theorem Pair.rused (h : Pair w0 t y c a b w) : ∃ fb, (∀ W, Below w.heap.size w W → W.cell? ⟨y, 1, none⟩ = some (.pointer (some ⟨fb, 0, none⟩))) ∧ ∀ W, Below w.heap.size w W →
  Calls Tryz.prog 22 #[.pointer (some ⟨fb, 0, none⟩)] W fun e w' => ∃ v, e = .returned v ∧ Ints W.heap.size w' v (usedL b.op) ∧ Below W.heap.size W w' := by
 obtain ⟨F1, F2, ⟨M, h1⟩, ⟨R, h2⟩, h3, h4, h5⟩ := h
 refine ⟨R.fb, fun W hW => (h2.below hW).blk.cell 1, fun W hW => (rused_any R.I R.T R.fb W (h2.below hW).tab).mono ?_⟩
 rintro e w' ⟨v, rfl, k1, k2⟩
 have e : rusedTo R.I 8 = usedL b.op := by
  unfold rusedTo usedL
  congr 1
  refine List.filter_congr fun i hi => ?_
  exact h2.opI (List.mem_range.1 hi)
 exact ⟨v, rfl, e ▸ Ints.of_own k1, k2⟩
theorem same_q {v u : Value} {l : List Int} {B C : Nat} (hv : Ints B w v l) (hu : Ints C w u l) : Calls Tryz.prog 19 #[v, u] w fun e w' => e = .returned (.bool true) ∧ Below w.heap.size w w' := by
 refine (sameInts_any v u l l w hv hu).mono ?_
 rintro e w' ⟨rfl, n, rfl⟩
 exact ⟨by simp, ⟨rfl, rfl, rfl, Nat.le_refl _, fun _ _ => rfl⟩⟩
theorem Pair.rlen (h : Pair w0 t y c a b w) : ∃ g cap, b.last + 1 ≤ cap ∧ ∀ W, Below w.heap.size w W → W.cell? ⟨y, 0, none⟩ = some (.slice (some ⟨g, 0, none⟩) (b.last + 1) cap) := by
 obtain ⟨F1, F2, ⟨M, h1⟩, ⟨R, h2⟩, h3, h4, h5⟩ := h
 exact ⟨R.g, R.cap, h2.fit, fun W hW => (h2.below hW).blk.cell 0⟩
end
end Go.Proofs.YtpkhglfhpggceaaGreatDoor
