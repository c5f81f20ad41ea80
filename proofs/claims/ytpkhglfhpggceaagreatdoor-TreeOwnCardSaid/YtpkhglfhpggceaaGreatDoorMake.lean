/- What package tree does to memory: make. -/
import Derived.Test.YtpkhglfhpggceaaGreatDoorLess
import Derived.Carry
namespace Go.Proofs.YtpkhglfhpggceaaGreatDoor
set_option maxRecDepth 100000
set_option maxHeartbeats 16000000
open Go.RowKit Go.Maps
set_option linter.unusedVariables false
set_option linter.unusedSimpArgs false

section
variable {F F' : Nat → Prop} {w w' : World} {t c : Nat} {M : TMem} {a : TS}
/-- The count turns. -/
theorem TreeIs.setLast (h : TreeIs F w t M c a) (n : Nat) (hT : Turn (· = t) w w') (hb : Blk w' t 70 #[.int .i64 (n : Nat), .map (some M.mb), .pointer (some ⟨M.tb, 0, none⟩)]) : TreeIs F w' t M c ⟨n, a.nd, a.op⟩ := by
 have nm : ∀ {g : Nat}, (∀ ty cs, ¬ Blk w g ty cs) → g ≠ t := fun {g} hx e => by subst e; exact hx _ _ h.blk
 refine ⟨hb, h.map.turn hT (nm fun ty cs hx => h.map.not_blk hx rfl), fun i hi => ?_, h.tab.turn hT fun j hj => ?_, h.op, h.inj, h.nmb, h.ft, h.fm, h.ftab, fun j hj => Nat.lt_of_lt_of_le (h.lt j hj) hT.size, h.f0, mx_turn h.mx hT fun e => h.f0 (by rw [e]; exact h.ft)⟩
 ·obtain ⟨g1, g2, g3, g4, g5, g6⟩ := h.node i hi
  refine ⟨g1.turn hT (h.hp_ne hi).1, g2.turn hT fun j hj => ?_, g3.turn hT (nm fun ty cs hb => ?_), g4, g5, g6⟩
  ·obtain ⟨cs, hx⟩ := g2.type j hj
   exact hx.ne_ h.blk (by decide)
  ·obtain ⟨D, ⟨es, clock, hx, _⟩, _⟩ := g3.is
   unfold Blk at hb
   rw [hx] at hb
   cases hb
 ·rcases hj with rfl | ⟨i, x, hi, hx, rfl⟩
  ·exact h.tab.tab.ne_ h.blk (by decide)
  ·exact (h.tab.file i hi x hx).ne_ h.blk (by decide)
/-- A node comes. -/
theorem TreeIs.addNode (h : TreeIs F w t M c a) {k g b : Nat} {kind : Int} (hk : (a.nd k).kind = 0) (hT : Turn (· = M.mb) w w') (hm : MapIs w' M.mb (c + 1) (upd (nodeF M a) (k : Int) (some (.pointer (some ⟨g, 0, none⟩)))))
  (hg : Blk w' g 74 #[.int .i64 kind, .int .i64 1, .slice none 0 0, .map (some b)]) (hb : MapS w' b (c + 1) []) (hF : ∀ j, F j → F' j) (hgF : F' g) (hbF : F' b) (hlt : ∀ j, F' j → j < w'.heap.size) (h0 : ¬ F' 0)
  (hgn : ¬ F g) (hbn : ¬ F b) (hkd : kind ≠ 0) :
  TreeIs F' w' t { M with hp := setF M.hp k g, nb := setF M.nb k b, dv := setF M.dv k (.slice none 0 0) } (c + 1) (a.setNd k ⟨kind, 1, [], []⟩) := by
 have nb : ∀ {g : Nat} {ty : TypeId} {cs : Array Value}, Blk w g ty cs → g ≠ M.mb := fun {g ty cs} hb e => h.map.not_blk hb e.symm
 have hlive : ∀ i, ((a.setNd k ⟨kind, 1, [], []⟩).nd i).kind ≠ 0 → i = k ∨ (i ≠ k ∧ (a.nd i).kind ≠ 0) := fun i hi => by
  have hi : (setF a.nd k ⟨kind, 1, [], []⟩ i).kind ≠ 0 := hi
  by_cases e : i = k
  ·exact .inl e
  ·rw [setF_other _ _ e] at hi; exact .inr ⟨e, hi⟩
 refine ⟨h.blk.turn hT (nb h.blk), ?_, fun i hi => ?_, h.tab.turn hT fun j hj => ?_, h.op, fun i j hi hj hij => ?_, fun i hi => ?_, hF _ h.ft, hF _ h.fm, fun j hj => hF _ (h.ftab j hj), hlt, h0, mx_turn h.mx hT fun e => h.f0 (by rw [e]; exact h.fm)⟩
 ·have e : nodeF { M with hp := setF M.hp k g, nb := setF M.nb k b, dv := setF M.dv k (.slice none 0 0) } (a.setNd k ⟨kind, 1, [], []⟩) = upd (nodeF M a) (k : Int) (some (.pointer (some ⟨g, 0, none⟩))) := by
   funext i
   unfold nodeF
   by_cases e : i = (k : Int)
   ·subst e
    rw [upd_same]
    have e1 : (a.setNd k ⟨kind, 1, [], []⟩).nd k = ⟨kind, 1, [], []⟩ := setF_same _ _ _
    rw [show (k : Int).toNat = k from by omega, e1, if_pos ⟨by omega, hkd⟩]
    show some (Value.pointer (some ⟨setF M.hp k g k, 0, none⟩)) = _
    rw [setF_same]
   ·rw [upd_other _ _ e]
    by_cases h0 : 0 ≤ i
    ·have e1 : (a.setNd k ⟨kind, 1, [], []⟩).nd i.toNat = a.nd i.toNat := setF_other _ _ (by omega)
     have e2 : setF M.hp k g i.toNat = M.hp i.toNat := setF_other _ _ (by omega)
     rw [e1]
     show (if 0 ≤ i ∧ (a.nd i.toNat).kind ≠ 0 then some (Value.pointer (some ⟨setF M.hp k g i.toNat, 0, none⟩)) else none) = _
     rw [e2]
    ·rw [if_neg fun x => h0 x.1, if_neg fun x => h0 x.1]
  rw [e]
  exact hm
 ·rcases hlive i hi with e | ⟨e, hi'⟩
  ·subst e
   have e1 : (a.setNd i ⟨kind, 1, [], []⟩).nd i = ⟨kind, 1, [], []⟩ := setF_same _ _ _
   show Blk w' (setF M.hp i g i) 74 #[.int .i64 ((a.setNd i ⟨kind, 1, [], []⟩).nd i).kind, .int .i64 ((a.setNd i ⟨kind, 1, [], []⟩).nd i).links, setF M.dv i (.slice none 0 0) i, .map (some (setF M.nb i b i))] ∧ Byt w' (setF M.dv i (.slice none 0 0) i) ((a.setNd i ⟨kind, 1, [], []⟩).nd i).data ∧ MapS w' (setF M.nb i b i) (c + 1) ((a.setNd i ⟨kind, 1, [], []⟩).nd i).names ∧ F' (setF M.hp i g i) ∧ F' (setF M.nb i b i) ∧ ∀ j, (setF M.dv i (.slice none 0 0) i).ownBlock = some j → F' j
   rw [e1, setF_same, setF_same, setF_same]
   exact ⟨hg, Byt.nil _, hb, hgF, hbF, fun j hj => by cases hj⟩
  ·have e1 : (a.setNd k ⟨kind, 1, [], []⟩).nd i = a.nd i := setF_other _ _ e
   obtain ⟨g1, g2, g3, g4, g5, g6⟩ := h.node i hi'
   show Blk w' (setF M.hp k g i) 74 #[.int .i64 ((a.setNd k ⟨kind, 1, [], []⟩).nd i).kind, .int .i64 ((a.setNd k ⟨kind, 1, [], []⟩).nd i).links, setF M.dv k (.slice none 0 0) i, .map (some (setF M.nb k b i))] ∧ Byt w' (setF M.dv k (.slice none 0 0) i) ((a.setNd k ⟨kind, 1, [], []⟩).nd i).data ∧ MapS w' (setF M.nb k b i) (c + 1) ((a.setNd k ⟨kind, 1, [], []⟩).nd i).names ∧ F' (setF M.hp k g i) ∧ F' (setF M.nb k b i) ∧ ∀ j, (setF M.dv k (.slice none 0 0) i).ownBlock = some j → F' j
   rw [e1, setF_other _ _ e, setF_other _ _ e, setF_other _ _ e]
   exact ⟨g1.turn hT (nb g1), g2.turn hT fun j hj => by obtain ⟨cs, hb⟩ := g2.type j hj; exact nb hb, (g3.turn hT (h.nmb i hi')).mono (by omega), hF _ g4, hF _ g5, fun j hj => hF _ (g6 j hj)⟩
 ·rcases hj with rfl | ⟨i, x, hi, hx, rfl⟩
  ·exact nb h.tab.tab
  ·exact nb (h.tab.file i hi x hx)
 ·have hij : setF M.hp k g i = setF M.hp k g j ∨ setF M.nb k b i = setF M.nb k b j := hij
  rcases hlive i hi with e | ⟨e, hi'⟩ <;> rcases hlive j hj with e' | ⟨e', hj'⟩
  ·rw [e, e']
  ·rw [e, setF_same, setF_same, setF_other _ _ e', setF_other _ _ e'] at hij
   rcases hij with x | x
   ·exact absurd (x ▸ (h.node j hj').2.2.2.1) hgn
   ·exact absurd (x ▸ (h.node j hj').2.2.2.2.1) hbn
  ·rw [e', setF_same, setF_same, setF_other _ _ e, setF_other _ _ e] at hij
   rcases hij with x | x
   ·exact absurd (x ▸ (h.node i hi').2.2.2.1) hgn
   ·exact absurd (x ▸ (h.node i hi').2.2.2.2.1) hbn
  ·rw [setF_other _ _ e, setF_other _ _ e', setF_other _ _ e, setF_other _ _ e'] at hij
   exact h.inj i j hi' hj' hij
 ·show setF M.nb k b i ≠ M.mb
  rcases hlive i hi with e | ⟨e, hi'⟩
  ·rw [e, setF_same]
   exact fun x => hbn (by rw [x]; exact h.fm)
  ·rw [setF_other _ _ e]
   exact h.nmb i hi'

theorem TreeIs.drew (h : TreeIs F w t M c a) : TreeIs F w.drew t M c a := h.below ⟨rfl, rfl, rfl, Nat.le_refl _, fun _ _ => rfl⟩
/-- names[s] = id. -/
theorem TreeIs.putName (h : TreeIs F w t M c a) {k : Nat} (hk : (a.nd k).kind ≠ 0) (hc : c ≤ 1000000) {s : ByteArray} (hs : s.size ≤ 1000) {id : Nat} (hid : id ≠ 0) :
  ∃ w', (Instr.mapUpdate 72 (.map (some (M.nb k))) (.string s) (.int .i64 (id : Nat))).run Tryz.prog w = .ok () w' ∧ TreeIs F w' t M (c + 1) (a.put k s id) ∧ Turn (· = M.nb k) w w' := by
 obtain ⟨w', hrun, hm, hg⟩ := (h.node k hk).2.2.1.store Tryz.underlying72 (by unfold maxLen; omega) hs hid
 exact ⟨w', hrun, h.setNames hk (by omega) (turn_of_grown hg) hm, turn_of_grown hg⟩
/-- delete(names, s). -/
theorem TreeIs.dropName (h : TreeIs F w t M c a) {k : Nat} (hk : (a.nd k).kind ≠ 0) {s : ByteArray} (hs : s.size ≤ 1000) :
  ∃ w', (∀ ty, (Builtin.delete_ #[72, 9] ty #[.map (some (M.nb k)), .string s]).run Tryz.prog w = .ok (.tuple #[]) w') ∧ TreeIs F w' t M c (a.put k s 0) ∧ Turn (· = M.nb k) w w' := by
 obtain ⟨w', hrun, hm, hg⟩ := (h.node k hk).2.2.1.drop Tryz.underlying72 hs
 exact ⟨w', hrun, h.setNames hk (Nat.le_refl _) (turn_of_grown hg) hm, turn_of_grown hg⟩

theorem make_any (d id : Nat) (s : ByteArray) (kind : Int) (w : World) (h : TreeIs F w t M c a) (hg : Good a c) (hc : c ≤ 100000) (hd : (a.nd d).kind = 2) (hs : s.size ≤ 1000) (hkd : kind = 1 ∨ kind = 2) :
  Calls Tryz.prog 62 #[.pointer (some ⟨t, 0, none⟩), .agg #[.int .i64 (d : Nat), .string s, .int .i64 (id : Nat)], .int .i64 kind] w fun e w' => e = .returned (.int .i64 ((a.last + 1 : Nat) : Int)) ∧ St (grow F w w') w' t (c + 2) (a.more d s kind) ∧ Turn F w w' := by
 have hfew := hg.few
 have hlast := hg.past (a.last + 1) (by omega)
 have hlt := h.lt _ h.ft
 have hne : t ≠ w.heap.size := Nat.ne_of_lt hlt
 have hw0 := h.w0
 obtain ⟨c0, c1, c2⟩ := h.cells
 have q0 := h.blk.frozen 0
 have HT := Lib.hid h
 have HG := Lib.hid hg
 have HD := Lib.hid hd
 have HL := Lib.hid hlast
 clear h hg hd hlast
 have hmm := @run_makeMap Tryz.prog
 go_enter Tryz.func62, Tryz.ntmps62
 go_wp2_with fail
 have hTa : Turn (· = t) w (w.setCell ⟨t, 0, none⟩ (.int .i64 ((a.last : Nat) + 1))) := (Turn.refl (· = t) w).setCell (p := ⟨t, 0, none⟩) (fun _ => rfl) _
 have hT1 := HT.out.setLast (a.last + 1) hTa (HT.out.blk.set_ 0 _)
 have hT2 := hT1.below ((Below.refl _ _).alloc (Nat.le_refl _) (.cells #[.int .i64 (d : Nat), .string s, .int .i64 (id : Nat)] 111))
 have hX := Blk.new (w.setCell ⟨t, 0, none⟩ (.int .i64 ((a.last : Nat) + 1))) 111 #[.int .i64 (d : Nat), .string s, .int .i64 (id : Nat)]
 have hsz : ((w.setCell ⟨t, 0, none⟩ (.int .i64 ((a.last : Nat) + 1))).alloc (.cells #[.int .i64 (d : Nat), .string s, .int .i64 (id : Nat)] 111)).heap.size = w.heap.size + 1 := by simp [World.setCell]
 have hsz0 : (w.setCell ⟨t, 0, none⟩ (.int .i64 ((a.last : Nat) + 1))).heap.size = w.heap.size := by simp [World.setCell]
 rw [hsz0] at hX
 have hTb := hTa.alloc (.cells #[.int .i64 (d : Nat), .string s, .int .i64 (id : Nat)] 111)
 generalize (w.setCell ⟨t, 0, none⟩ (.int .i64 ((a.last : Nat) + 1))).alloc (.cells #[.int .i64 (d : Nat), .string s, .int .i64 (id : Nat)] 111) = w2 at *
 have HT2 := Lib.hid hT2
 have HX := Lib.hid hX
 have HTb := Lib.hid hTb
 have HS2 := Lib.hid hsz
 obtain ⟨d0, d1, d2⟩ := hT2.cells
 clear hTa hT1 hT2 hX hTb hsz hsz0 c0 c1 c2 q0
 have hm : MapIs ((w2.alloc (.map #[] 0)).alloc (.cells #[.int .i64 kind, .int .i64 1, .slice none 0 0, .map (some w2.heap.size)] 74)).drew M.mb c (nodeF M ⟨a.last + 1, a.nd, a.op⟩) := ((HT2.out.map.alloc _).alloc _).drew
 have hlt2 : t < w2.heap.size := HT2.out.lt _ HT2.out.ft
 obtain ⟨w3, hup, hm3, hg3⟩ := hm.store Tryz.underlying68 (by unfold maxLen; omega) (wfNat (k := a.last + 1) (by omega)) (.pointer (some ⟨w2.heap.size + 1, 0, none⟩))
 have HM3 := Lib.hid hm3
 have HG3 := Lib.hid hg3
 clear hm hm3 hg3
 have d0' : w2.cell? ⟨t, 0, none⟩ = some (.int .i64 ((a.last : Nat) + 1)) := d0
 clear d0
 have hup' : (Instr.mapUpdate 68 (.map (some M.mb)) (.int .i64 ((a.last : Int) + 1)) (.pointer (some ⟨w2.heap.size + 1, 0, none⟩))).run Tryz.prog ((w2.alloc (.map #[] 0)).alloc (.cells #[.int .i64 kind, .int .i64 1, .slice none 0 0, .map (some w2.heap.size)] 74)).drew = .ok () w3 := hup
 clear hup
 go_region
 have HTM0 : Turn (· = M.mb) w2 w3 := ((((Turn.refl (· = M.mb) w2).alloc (.map #[] 0)).alloc (.cells #[.int .i64 kind, .int .i64 1, .slice none 0 0, .map (some w2.heap.size)] 74)).drew).trans (turn_of_grown HG3.out) fun _ _ e => e
 have hmbl := HT2.out.map.lt
 have hk0 : ((⟨a.last + 1, a.nd, a.op⟩ : TS).nd (a.last + 1)).kind = 0 := by show (a.nd (a.last + 1)).kind = 0; rw [HL.out]; rfl
 have hg0 := (Blk.new (w2.alloc (.map #[] 0)) 74 #[.int .i64 kind, .int .i64 1, .slice none 0 0, .map (some w2.heap.size)]).drew
 have hsA : (w2.alloc (.map #[] 0)).heap.size = w2.heap.size + 1 := by simp
 rw [hsA] at hg0
 have hgg := hg0.turn (turn_of_grown HG3.out) (by omega)
 have hb0 := (((MapS.new w2).mono (Nat.zero_le (c + 1))).keep (w' := ((w2.alloc (.map #[] 0)).alloc (.cells #[.int .i64 kind, .int .i64 1, .slice none 0 0, .map (some w2.heap.size)] 74)).drew) (Below.heap_alloc _ _ _ (by simp))).turn (turn_of_grown HG3.out) (by omega)
 have hs3 := HG3.out.size
 have hs3' : w2.heap.size + 2 ≤ w3.heap.size := by simpa using hs3
 have hs2 := HS2.out
 have hTN := HT2.out.addNode (F' := grow F w w3) (kind := kind) hk0 HTM0 HM3.out hgg hb0 (fun j hj => .inl hj) (.inr ⟨by omega, by omega⟩) (.inr ⟨by omega, by omega⟩) (fun j hj => by
  rcases hj with hj | hj
  ·exact Nat.lt_of_lt_of_le (HT2.out.lt j hj) HTM0.size
  ·exact hj.2) (fun hj => by
  rcases hj with hj | hj
  ·exact HT.out.f0 hj
  ·omega) (fun hj => by have := HT2.out.lt _ hj; omega) (fun hj => by have := HT2.out.lt _ hj; omega) (by rcases hkd with e | e <;> rw [e] <;> decide)
 have hdn : d ≠ a.last + 1 := by have := (HG.out.in_last (k := d) (by rw [HD.out]; decide)).2; omega
 have ha1 : ((⟨a.last + 1, a.nd, a.op⟩ : TS).setNd (a.last + 1) ⟨kind, 1, [], []⟩).nd d = a.nd d := setF_other _ _ hdn
 have hnbF : F (M.nb d) := (HT.out.node d (by rw [HD.out]; decide)).2.2.2.2.1
 have hnb1 : setF M.nb (a.last + 1) w2.heap.size d = M.nb d := setF_other _ _ hdn
 have hX3 := HX.out.turn HTM0 (fun e => HT2.out.map.not_blk HX.out e.symm)
 have HM1 := Lib.hid (show ({ M with hp := setF M.hp (a.last + 1) (w2.heap.size + 1), nb := setF M.nb (a.last + 1) w2.heap.size, dv := setF M.dv (a.last + 1) (.slice none 0 0) } : TMem).nb d = M.nb d from hnb1)
 have HA := Lib.hid (show ((⟨a.last + 1, a.nd, a.op⟩ : TS).setNd (a.last + 1) ⟨kind, 1, [], []⟩).put d s (a.last + 1) = a.more d s kind from rfl)
 have HMB := Lib.hid (show ({ M with hp := setF M.hp (a.last + 1) (w2.heap.size + 1), nb := setF M.nb (a.last + 1) w2.heap.size, dv := setF M.dv (a.last + 1) (.slice none 0 0) } : TMem).mb = M.mb from rfl)
 have HL1 := Lib.hid (show (((⟨a.last + 1, a.nd, a.op⟩ : TS).setNd (a.last + 1) ⟨kind, 1, [], []⟩).last = a.last + 1) from rfl)
 have HN := Lib.hid hTN
 generalize ({ M with hp := setF M.hp (a.last + 1) (w2.heap.size + 1), nb := setF M.nb (a.last + 1) w2.heap.size, dv := setF M.dv (a.last + 1) (.slice none 0 0) } : TMem) = M1 at *
 generalize (⟨a.last + 1, a.nd, a.op⟩ : TS).setNd (a.last + 1) ⟨kind, 1, [], []⟩ = a1 at *
 have hd1 : (a1.nd d).kind ≠ 0 := by rw [ha1, HD.out]; decide
 have hdl := (HG.out.in_last (k := d) (by rw [HD.out]; decide)).2
 have hld := HN.out.drew.look hd1 (by omega)
 obtain ⟨n0, n1, n2, n3⟩ := HN.out.drew.ncells hd1
 obtain ⟨d0, d1, d2⟩ := HN.out.drew.cells
 rw [HL1.out] at d0
 obtain ⟨w4, hup2, hT4, hTu4⟩ := HN.out.drew.putName hd1 (by omega) hs (id := a.last + 1) (by omega)
 have hup' : (Instr.mapUpdate 72 (.map (some (M1.nb d))) (.string s) (.int .i64 ((a.last : Int) + 1))).run Tryz.prog w3.drew = .ok () w4 := hup2
 have d0' : w3.drew.cell? ⟨t, 0, none⟩ = some (.int .i64 ((a.last : Int) + 1)) := d0
 have x0 := hX3.drew.cell 0
 have x1 := hX3.drew.cell 1
 simp at x0 x1
 rw [HMB.out] at d1 hld
 rw [HA.out] at hT4
 have HN4 := Lib.hid hT4
 have HTu4 := Lib.hid hTu4
 clear hT4 hTu4 hup2 d0 hX3 HN ha1 hd1 hnb1
 go_wp2_with fail
 go_region
 have e0 := HN4.out.cells.1
 have hlast2 : (a.more d s kind).last = a.last + 1 := rfl
 rw [hlast2] at e0
 have e0' : w4.cell? ⟨t, 0, none⟩ = some (.int .i64 ((a.last : Int) + 1)) := e0
 clear e0 hlast2
 go_wp2
 go_ret
 have hs4 := HTu4.out.size
 have hs34 : w3.heap.size ≤ w4.heap.size := hs4
 refine ⟨rfl, ⟨M1, HN4.out.wide (fun j hj => ?_) (fun j hj => ?_) (fun hj => ?_)⟩, ?_⟩
 ·rcases hj with hj | hj
  ·exact .inl hj
  ·exact .inr ⟨hj.1, by omega⟩
 ·rcases hj with hj | hj
  ·have := HT.out.lt j hj; omega
  ·exact hj.2
 ·rcases hj with hj | hj
  ·exact HT.out.f0 hj
  ·omega
 ·refine ((HTb.out.mono (S' := F) fun i _ e => by rw [e]; exact HT.out.ft).trans (S' := F) (HTM0.mono fun i _ e => by rw [e]; exact HT.out.fm) fun i _ e => e).trans (S' := F) ((Turn.refl F w3).drew.trans (S' := F) (HTu4.out.mono fun i _ e => by rw [e, HM1.out]; exact hnbF) fun i _ e => e) fun i _ e => e
end
end Go.Proofs.YtpkhglfhpggceaaGreatDoor
