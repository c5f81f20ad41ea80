/- What package tree does to memory: dir, along, Walk, parent: they only read. -/
import Derived.Test.YtpkhglfhpggceaaGreatDoorTst
import Derived.Test.YtpkhglfhpggceaaGreatDoorLast
namespace Go.Proofs.YtpkhglfhpggceaaGreatDoor
set_option maxRecDepth 100000
set_option maxHeartbeats 16000000
open Go.RowKit
set_option linter.unusedVariables false
set_option linter.unusedSimpArgs false

section
variable {F : Nat → Prop} {t c : Nat} {M : TMem} {a : TS}
theorem dir_any (k : Nat) (w : World) (h : TreeIs F w t M c a) (hk : (a.nd k).kind ≠ 0) (hb : k ≤ 1000000) :
  Calls Tryz.prog 60 #[.pointer (some ⟨t, 0, none⟩), .int .i64 (k : Int)] w fun e w' => e = .returned (.bool (decide ((a.nd k).kind = 2))) ∧ w' = w := by
 obtain ⟨c0, c1, c2⟩ := h.cells
 obtain ⟨n0, n1, n2, n3⟩ := h.ncells hk
 have hl0 := h.look hk hb
 have HF := Lib.hid (show ((a.nd k).kind == 2) = decide ((a.nd k).kind = 2) from rfl)
 generalize (a.nd k).kind = kd at *
 clear h hk hb
 go_enter Tryz.func60, Tryz.ntmps60
 go_wp2
 go_ret
 exact ⟨by first | rfl | (rw [← HF.out]), rfl⟩

theorem walkL_dir {a : TS} {k : Nat} {s : ByteArray} {l : List ByteArray} (h : (a.nd k).kind = 2) (hf : a.find k s ≠ 0) : a.walkL k (s :: l) = a.walkL (a.find k s) l := by
 show (if (a.nd k).kind = 2 then (if a.find k s = 0 then (0, 40) else a.walkL (a.find k s) l) else (0, 42)) = _
 rw [if_pos h, if_neg hf]
theorem walkL_none {a : TS} {k : Nat} {s : ByteArray} {l : List ByteArray} (h : (a.nd k).kind = 2) (hf : a.find k s = 0) : a.walkL k (s :: l) = (0, 40) := by
 show (if (a.nd k).kind = 2 then (if a.find k s = 0 then (0, 40) else a.walkL (a.find k s) l) else (0, 42)) = _
 rw [if_pos h, if_pos hf]
theorem walkL_file {a : TS} {k : Nat} {s : ByteArray} {l : List ByteArray} (h : (a.nd k).kind ≠ 2) : a.walkL k (s :: l) = (0, 42) := by
 show (if (a.nd k).kind = 2 then (if a.find k s = 0 then (0, 40) else a.walkL (a.find k s) l) else (0, 42)) = _
 rw [if_neg h]
theorem drop_get {l : List ByteArray} {k : Nat} {u : ByteArray} (h : l[k]? = some u) : l.drop k = u :: l.drop (k + 1) := by
 obtain ⟨hk, e⟩ := List.getElem?_eq_some_iff.1 h
 rw [← e]
 exact List.drop_eq_getElem_cons hk

theorem along_any (v : Value) (l : List ByteArray) (w : World) {B : Nat} (h : TreeIs F w t M c a) (hg : Good a c) (hc : c ≤ 100000) (hv : Texts B w v l) (hs : ∀ u ∈ l, u.size ≤ 1000) :
  Calls Tryz.prog 41 #[.pointer (some ⟨t, 0, none⟩), v] w fun e w' => e = .returned (.tuple #[.int .i64 ((a.walkL 1 l).1 : Nat), .int .i64 (a.walkL 1 l).2]) ∧ w' = w := by
 obtain ⟨A, cc, rfl, hlc, hcm, hA⟩ := hv
 have HA := Lib.hid hA
 have HS := Lib.hid hs
 have HG := Lib.hid hg
 have HT := Lib.hid h
 obtain ⟨c0, c1, c2⟩ := h.cells
 clear hA hs hg h
 unfold maxLen at hcm
 go_enter Tryz.func41, Tryz.ntmps41
 go_wp2
 go_loopw [6, 13] (fun v i wr => ∃ (j k : Nat), wr = w ∧ k ≤ l.length ∧ v = .int .i64 (j : Nat) ∧ i = .int .i64 k ∧ Hid ((a.nd j).kind ≠ 0 ∧ j ≤ 100001 ∧ a.walkL 1 l = a.walkL j (l.drop k))) (fun _ i _ => l.length - (intOf i).toNat)
 case atStart => exact ⟨1, 0, rfl, Nat.zero_le _, rfl, rfl, by rw [HG.out.root]; decide, by omega, rfl⟩
 case round =>
  obtain ⟨j, k, rfl, hk, rfl, rfl, hJ⟩ := hrel
  by_cases hlt : k < l.length
  ·obtain ⟨u, hu⟩ : ∃ u, l[k]? = some u := ⟨_, List.getElem?_eq_getElem hlt⟩
   obtain ⟨g, o, eA, _, hgl, hcl⟩ := HA.out k u hu
   subst eA
   have HU := Lib.hid hu
   obtain ⟨hj1, hj2, hj3⟩ := hJ.out
   have hl0 := HT.out.look hj1 (by omega)
   obtain ⟨n0, n1, n2, n3⟩ := HT.out.ncells hj1
   have hlk := (HT.out.node j hj1).2.2.1.look_ok Tryz.underlying72 (HS.out u (List.mem_of_getElem? hu))
   have HJ := Lib.hid hj1
   have HD := Lib.hid (fun W h => dir_any (F := F) (t := t) (c := c) (M := M) (a := a) j W h hj1 (by omega))
   rw [drop_get hu] at hj3
   by_cases hk2 : (a.nd j).kind = 2
   ·by_cases hf : findL (a.nd j).names u = 0
    ·rw [walkL_none hk2 hf] at hj3
     rw [hf] at hlk
     have e1 : decide ((a.nd j).kind = 2) = true := decide_eq_true hk2
     rw [e1] at HD
     have e2 : (!decide ((0 : Nat) = 0)) = false := by decide
     rw [e2] at hlk
     have H3 := Lib.hid hj3
     clear hj1 hj2 hj3 hk2 hf e1 e2 hu
     go_wp2_with (go_at_call 60; refine (HD.out _ HT.out).mono ?_; rintro e w' ⟨rfl, rfl⟩)
     go_ret2
     exact ⟨by rw [H3.out]; rfl, rfl⟩
    ·have hlive := HG.out.find_live hf
     have hbd := HG.out.in_last hlive
     have hfew := HG.out.few
     rw [walkL_dir hk2 hf] at hj3
     have e1 : decide ((a.nd j).kind = 2) = true := decide_eq_true hk2
     rw [e1] at HD
     have e2 : (!decide (findL (a.nd j).names u = 0)) = true := by simp [hf]
     rw [e2] at hlk
     have HR := Lib.hid (show (a.nd (findL (a.nd j).names u)).kind ≠ 0 ∧ findL (a.nd j).names u ≤ 100001 ∧ a.walkL 1 l = a.walkL (findL (a.nd j).names u) (l.drop (k + 1)) from ⟨hlive, by
      have : a.find j u = findL (a.nd j).names u := rfl
      omega, hj3⟩)
     generalize findL (a.nd j).names u = jj at *
     clear hj1 hj2 hj3 hk2 hf e1 e2 hu hlive hbd hfew
     go_wp2_with (go_at_call 60; refine (HD.out _ HT.out).mono ?_; rintro e w' ⟨rfl, rfl⟩)
     go_roundw
     case rel => exact ⟨jj, k + 1, by first | trivial | rfl, by omega, rfl, by go_num, HR.out⟩
     case measure => simp [intOf]; omega
   ·rw [walkL_file hk2] at hj3
    have e1 : decide ((a.nd j).kind = 2) = false := decide_eq_false hk2
    rw [e1] at HD
    have H3 := Lib.hid hj3
    clear hj1 hj2 hj3 hk2 e1 hu
    go_wp2_with (go_at_call 60; refine (HD.out _ HT.out).mono ?_; rintro e w' ⟨rfl, rfl⟩)
    go_ret2
    exact ⟨by rw [H3.out]; rfl, rfl⟩
  ·obtain rfl : k = l.length := by omega
   have h3 := hJ.out.2.2
   rw [List.drop_length] at h3
   have H3 := Lib.hid h3
   clear h3
   go_wp2
   go_ret2
   exact ⟨by rw [H3.out]; rfl, rfl⟩

theorem walkP_ok {a : TS} {p : ByteArray} (h : (splitN p).2 = 0) : a.walkP p = a.walkL 1 (splitN p).1 := by unfold TS.walkP; rw [if_pos h]
theorem walkP_bad {a : TS} {p : ByteArray} (h : ¬ (splitN p).2 = 0) : a.walkP p = (0, (splitN p).2) := by unfold TS.walkP; rw [if_neg h]

theorem walk_any (p : ByteArray) (w : World) (h : TreeIs F w t M c a) (hg : Good a c) (hc : c ≤ 100000) (hp : p.size ≤ 1000) :
  Calls Tryz.prog 10 #[.pointer (some ⟨t, 0, none⟩), .string p] w fun e w' => e = .returned (.tuple #[.int .i64 ((a.walkP p).1 : Nat), .int .i64 (a.walkP p).2]) ∧ Below w.heap.size w w' := by
 obtain ⟨m, hm⟩ := h.mx
 have hS := Lib.hid (psplit_any p w m (by omega) hm)
 have HT := Lib.hid h
 have hsz := fun u (hu : u ∈ (splitN p).1) => Nat.le_trans (splitN_ok hu) (show 10 ≤ 1000 by omega)
 by_cases he : (splitN p).2 = 0
 ·have HA := Lib.hid (fun (v : Value) (w1 : World) (hb : Below w.heap.size w w1) (hv : Texts w.heap.size w1 v (splitN p).1) => along_any v (splitN p).1 w1 (h.below hb) hg hc hv hsz)
  have HW := Lib.hid (walkP_ok (a := a) he)
  have HE := Lib.hid he
  clear h hg hsz he hm
  go_enter Tryz.func10, Tryz.ntmps10
  go_wp2_with fail
  refine hS.out.mono ?_
  rintro e w1 ⟨v, rfl, hv, hb⟩
  rw [HE.out]
  obtain ⟨A, cc, rfl, hx⟩ := hv
  have HV := Lib.hid (show Texts w.heap.size w1 (.slice A (splitN p).1.length cc) (splitN p).1 from ⟨A, cc, rfl, hx⟩)
  have HB := Lib.hid hb
  clear hx hb
  go_wp2_with (go_at_call 41; refine (HA.out _ _ HB.out HV.out).mono ?_; rintro e w' ⟨rfl, rfl⟩)
  go_ret2
  exact ⟨by rw [HW.out]; rfl, HB.out⟩
 ·have HW := Lib.hid (walkP_bad (a := a) he)
  have h1 : ((splitN p).2 != 0) = true := bne_iff_ne.2 he
  clear h hg hsz he hm
  go_enter Tryz.func10, Tryz.ntmps10
  go_wp2_with fail
  refine hS.out.mono ?_
  rintro e w1 ⟨v, rfl, hv, hb⟩
  obtain ⟨A, cc, rfl, hx⟩ := hv
  have HB := Lib.hid hb
  clear hx hb
  go_wp2_with fail
  go_ret2
  exact ⟨by rw [HW.out]; rfl, HB.out⟩

/-- What parent tells. -/
def TS.spot (a : TS) (p : ByteArray) (alone : Int) : Value :=
 if (a.par p alone).2 = 0 then .agg #[.int .i64 ((a.par p alone).1 : Nat), .string (nameN p), .int .i64 (a.find (a.par p alone).1 (nameN p) : Nat)] else .agg #[.int .i64 0, .string ⟨#[]⟩, .int .i64 0]

theorem par_cases (a : TS) (p : ByteArray) (alone : Int) :
  ((lastN p).2.2 = 2 ∧ a.par p alone = (0, alone)) ∨ ((lastN p).2.2 ≠ 2 ∧ (lastN p).2.2 ≠ 0 ∧ a.par p alone = (0, (lastN p).2.2)) ∨
  ((lastN p).2.2 = 0 ∧ (a.walkL 1 (lastN p).1).2 ≠ 0 ∧ a.par p alone = (0, (a.walkL 1 (lastN p).1).2)) ∨
  ((lastN p).2.2 = 0 ∧ (a.walkL 1 (lastN p).1).2 = 0 ∧ (a.nd (a.walkL 1 (lastN p).1).1).kind ≠ 2 ∧ a.par p alone = (0, 42)) ∨
  ((lastN p).2.2 = 0 ∧ (a.walkL 1 (lastN p).1).2 = 0 ∧ (a.nd (a.walkL 1 (lastN p).1).1).kind = 2 ∧ a.par p alone = ((a.walkL 1 (lastN p).1).1, 0)) := by
 unfold TS.par
 by_cases e2 : (lastN p).2.2 = 2
 ·exact .inl ⟨e2, by rw [if_pos e2]⟩
 ·rw [if_neg e2]
  by_cases e0 : (lastN p).2.2 = 0
  ·rw [if_pos e0]
   by_cases ew : (a.walkL 1 (lastN p).1).2 = 0
   ·rw [if_pos ew]
    by_cases ek : (a.nd (a.walkL 1 (lastN p).1).1).kind = 2
    ·exact .inr (.inr (.inr (.inr ⟨e0, ew, ek, by rw [if_pos ek]⟩)))
    ·exact .inr (.inr (.inr (.inl ⟨e0, ew, ek, by rw [if_neg ek]⟩)))
   ·exact .inr (.inr (.inl ⟨e0, ew, by rw [if_neg ew]⟩))
  ·exact .inr (.inl ⟨e2, e0, by rw [if_neg e0]⟩)
theorem lastN_short {p u : ByteArray} (h : u ∈ (lastN p).1) : u.size ≤ 1000 := by
 unfold lastN at h
 split at h
 ·split at h
  ·cases h
  ·exact Nat.le_trans (splitN_ok (List.dropLast_subset _ h)) (by omega)
 ·cases h
theorem spot_bad {a : TS} {p : ByteArray} {alone : Int} (h : (a.par p alone).2 ≠ 0) : a.spot p alone = .agg #[.int .i64 0, .string ⟨#[]⟩, .int .i64 0] := by unfold TS.spot; rw [if_neg h]
theorem spot_ok {a : TS} {p : ByteArray} {alone : Int} {d : Nat} (h : a.par p alone = (d, 0)) : a.spot p alone = .agg #[.int .i64 (d : Nat), .string (nameN p), .int .i64 (findL (a.nd d).names (nameN p) : Nat)] := by unfold TS.spot; rw [h]; rfl

def ParPost (a : TS) (p : ByteArray) (alone : Int) (w : World) (e : Ending) (w' : World) : Prop :=
 e = .returned (.tuple #[a.spot p alone, .int .i64 (a.par p alone).2]) ∧ Below w.heap.size w w'
/-- A block of the call's own, behind a call: what a walk wants of it. -/
theorem own_cells {w w1 : World} {o : Obj} {ty : TypeId} {cs : Array Value} (ho : o = .cells cs ty) (hb : Below (w.alloc o).heap.size (w.alloc o) w1) : Blk w1 w.heap.size ty cs ∧ w.heap.size < w1.heap.size ∧ Below w.heap.size w w1 := by
 subst ho
 have h1 := (Blk.new w ty cs).below hb (by simp)
 exact ⟨h1, h1.lt, ((Below.refl w.heap.size w).alloc (Nat.le_refl _) _).trans (hb.mono (by simp))⟩
theorem below_set {w w1 : World} {b : Nat} (h : Below b w w1) {p : Addr} (hp : b ≤ p.block) (u : Value) : Below b w (w1.setCell p u) := h.setCell hp u

theorem parent_any (p : ByteArray) (alone : Int) (w : World) (h : TreeIs F w t M c a) (hg : Good a c) (hc : c ≤ 100000) (hp : p.size ≤ 1000) (ha : alone ≠ 0) :
  Calls Tryz.prog 59 #[.pointer (some ⟨t, 0, none⟩), .string p, .int .i64 alone] w (ParPost a p alone w) := by
 obtain ⟨m, hm⟩ := h.mx
 have hS := Lib.hid (fun W hm => plast_any p W m (by omega) hm)
 have hsz := fun u (hu : u ∈ (lastN p).1) => lastN_short hu
 have HT := Lib.hid h
 have HG := Lib.hid hg
 have hm1 : ∀ o, (w.alloc o).cell? ⟨0, 0, none⟩ = some (.int .i64 m) := fun o => (World.cell?_of_block (a := ⟨0, 0, none⟩) (Below.heap_alloc w o 0 (mx_lt hm))).trans hm
 have HM := Lib.hid hm1
 have HA := Lib.hid (fun (v : Value) (w1 : World) (hb : Below w.heap.size w w1) (B : Nat) (hv : Texts B w1 v (lastN p).1) => along_any v (lastN p).1 w1 (h.below hb) hg hc hv hsz)
 have HN := Lib.hid (show nameN p = (lastN p).2.1 from rfl)
 have hcases := par_cases a p alone
 clear h hg hsz hm hm1
 rcases hcases with ⟨e1, e2⟩ | ⟨e0, e1, e2⟩ | ⟨e0, e1, e2⟩ | ⟨e0, e1, e3, e2⟩ | ⟨e0, e1, e3, e2⟩
 ·have HP := Lib.hid e2
  have HS := Lib.hid (spot_bad (a := a) (p := p) (alone := alone) (by rw [e2]; exact ha))
  have HE := Lib.hid e1
  clear e1 e2
  go_enter Tryz.func59, Tryz.ntmps59
  go_wp2_with fail
  refine (hS.out _ (HM.out _)).mono ?_
  rintro e w1 ⟨v, rfl, hv, hb⟩
  rw [HE.out]
  obtain ⟨A, cc, rfl, hx⟩ := hv
  obtain ⟨hX, hlt, hb2⟩ := own_cells rfl hb
  have r0 := hX.cell 0
  have r1 := hX.cell 1
  have r2 := hX.cell 2
  have q0 := hX.frozen 0
  have q1 := hX.frozen 1
  have q2 := hX.frozen 2
  simp at r0 r1 r2
  have HB := Lib.hid hb2
  have HV := Lib.hid (show Texts _ w1 (.slice A (lastN p).1.length cc) (lastN p).1 from ⟨A, cc, rfl, hx⟩)
  clear hx hb hb2 hX
  go_wp2_with fail
  refine bodyPost_ret (v := .tuple #[.agg #[.int .i64 0, .string ⟨#[]⟩, .int .i64 0], .int .i64 alone]) (by simp [results, Tryz.results59, go_sem, hlt, r0, r1, r2]) rfl ⟨by rw [HS.out, HP.out], ?_⟩
  exact below_set (below_set (below_set HB.out (Nat.le_refl _) _) (Nat.le_refl _) _) (Nat.le_refl _) _
 ·have HP := Lib.hid e2
  have HS := Lib.hid (spot_bad (a := a) (p := p) (alone := alone) (by rw [e2]; exact e1))
  have t1 : ((lastN p).2.2 == 2) = false := beq_eq_false_iff_ne.2 e0
  have t2 : ((lastN p).2.2 == 0) = false := beq_eq_false_iff_ne.2 e1
  clear e0 e1 e2
  go_enter Tryz.func59, Tryz.ntmps59
  go_wp2_with fail
  refine (hS.out _ (HM.out _)).mono ?_
  rintro e w1 ⟨v, rfl, hv, hb⟩
  obtain ⟨A, cc, rfl, hx⟩ := hv
  obtain ⟨hX, hlt, hb2⟩ := own_cells rfl hb
  have r0 := hX.cell 0
  have r1 := hX.cell 1
  have r2 := hX.cell 2
  have q0 := hX.frozen 0
  have q1 := hX.frozen 1
  have q2 := hX.frozen 2
  simp at r0 r1 r2
  have HB := Lib.hid hb2
  have HV := Lib.hid (show Texts _ w1 (.slice A (lastN p).1.length cc) (lastN p).1 from ⟨A, cc, rfl, hx⟩)
  clear hx hb hb2 hX
  go_wp2_with fail
  refine bodyPost_ret (v := .tuple #[.agg #[.int .i64 0, .string ⟨#[]⟩, .int .i64 0], .int .i64 (lastN p).2.2]) (by simp [results, Tryz.results59, go_sem, hlt, r0, r1, r2]) rfl ⟨by rw [HS.out, HP.out], ?_⟩
  exact below_set (below_set (below_set HB.out (Nat.le_refl _) _) (Nat.le_refl _) _) (Nat.le_refl _) _
 ·have HP := Lib.hid e2
  have HS := Lib.hid (spot_bad (a := a) (p := p) (alone := alone) (by rw [e2]; exact e1))
  have HE := Lib.hid e0
  have t1 : ((a.walkL 1 (lastN p).1).2 != 0) = true := bne_iff_ne.2 e1
  clear e0 e1 e2
  go_enter Tryz.func59, Tryz.ntmps59
  go_wp2_with fail
  refine (hS.out _ (HM.out _)).mono ?_
  rintro e w1 ⟨v, rfl, hv, hb⟩
  rw [HE.out]
  obtain ⟨A, cc, rfl, hx⟩ := hv
  obtain ⟨hX, hlt, hb2⟩ := own_cells rfl hb
  have r0 := hX.cell 0
  have r1 := hX.cell 1
  have r2 := hX.cell 2
  have q0 := hX.frozen 0
  have q1 := hX.frozen 1
  have q2 := hX.frozen 2
  simp at r0 r1 r2
  have HB := Lib.hid hb2
  have HV := Lib.hid (show Texts _ w1 (.slice A (lastN p).1.length cc) (lastN p).1 from ⟨A, cc, rfl, hx⟩)
  clear hx hb hb2 hX
  go_wp2_with (first | (go_at_call 41; refine (HA.out _ _ HB.out _ HV.out).mono ?_; rintro e w' ⟨rfl, rfl⟩))
  refine bodyPost_ret (v := .tuple #[.agg #[.int .i64 0, .string ⟨#[]⟩, .int .i64 0], .int .i64 (a.walkL 1 (lastN p).1).2]) (by simp [results, Tryz.results59, go_sem, hlt, r0, r1, r2]) rfl ⟨by rw [HS.out, HP.out], ?_⟩
  exact below_set (below_set (below_set HB.out (Nat.le_refl _) _) (Nat.le_refl _) _) (Nat.le_refl _) _
 ·have HP := Lib.hid e2
  have HS := Lib.hid (spot_bad (a := a) (p := p) (alone := alone) (by rw [e2]; exact (show (42 : Int) ≠ 0 by decide)))
  have hlive := HG.out.walk_live (lastN p).1 1 (by rw [HG.out.root]; decide) e1
  have hbd := HG.out.in_last hlive
  have hfew := HG.out.few
  have HD := Lib.hid (fun W h => dir_any (F := F) (t := t) (c := c) (M := M) (a := a) (a.walkL 1 (lastN p).1).1 W h hlive (by omega))
  have HE := Lib.hid e0
  rw [e1] at HA
  rw [decide_eq_false e3] at HD
  clear e0 e1 e2 e3 hlive hbd hfew
  go_enter Tryz.func59, Tryz.ntmps59
  go_wp2_with fail
  refine (hS.out _ (HM.out _)).mono ?_
  rintro e w1 ⟨v, rfl, hv, hb⟩
  rw [HE.out]
  obtain ⟨A, cc, rfl, hx⟩ := hv
  obtain ⟨hX, hlt, hb2⟩ := own_cells rfl hb
  have r0 := hX.cell 0
  have r1 := hX.cell 1
  have r2 := hX.cell 2
  have q0 := hX.frozen 0
  have q1 := hX.frozen 1
  have q2 := hX.frozen 2
  simp at r0 r1 r2
  have HB := Lib.hid hb2
  have HV := Lib.hid (show Texts _ w1 (.slice A (lastN p).1.length cc) (lastN p).1 from ⟨A, cc, rfl, hx⟩)
  clear hx hb hb2 hX
  go_wp2_with (first | (go_at_call 41; refine (HA.out _ _ HB.out _ HV.out).mono ?_; rintro e w' ⟨rfl, rfl⟩) | (go_at_call 60; refine (HD.out _ (HT.out.below HB.out)).mono ?_; rintro e w' ⟨rfl, rfl⟩))
  refine bodyPost_ret (v := .tuple #[.agg #[.int .i64 0, .string ⟨#[]⟩, .int .i64 0], .int .i64 42]) (by simp [results, Tryz.results59, go_sem, hlt, r0, r1, r2]) rfl ⟨by rw [HS.out, HP.out], ?_⟩
  exact below_set (below_set (below_set HB.out (Nat.le_refl _) _) (Nat.le_refl _) _) (Nat.le_refl _) _
 ·have HP := Lib.hid e2
  have HS := Lib.hid (spot_ok e2)
  have hlive := HG.out.walk_live (lastN p).1 1 (by rw [HG.out.root]; decide) e1
  have hbd := HG.out.in_last hlive
  have hfew := HG.out.few
  have HD := Lib.hid (fun W h => dir_any (F := F) (t := t) (c := c) (M := M) (a := a) (a.walkL 1 (lastN p).1).1 W h hlive (by omega))
  have HE := Lib.hid e0
  rw [e1] at HA
  rw [decide_eq_true e3] at HD
  have HL := Lib.hid (fun W (h : TreeIs F W t M c a) => h.look hlive (by omega))
  have HC := Lib.hid (fun W (h : TreeIs F W t M c a) => h.ncells hlive)
  have HK := Lib.hid (fun W (h : TreeIs F W t M c a) => (h.node _ hlive).2.2.1.look Tryz.underlying72 (s := nameN p) (Nat.le_trans (nameN_size p) (by omega)))
  clear e0 e1 e2 e3 hlive hbd hfew
  go_enter Tryz.func59, Tryz.ntmps59
  go_wp2_with fail
  refine (hS.out _ (HM.out _)).mono ?_
  rintro e w1 ⟨v, rfl, hv, hb⟩
  rw [HE.out, ← HN.out]
  obtain ⟨A, cc, rfl, hx⟩ := hv
  obtain ⟨hX, hlt, hb2⟩ := own_cells rfl hb
  have r0 := hX.cell 0
  have r1 := hX.cell 1
  have r2 := hX.cell 2
  have q0 := hX.frozen 0
  have q1 := hX.frozen 1
  have q2 := hX.frozen 2
  simp at r0 r1 r2
  have HB := Lib.hid hb2
  have HV := Lib.hid (show Texts _ w1 (.slice A (lastN p).1.length cc) (lastN p).1 from ⟨A, cc, rfl, hx⟩)
  clear hx hb hb2 hX
  have hT1 := HT.out.below HB.out
  obtain ⟨c0, c1, c2⟩ := hT1.cells
  obtain ⟨n0, n1, n2, n3⟩ := HC.out _ hT1
  have hl0 := HL.out _ hT1
  have hk0 := HK.out _ hT1
  have hne : t ≠ w.heap.size := Nat.ne_of_lt (HT.out.lt _ HT.out.ft)
  generalize findL (a.nd (a.walkL 1 (lastN p).1).1).names (nameN p) = id at *
  generalize (a.walkL 1 (lastN p).1).1 = d at *
  clear hT1
  go_wp2_with (first | (go_at_call 41; refine (HA.out _ _ HB.out _ HV.out).mono ?_; rintro e w' ⟨rfl, rfl⟩) | (go_at_call 60; refine (HD.out _ (HT.out.below HB.out)).mono ?_; rintro e w' ⟨rfl, rfl⟩))
  refine bodyPost_ret (v := .tuple #[.agg #[.int .i64 (d : Nat), .string (nameN p), .int .i64 (id : Nat)], .int .i64 0]) (by simp [results, Tryz.results59, go_sem, hlt, r0, r1, r2]) rfl ⟨by rw [HS.out, HP.out], ?_⟩
  exact below_set (below_set (below_set HB.out (Nat.le_refl _) _) (Nat.le_refl _) _) (Nat.le_refl _) _
end
end Go.Proofs.YtpkhglfhpggceaaGreatDoor
