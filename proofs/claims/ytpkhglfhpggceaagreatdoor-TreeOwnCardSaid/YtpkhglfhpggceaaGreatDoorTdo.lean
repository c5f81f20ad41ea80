/- A tree of directories and files, plain: what is asked of it keeps what a tree keeps. -/
import Derived.Test.YtpkhglfhpggceaaGreatDoorDo
namespace Go.Proofs.YtpkhglfhpggceaaGreatDoor
set_option linter.unusedVariables false

section
variable {a : TS} {c : Nat}
theorem Inv.seek (h : Inv a c) {fd : Int} {f : FT} (hf : lookO a.op fd = some f) {pos : Int} (h0 : 0 ≤ pos) (h1 : pos ≤ 48640) : Inv (a.seekT fd f pos) c := by
 obtain ⟨i, -, hi, hop⟩ := lookO_some hf
 obtain ⟨k, e1, hk, hp0, hp1, hm0, hm1⟩ := h.1.ops i hi f hop
 refine h.setOp _ _ fun g hg => ?_
 injection hg with hg
 subst hg
 exact ⟨k, e1, hk, h0, h1, hm0, hm1⟩
theorem Inv.opens (h : Inv a c) {id : Nat} {flags : Int} (hk : (a.nd id).kind = 1) (hf : flagsB flags = true) : Inv (a.opens id flags) c := by
 unfold TS.opens
 cases freeK a.op with
 | none => exact h
 | some k =>
  have hmod : 1 ≤ flags % 4 ∧ flags % 4 ≤ 3 := by
   unfold flagsB at hf
   simp at hf
   omega
  have h2 : Inv (if flags / 16 % 2 = 1 then a.setData id [] else a) c := by
   split
   ·exact h.setData (by rw [hk]; decide) (by simp)
   ·exact h
  refine h2.setOp _ _ fun g hg => ?_
  injection hg with hg
  subst hg
  refine ⟨id, rfl, ?_, Int.le_refl _, by show (0 : Int) ≤ 48640; decide, hmod.1, hmod.2⟩
  split
  ·show (setF a.nd id _ id).kind = 1
   rw [setF_same]
   exact hk
  ·exact hk
theorem kind_one (h : Good a c) {k : Nat} (h0 : (a.nd k).kind ≠ 0) (h2 : (a.nd k).kind ≠ 2) : (a.nd k).kind = 1 ∧ (a.nd k).names = [] := by
 rcases h.kinds k with e | e | e
 ·exact absurd e.1 h0
 ·exact e
 ·exact absurd e h2
theorem Inv.openT (h : Inv a c) (o : OpT) : Inv (a.openT o) (c + 2) := by
 unfold TS.openT
 split
 ·rename_i he
  unfold TS.openE at he
  split at he
  ·cases he
  rename_i hf
  split at he
  ·exact absurd he (by assumption)
  rename_i hp
  split at he
  ·cases he
  split at he
  ·cases he
  rename_i hd
  split at he
  ·cases he
  have hfl : flagsB o.flags = true := by simpa using hf
  have hdir := par_dir (show (43 : Int) ≠ 0 by decide) (by simpa using hp)
  unfold TS.openS
  split
  ·rename_i hz
   refine (h.more hdir (Nat.le_trans (nameN_size _) (by omega)) hz (.inl rfl)).opens ?_ hfl
   unfold TS.more
   rw [kind_put]
   show (setF a.nd (a.last + 1) ⟨1, 1, [], []⟩ (a.last + 1)).kind = 1
   rw [setF_same]
  ·rename_i hz
   exact ((h.opens (kind_one h.1 (h.1.find_live hz) (fun e => hd ⟨hz, e⟩)).1 hfl).mono (by omega))
 ·exact h.mono (by omega)
theorem Inv.heldT (h : Inv a c) (o : OpT) : Inv (a.heldT o) c := by
 unfold TS.heldT
 cases hf : lookO a.op o.fd with
 | none => exact h
 | some f =>
  obtain ⟨i, hfd, hi, hop⟩ := lookO_some hf
  obtain ⟨k, e1, hk, hp0, hp1, hm0, hm1⟩ := h.1.ops i hi f hop
  have hlive : (a.nd k).kind ≠ 0 := by rw [hk]; decide
  have hkn : f.1.toNat = k := by omega
  show Inv (if o.kind = 2 then (a.setOp o.fd.toNat none).gone f.1.toNat else if o.kind = 3 then a.readT o f else if o.kind = 4 then a.writeT o f else if o.kind = 5 then (if o.off < 0 ∨ o.off > 48640 then a else a.seekT o.fd f o.off) else a) c
  split
  ·have h2 := h.setOp o.fd.toNat none fun g hg => by cases hg
   rw [hkn]
   obtain ⟨g1, g2⟩ := Good.gone h2.1 h2.2 (k := k) hlive (Int.le_refl _) (kind_one h.1 hlive (by rw [hk]; decide)).2
   refine ⟨g1, g2.same fun j => ?_⟩
   split <;> rfl
  split
  ·unfold TS.readT
   split
   ·exact h
   ·rename_i hc
    rw [hkn]
    have hd := h.1.data k
    exact h.seek hf (by omega) (by omega)
  split
  ·unfold TS.writeT
   split
   ·exact h
   ·rename_i hc
    rw [hkn]
    have hd := h.1.data k
    have hl := writeL_len (a.nd k).data o.data f.2.1.toNat
    refine Inv.seek (a := a.setData k (writeL (a.nd k).data f.2.1.toNat o.data)) (h.setData hlive (by omega)) hf (by omega) (by omega)
  split
  ·split
   ·exact h
   ·exact h.seek hf (by omega) (by omega)
  ·exact h
theorem Inv.mkdirT (h : Inv a c) (o : OpT) : Inv (a.mkdirT o) (c + 2) := by
 unfold TS.mkdirT
 split
 ·rename_i he
  unfold TS.mkdirE at he
  split at he
  ·exact absurd he (by assumption)
  rename_i hp
  split at he
  ·cases he
  rename_i hf
  exact h.more (par_dir (show (41 : Int) ≠ 0 by decide) (by simpa using hp)) (Nat.le_trans (nameN_size _) (by omega)) (by simpa using hf) (.inr rfl)
 ·exact h.mono (by omega)
theorem Inv.removeT (h : Inv a c) (o : OpT) : Inv (a.removeT o) c := by
 unfold TS.removeT
 split
 ·rename_i he
  unfold TS.removeE at he
  split at he
  ·exact absurd he (by assumption)
  rename_i hp
  split at he
  ·cases he
  rename_i hf
  split at he
  ·cases he
  split at he
  ·cases he
  split at he
  ·cases he
  rename_i hn
  exact h.remove (par_dir (show aloneN o ≠ 0 by unfold aloneN; split <;> decide) (by simpa using hp)) (Nat.le_trans (nameN_size _) (by omega)) hf (List.eq_nil_of_length_eq_zero (by simpa using hn))
 ·exact h
theorem Inv.linkT (h : Inv a c) (o : OpT) : Inv (a.linkT o) (c + 2) := by
 unfold TS.linkT
 split
 ·rename_i he
  unfold TS.linkE at he
  split at he
  ·exact absurd he (by assumption)
  rename_i hw
  split at he
  ·cases he
  rename_i hd
  split at he
  ·exact absurd he (by assumption)
  rename_i hp
  split at he
  ·cases he
  rename_i hf
  split at he
  ·cases he
  rename_i hl
  exact h.link (h.1.walkP_live (by simpa using hw)) hd hl (par_dir (show (41 : Int) ≠ 0 by decide) (by simpa using hp)) (Nat.le_trans (nameN_size _) (by omega)) (by simpa using hf)
 ·exact h.mono (by omega)
theorem Inv.renameT (h : Inv a c) (o : OpT) : Inv (a.renameT o) (c + 2) := by
 unfold TS.renameT
 split
 ·rename_i he2
  unfold TS.endsE at he2
  split at he2
  ·exact absurd he2 (by assumption)
  split at he2
  ·exact absurd he2 (by assumption)
  split at he2
  ·cases he2
  split at he2
  ·exact absurd he2 (by assumption)
  rename_i hp1
  split at he2
  ·cases he2
  rename_i hf
  split at he2
  ·cases he2
  exact h.ren (par_dir (show (51 : Int) ≠ 0 by decide) (by simpa using hp1)) (par_dir (show (51 : Int) ≠ 0 by decide) he2) (Nat.le_trans (nameN_size _) (by omega)) (Nat.le_trans (nameN_size _) (by omega)) hf
 ·exact h.mono (by omega)
theorem Inv.oneT (h : Inv a c) (o : OpT) : Inv (a.oneT o) c := by
 unfold TS.oneT
 split
 ·exact h
 ·rename_i hc
  have hw : (a.walkP o.path).2 = 0 := Decidable.byContradiction fun e => hc (.inl e)
  exact h.setData (h.1.walkP_live hw) (by rw [sizeL_len]; omega)
theorem Inv.doT (h : Inv a c) (o : OpT) : Inv (a.doT o) (c + 2) := by
 unfold TS.doT
 split
 ·exact h.openT o
 split
 ·exact (h.heldT o).mono (by omega)
 split
 ·exact h.mkdirT o
 split
 ·exact (h.removeT o).mono (by omega)
 split
 ·exact h.linkT o
 split
 ·exact h.renameT o
 split
 ·exact (h.oneT o).mono (by omega)
 ·exact h.mono (by omega)
end
end Go.Proofs.YtpkhglfhpggceaaGreatDoor
