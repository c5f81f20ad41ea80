/- What the tree's table does, seen from the tree: open, get, close, seek, full. -/
import Derived.Test.YtpkhglfhpggceaaGreatDoorAns
namespace Go.Proofs.YtpkhglfhpggceaaGreatDoor
open Go.RowKit
set_option linter.unusedVariables false
set_option linter.unusedSimpArgs false
section
variable {F : Nat → Prop} {w w' : World} {t c : Nat} {M : TMem} {a : TS}
theorem freeK_some {op : Nat → Option FT} {k : Nat} (hk : k < 8) (h : op k = none) (hj : ∀ j, j < k → op j ≠ none) : freeK op = some k := by
 unfold freeK
 rw [List.find?_range_eq_some]
 refine ⟨by rw [h]; rfl, List.mem_range.2 hk, fun j hjk => ?_⟩
 have := hj j hjk
 cases e : op j with
 | none => exact absurd e this
 | some x => rfl
theorem freeK_none {op : Nat → Option FT} (hj : ∀ j, j < 8 → op j ≠ none) : freeK op = none := by
 unfold freeK
 rw [List.find?_eq_none]
 intro j hjm
 have := hj j (List.mem_range.1 hjm)
 cases e : op j with
 | none => exact absurd e this
 | some x => simp
theorem TreeIs.op_none (h : TreeIs F w t M c a) {i : Nat} (hi : i < 8) : M.T i = none ↔ a.op i = none := by
 have := h.op i hi
 rw [← this]
 cases M.T i <;> simp
theorem TreeIs.op_some (h : TreeIs F w t M c a) {i : Nat} (hi : i < 8) {f : FT} (hf : a.op i = some f) : ∃ b, M.T i = some (b, f) := by
 have := h.op i hi
 rw [hf] at this
 cases e : M.T i with
 | none => rw [e] at this; cases this
 | some x =>
  rw [e] at this
  obtain ⟨b, y⟩ := x
  refine ⟨b, ?_⟩
  have h2 : some y = some f := this
  injection h2 with h2
  rw [h2]
def opensT (a : TS) (ino mode : Int) : TS := match freeK a.op with | some k => a.setOp k (some (ino, 0, mode)) | none => a
def TOpenPost (F : Nat → Prop) (t c : Nat) (a' : TS) (w : World) (e : Ending) (w' : World) : Prop :=
 (∃ i j : Int, e = .returned (.tuple #[.int .i64 i, .int .i64 j])) ∧ St (grow F w w') w' t c a' ∧ Turn F w w' ∧ w'.heap[t]? = w.heap[t]?
theorem topen_any (ino mode : Int) (w : World) (h : TreeIs F w t M c a) :
  Calls Tryz.prog 63 #[.pointer (some ⟨M.tb, 0, none⟩), .int .i64 ino, .int .i64 mode] w (TOpenPost F t c (opensT a ino mode) w) := by
 refine (open_any M.T M.tb ino mode w h.tab).mono ?_
 rintro e w' (⟨k, hk, hT, hj, rfl, htab, hTu⟩ | ⟨hj, rfl, rfl⟩)
 ·have hf : freeK a.op = some k := freeK_some hk ((h.op_none hk).1 hT) fun j hjk => fun e => hj j hjk ((h.op_none (by omega)).2 e)
  have e1 : opensT a ino mode = ⟨a.last, a.nd, setF a.op k (some (ino, 0, mode))⟩ := by unfold opensT; rw [hf]; rfl
  rw [e1]
  refine ⟨⟨_, _, rfl⟩, ⟨_, h.setTab (T' := _root_.Go.Proofs.YtpkhglfhpggceaaGreatDoor.put M.T k (some (w.heap.size, ino, 0, mode))) (hTu.mono fun i hi e => .inl e) htab (fun i hi => ?_) (fun j hj => .inl hj) (fun j hj => ?_) (fun j hj => ?_) (fun hj => ?_)⟩, hTu.mono fun i hi e => h.ftab _ (.inl e), hTu.block t h.blk.lt (fun e => h.blk.ne_ h.tab.tab (by decide) e)⟩
  ·unfold _root_.Go.Proofs.YtpkhglfhpggceaaGreatDoor.put setF
   split
   ·rfl
   ·exact h.op i hi
  ·rcases hj with e | ⟨i, x, hi, hx, e⟩
   ·exact .inl (h.ftab _ (.inl e))
   ·unfold _root_.Go.Proofs.YtpkhglfhpggceaaGreatDoor.put at hx
    split at hx
    ·injection hx with hx
     subst hx
     have hlt := (htab.file k hk (w.heap.size, ino, 0, mode) (by unfold _root_.Go.Proofs.YtpkhglfhpggceaaGreatDoor.put; rw [if_pos rfl])).lt
     exact .inr ⟨by rw [← e]; exact Nat.le_refl _, by rw [← e]; exact hlt⟩
    ·exact .inl (h.ftab _ (.inr ⟨i, x, hi, hx, e⟩))
  ·rcases hj with hj | hj
   ·exact Nat.lt_of_lt_of_le (h.lt j hj) hTu.size
   ·exact hj.2
  ·rcases hj with hj | hj
   ·exact h.f0 hj
   ·have := h.w0; omega
 ·have hf : freeK a.op = none := freeK_none fun j hj8 e => hj j hj8 ((h.op_none hj8).2 e)
  have e1 : opensT a ino mode = a := by unfold opensT; rw [hf]
  rw [e1]
  exact ⟨⟨_, _, rfl⟩, ⟨M, h.grown w (Nat.le_refl _) h.w0⟩, Turn.refl _ _, rfl⟩
theorem lookO_some {op : Nat → Option FT} {fd : Int} {f : FT} (h : lookO op fd = some f) : ∃ k : Nat, fd = k ∧ k < 8 ∧ op k = some f := by
 unfold lookO at h
 split at h
 ·exact ⟨fd.toNat, by omega, by omega, h⟩
 ·cases h
theorem tlook_none (h : TreeIs F w t M c a) {fd : Int} (hf : lookO a.op fd = none) : look M.T fd = none := by
 unfold lookO at hf
 unfold look
 split
 ·rename_i h8
  rw [if_pos h8] at hf
  exact (h.op_none (by omega)).2 hf
 ·rfl
/-- What get tells. -/
def getA (o : Option FT) : Value := match o with | some f => .agg #[.int .i64 f.1, .int .i64 f.2.1, .int .i64 f.2.2] | none => .agg #[.int .i64 0, .int .i64 0, .int .i64 0]
def getE (o : Option FT) : Int := if o.isSome then 0 else 46
theorem tget_any (fd : Int) (w : World) (h : TreeIs F w t M c a) :
  Calls Tryz.prog 64 #[.pointer (some ⟨M.tb, 0, none⟩), .int .i64 fd] w fun e w' => e = .returned (.tuple #[getA (lookO a.op fd), .int .i64 (getE (lookO a.op fd))]) ∧ Below w.heap.size w w' := by
 cases hf : lookO a.op fd with
 | none => exact get_none M.T M.tb fd w h.tab (tlook_none h hf)
 | some f =>
  obtain ⟨k, rfl, hk, hop⟩ := lookO_some hf
  obtain ⟨b, hT⟩ := h.op_some hk hop
  exact get_some M.T M.tb k (b, f) w h.tab hk hT
/-- The table's file goes, or turns. -/
theorem TreeIs.turned (h : TreeIs F w t M c a) {k : Nat} (hk : k < 8) {b : Nat} {f : FT} (hT : M.T k = some (b, f)) {v : Option FT} {T' : Nat → Option FileT} (hTu : Turn (fun j => foot M.tb M.T j) w w') (htab : Tab w' M.tb T')
  (hT' : ∀ i, T' i = if i = k then v.map (fun x => (b, x)) else M.T i) : TreeIs F w' t { M with T := T' } c (a.setOp k v) := by
 refine h.setTab hTu htab (fun i hi => ?_) (fun j hj => hj) (fun j hj => ?_) (fun j hj => Nat.lt_of_lt_of_le (h.lt j hj) hTu.size) h.f0
 ·show (T' i).map (·.2) = setF a.op k v i
  rw [hT']
  unfold setF
  split
  ·cases v <;> rfl
  ·exact h.op i hi
 ·rcases hj with e | ⟨i, x, hi, hx, e⟩
  ·exact h.ftab _ (.inl e)
  ·rw [hT'] at hx
   split at hx
   ·cases v with
    | none => cases hx
    | some y =>
     injection hx with hx
     subst hx
     exact h.ftab _ (.inr ⟨k, (b, f), hk, hT, e⟩)
   ·exact h.ftab _ (.inr ⟨i, x, hi, hx, e⟩)
def TabPost (F : Nat → Prop) (t c : Nat) (a' : TS) (w w' : World) : Prop := ∃ M', TreeIs F w' t M' c a' ∧ Turn F w w' ∧ w'.heap[t]? = w.heap[t]?
theorem tnot_foot (h : TreeIs F w t M c a) : ¬ foot M.tb M.T t := fun hj => by
 rcases hj with e | ⟨i, x, hi, hx, e⟩
 ·exact h.blk.ne_ h.tab.tab (by decide) e
 ·exact h.blk.ne_ (h.tab.file i hi x hx) (by decide) e.symm
theorem tclose_any (fd : Int) (f : FT) (w : World) (h : TreeIs F w t M c a) (hf : lookO a.op fd = some f) :
  Calls Tryz.prog 65 #[.pointer (some ⟨M.tb, 0, none⟩), .int .i64 fd] w fun e w' => e = .returned (.tuple #[.agg #[.int .i64 f.1, .int .i64 f.2.1, .int .i64 f.2.2], .int .i64 0]) ∧ TabPost F t c (a.setOp fd.toNat none) w w' := by
 obtain ⟨k, rfl, hk, hop⟩ := lookO_some hf
 obtain ⟨b, hT⟩ := h.op_some hk hop
 refine (close_some M.T M.tb k (b, f) w h.tab hk hT).mono ?_
 rintro e w' ⟨rfl, htab, hTu⟩
 refine ⟨rfl, _, h.turned hk hT (v := none) (hTu.mono fun i _ e => .inl e) htab fun i => ?_, hTu.mono fun i _ e => h.ftab _ (.inl e), hTu.block t h.blk.lt fun e => tnot_foot h (.inl e)⟩
 unfold _root_.Go.Proofs.YtpkhglfhpggceaaGreatDoor.put
 rfl
theorem tseek_any (fd : Int) (f : FT) (pos : Int) (w : World) (h : TreeIs F w t M c a) (hf : lookO a.op fd = some f) (hp : 0 ≤ pos) :
  Calls Tryz.prog 69 #[.pointer (some ⟨M.tb, 0, none⟩), .int .i64 fd, .int .i64 pos] w fun e w' => e = .returned (.int .i64 0) ∧ TabPost F t c (a.seekT fd f pos) w w' := by
 obtain ⟨k, rfl, hk, hop⟩ := lookO_some hf
 obtain ⟨b, hT⟩ := h.op_some hk hop
 refine (seek_some M.T M.tb k (b, f) pos w h.tab hk hT hp).mono ?_
 rintro e w' ⟨rfl, htab, hTu⟩
 refine ⟨rfl, _, h.turned hk hT (v := some (f.1, pos, f.2.2)) (hTu.mono fun i _ e => .inr ⟨k, _, hk, hT, e.symm⟩) htab fun i => ?_, hTu.mono fun i _ e => h.ftab _ (.inr ⟨k, _, hk, hT, e.symm⟩), hTu.block t h.blk.lt fun e => tnot_foot h (.inr ⟨k, _, hk, hT, e.symm⟩)⟩
 unfold _root_.Go.Proofs.YtpkhglfhpggceaaGreatDoor.put
 rfl
theorem tfull_any (w : World) (h : TreeIs F w t M c a) :
  Calls Tryz.prog 61 #[.pointer (some ⟨M.tb, 0, none⟩)] w fun e w' => e = .returned (.bool (decide (usedN a.op = 8))) ∧ Below w.heap.size w w' := by
 refine (full_any M.T M.tb w h.tab).mono ?_
 rintro e w' ⟨rfl, hb⟩
 refine ⟨?_, hb⟩
 rw [used_eq h]
 congr 2
 rw [Bool.eq_iff_iff]
 simp
 omega
/-- The answer is laid behind a step of the tree. -/
theorem ans_fin {F' : Nat → Prop} {wX w9 : World} {b c' : Nat} {a' : TS} {v0 v1 v2 v3 v4 v5 v6 : Value} {er n : Int} {A1 : Option Addr} {n1 c1 : Nat} {A2 : Option Addr} {n2 c2 : Nat} {k s l : Int} (h0 : TreeIs F w t M c a) (h : St (grow F' wX w9) w9 t c' a') (hc : c' ≤ c + 2) (hT : Turn F w w9) (hX : w.heap.size ≤ wX.heap.size)
  (hF : ∀ j, F' j → F j ∨ w.heap.size ≤ j) (hb : w.heap.size ≤ b) (hb2 : b < wX.heap.size) (hbF : ¬ F' b) :
  AnsPost F t (c + 2) a' w (.returned (.agg #[.int .i64 er, .int .i64 n, .slice A1 n1 c1, .slice A2 n2 c2, .int .i64 k, .int .i64 s, .int .i64 l])) (((((((w9.setCell ⟨b, 0, none⟩ v0).setCell ⟨b, 1, none⟩ v1).setCell ⟨b, 2, none⟩ v2).setCell ⟨b, 3, none⟩ v3).setCell ⟨b, 4, none⟩ v4).setCell ⟨b, 5, none⟩ v5).setCell ⟨b, 6, none⟩ v6) := by
 have hTA := ans_turn hT hb v0 v1 v2 v3 v4 v5 v6
 have hsz : (((((((w9.setCell ⟨b, 0, none⟩ v0).setCell ⟨b, 1, none⟩ v1).setCell ⟨b, 2, none⟩ v2).setCell ⟨b, 3, none⟩ v3).setCell ⟨b, 4, none⟩ v4).setCell ⟨b, 5, none⟩ v5).setCell ⟨b, 6, none⟩ v6).heap.size = w9.heap.size := by simp [World.setCell]
 have hw := h0.w0
 refine ⟨er, n, A1, n1, c1, A2, n2, c2, k, s, l, rfl, ?_, hTA⟩
 obtain ⟨M', h⟩ := h
 have h2 := h.far7 (b := b) (fun e => by
  rcases e with e | e
  ·exact hbF e
  ·omega) (by omega) v0 v1 v2 v3 v4 v5 v6
 refine ⟨M', (h2.mono hc).wide (fun j hj => ?_) (fun j hj => ?_) (fun hj => ?_)⟩
 ·have hj2 := h.lt j hj
  rw [← hsz] at hj2
  rcases hj with hj | hj
  ·rcases hF j hj with e | e
   ·exact .inl e
   ·exact .inr ⟨e, hj2⟩
  ·exact .inr ⟨by omega, hj2⟩
 ·rcases hj with hj | hj
  ·exact Nat.lt_of_lt_of_le (h0.lt j hj) hTA.size
  ·exact hj.2
 ·rcases hj with hj | hj
  ·exact h0.f0 hj
  ·omega
/-- A file's bytes go. -/
theorem TreeIs.cutNode (h : TreeIs F w t M c a) {k : Nat} (hk : (a.nd k).kind ≠ 0) : TreeIs F (w.setCell ⟨M.hp k, 2, none⟩ (.slice none 0 0)) t { M with dv := setF M.dv k (.slice none 0 0) } c (a.setData k []) := by
 have hT : Turn (· = M.hp k) w (w.setCell ⟨M.hp k, 2, none⟩ (.slice none 0 0)) := (Turn.refl (· = M.hp k) w).setCell (p := ⟨M.hp k, 2, none⟩) (fun _ => rfl) _
 exact h.setNode hk hT rfl rfl ((h.node k hk).1.set_ 2 _) (Byt.nil _) (fun j hj => hj) (fun j hj => by cases hj) (fun j hj => Nat.lt_of_lt_of_le (h.lt j hj) hT.size) h.f0
theorem freeK_not_full {op : Nat → Option FT} (h : usedN op ≠ 8) : freeK op ≠ none := by
 intro hn
 unfold freeK at hn
 rw [List.find?_eq_none] at hn
 refine h ?_
 unfold usedN
 rw [List.filter_eq_self.2]
 ·rfl
 ·intro i hi
  have := hn i hi
  cases e : op i with
  | none => rw [e] at this; exact absurd rfl this
  | some x => rfl
theorem opens_eq {a : TS} {id : Nat} {flags : Int} (h : usedN a.op ≠ 8) : a.opens id flags = opensT (if flags / 16 % 2 = 1 then a.setData id [] else a) (id : Int) (flags % 4) := by
 have h1 := freeK_not_full h
 unfold TS.opens opensT
 have e : (if flags / 16 % 2 = 1 then a.setData id [] else a).op = a.op := by split <;> rfl
 rw [e]
 cases hf : freeK a.op with
 | none => exact absurd hf h1
 | some k => rfl
end
end Go.Proofs.YtpkhglfhpggceaaGreatDoor
