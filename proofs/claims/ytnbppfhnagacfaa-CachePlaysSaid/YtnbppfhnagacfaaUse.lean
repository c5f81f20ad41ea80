/- package cache: use, find. -/
import Derived.Test.YtnbppfhnagacfaaCst
namespace Go.Proofs.Ytnbppfhnagacfaa
open Go.RowKit
set_option linter.unusedVariables false
attribute [local go_sem ↓] Go.wp_at_zero Go.wp_at_succ

theorem erase_idx (l : List Int) (x : Int) (h : x ∈ l) : l.eraseIdx (l.idxOf x) = l.erase x ∧ l.idxOf x < l.length := by
  refine ⟨?_, List.idxOf_lt_length_iff.2 h⟩
  induction l with
  | nil => cases h
  | cons a l ih =>
    by_cases e : a = x
    · subst e; simp
    · have hb : (a == x) = false := by simpa using e
      have h' : x ∈ l := (List.mem_cons.1 h).resolve_left fun e2 => e e2.symm
      rw [List.erase_cons_tail (by simp [e])]
      have : (a :: l).idxOf x = l.idxOf x + 1 := by simp [List.idxOf_cons, hb]
      rw [this, List.eraseIdx_cons_succ, ih h']
theorem CacheIs.grown {F : Nat → Prop} {w w' : World} {c d ml : Nat} {ov ov' : Value} {hp : Int → Nat} {size : Int} {os os' : List Int} {m : Int → Option Hd} {cnt : Nat} {hits misses : Int} (h : CacheIs F w c d ml ov hp size os m cnt hits misses)
    (hT : Turn (fun j => j = c ∨ ov.ownBlock = some j) w w') (hb : Blk w' c 73 #[.pointer (some ⟨d, 0, none⟩), .int .i64 size, .map (some ml), ov', .int .i64 hits, .int .i64 misses]) (ho : IRow w' ov' os') (hown : ∀ j, ov'.ownBlock = some j → ov.ownBlock = some j ∨ w.heap.size ≤ j) :
    CacheIs (grow F w w') w' c d ml ov' hp size os' m cnt hits misses := by
  have hne : ∀ j t cs, t ≠ 3 → t ≠ 73 → Blk w j t cs → ¬ (j = c ∨ ov.ownBlock = some j) := by
    rintro j t cs h3 h7 hj (e | e)
    · exact Blk.ne_ hj h.blk h7 e
    · obtain ⟨cs', hc⟩ := h.ord.type j e
      exact Blk.ne_ hj hc h3 rfl
  have hml : ¬ (ml = c ∨ ov.ownBlock = some ml) := by
    rintro (e | e)
    · exact h.map.is.not_blk h.blk e
    · obtain ⟨cs', hc⟩ := h.ord.type ml e
      exact h.map.is.not_blk hc rfl
  exact
    { blk := hb
      ord := ho
      map := h.map.turn hT hml
      held := fun k x hk => by
        obtain ⟨h1, h2, h3, h4, h5⟩ := h.held k x hk
        exact ⟨h1.turn hT (hne _ _ _ (by decide) (by decide) h1), h2, h3, .inl h4, h5⟩
      inj := h.inj
      num := h.num
      fc := .inl h.fc
      fm := .inl h.fm
      fo := fun j hj => by
        rcases hown j hj with e | e
        · exact .inl (h.fo j e)
        · exact .inr ⟨e, ho.lt j hj⟩
      lt := fun j hj => by
        rcases hj with hj | hj
        · exact Nat.lt_of_lt_of_le (h.lt j hj) hT.size
        · exact hj.2 }

theorem delete_any' (v : Value) (l : List Int) (k : Nat) (w : World) (h : IRow w v l) (hk : k < l.length) :
    Calls Try.prog 63 #[v, .int .i64 k, .int .i64 ((k : Int) + 1)] w fun e w' => ∃ v', e = .returned v' ∧ IRow w' v' (l.eraseIdx k) ∧ v'.ownBlock = v.ownBlock ∧ Turn (fun j => v.ownBlock = some j) w w' := by
  have := delete_any v l k w h hk
  rwa [show ((k + 1 : Nat) : Int) = (k : Int) + 1 by omega] at this
theorem IRow.sl {w : World} {v : Value} {l : List Int} (h : IRow w v l) : ∃ A n cp, v = .slice A n cp := by
  rcases h.shape with ⟨e, -⟩ | ⟨g, c', cur, e, -⟩
  · exact ⟨_, _, _, e⟩
  · exact ⟨_, _, _, e⟩
set_option maxHeartbeats 2000000 in
theorem use_any {F : Nat → Prop} {c d ml : Nat} {ov : Value} {hp : Int → Nat} {size : Int} {os : List Int} {m : Int → Option Hd} {cnt : Nat} {hits misses : Int} (i : Int) (w : World) (h : CacheIs F w c d ml ov hp size os m cnt hits misses) (hl : os.length ≤ 1000) :
    Calls Try.prog 55 #[.pointer (some ⟨c, 0, none⟩), .int .i64 i] w fun e w' => e = .returned (.tuple #[]) ∧ (∃ ov', CacheIs (grow F w w') w' c d ml ov' hp size (i :: os.erase i) m cnt hits misses) ∧ Turn F w w' := by
  obtain ⟨A, n, cp, rfl⟩ : ∃ A n cp, ov = .slice A n cp := by
    rcases h.ord.shape with ⟨e, -⟩ | ⟨g, c', cur, e, -⟩
    · exact ⟨_, _, _, e⟩
    · exact ⟨_, _, _, e⟩
  have HI := Lib.hid (index_any _ os i w h.ord (by omega))
  have HC := Lib.hid h
  have c3 := h.blk.cell 3
  have f3 := h.blk.frozen 3
  simp at c3
  have hcl := h.blk.lt
  have hco : ¬ (Value.slice A n cp).ownBlock = some c := fun e => by
    obtain ⟨cs, hc⟩ := h.ord.type c e
    exact Blk.ne_ hc h.blk (by decide) rfl
  clear h
  go_enter Try.func55, Try.ntmps55
  go_wp2_with fail
  refine HI.out.mono ?_
  rintro e w1 ⟨rfl, rfl⟩
  clear HI
  by_cases hi : i ∈ os
  · obtain ⟨hei, hkl⟩ := erase_idx os i hi
    obtain ⟨k, hk⟩ : ∃ k, k = os.idxOf i := ⟨_, rfl⟩
    have hidx : idx os i = k := by unfold idx; rw [if_pos hi, hk]
    rw [← hk] at hei hkl
    have HDl := Lib.hid (delete_any' _ os k w1 HC.out.ord hkl)
    rw [hidx]
    have hk0 : (0 : Int) ≤ k := by omega
    have ew : IntKind.i64.wrap ((k : Int) + 1) = ((k + 1 : Nat) : Int) := by
      rw [show ((k + 1 : Nat) : Int) = (k : Int) + 1 by omega]
      exact IntWalk.i64_in _ (by omega) |>.trans rfl
    clear hidx hk
    go_wp2_with fail
    refine HDl.out.mono ?_
    rintro e w2 ⟨v2, rfl, hO2, hown2, hT2⟩
    obtain ⟨A2, n2, cp2, rfl⟩ := hO2.sl
    have hB2 : Blk w2 c 73 _ := HC.out.blk.turn hT2 hco
    have hc2 : ¬ (Value.slice A2 n2 cp2).ownBlock = some c := by rw [hown2]; exact hco
    have f2 := hB2.frozen 3
    have c2 := hB2.cell 3
    simp at c2
    have hcl2 := hB2.lt
    have hTc : Turn (fun j => j = c) w2 (w2.setCell ⟨c, 3, none⟩ (.slice A2 n2 cp2)) := (Turn.refl (fun j => j = c) w2).setCell (p := ⟨c, 3, none⟩) (fun _ => rfl) _
    obtain ⟨wm, hwm⟩ : ∃ wm, wm = w2.setCell ⟨c, 3, none⟩ (.slice A2 n2 cp2) := ⟨_, rfl⟩
    rw [← hwm] at hTc
    have HBm := Lib.hid (show Blk wm c 73 #[.pointer (some ⟨d, 0, none⟩), .int .i64 size, .map (some ml), .slice A2 n2 cp2, .int .i64 hits, .int .i64 misses] from by rw [hwm]; exact hB2.set_ 3 _)
    have HOm := Lib.hid (show IRow wm (.slice A2 n2 cp2) (os.erase i) from by rw [← hei]; exact hO2.turn hTc fun j hj e => hc2 (by rw [hj, e]))
    have HTm := Lib.hid (show Turn (fun j => j = c ∨ (Value.slice A n cp).ownBlock = some j) w1 wm from (hT2.mono fun j _ e => .inr e).trans hTc fun j _ e => .inl e)
    have HVo := Lib.hid (show (Value.slice A2 n2 cp2).ownBlock = (Value.slice A n cp).ownBlock from hown2)
    have cm : wm.cell? ⟨c, 3, none⟩ = some (.slice A2 n2 cp2) := by have := HBm.out.cell 3; simpa using this
    have fm := HBm.out.frozen 3
    have hcm : c < wm.heap.size := HBm.out.lt
    clear hO2 hT2 hB2 hTc HDl hei hown2
    go_upto_region 3 with (fail)
    rw [← hwm]
    clear hwm c2 f2
    go_wp2_with fail
    have HIn := Lib.hid (insert_any _ (os.erase i) i wm.heap.size (wm.alloc (.cells #[.int .i64 i] 3)) (HOm.out.keep fun j hj => Below.heap_alloc _ _ j (HOm.out.lt j hj)) (by have := List.length_erase_le (a := i) (l := os); omega) (Blk.new _ _ _) (fun e => by have := HOm.out.lt _ e; omega))
    refine HIn.out.mono ?_
    rintro e w5 ⟨v5, rfl, hO5, hown5, hT5⟩
    obtain ⟨A5, n5, cp5, rfl⟩ := hO5.sl
    have hcb : ¬ (Value.slice A2 n2 cp2).ownBlock = some c := fun e => by
      obtain ⟨cs, hc⟩ := HOm.out.type c e
      exact Blk.ne_ hc HBm.out (by decide) rfl
    have hB5 : Blk w5 c 73 _ := (HBm.out.alloc (.cells #[.int .i64 i] 3)).turn hT5 hcb
    have hc5 : ¬ (Value.slice A5 n5 cp5).ownBlock = some c := fun e => by
      obtain ⟨cs, hc⟩ := hO5.type c e
      exact Blk.ne_ hc hB5 (by decide) rfl
    have f5 := hB5.frozen 3
    have c5 := hB5.cell 3
    simp at c5
    have hTc : Turn (fun j => j = c) w5 (w5.setCell ⟨c, 3, none⟩ (.slice A5 n5 cp5)) := (Turn.refl (fun j => j = c) w5).setCell (p := ⟨c, 3, none⟩) (fun _ => rfl) _
    have hTT : Turn (fun j => j = c ∨ (Value.slice A n cp).ownBlock = some j) w1 (w5.setCell ⟨c, 3, none⟩ (.slice A5 n5 cp5)) :=
      ((HTm.out.alloc (.cells #[.int .i64 i] 3)).trans hT5 fun j _ e => .inr (by rw [← HVo.out]; exact e)).trans hTc fun j _ e => .inl e
    have hsz5 : w1.heap.size ≤ w5.heap.size := by have := HTm.out.size; have := hT5.size; simp at this; omega
    have HR := Lib.hid (show CacheIs (grow F w1 (w5.setCell ⟨c, 3, none⟩ (.slice A5 n5 cp5))) (w5.setCell ⟨c, 3, none⟩ (.slice A5 n5 cp5)) c d ml (.slice A5 n5 cp5) hp size (i :: os.erase i) m cnt hits misses ∧ Turn F w1 (w5.setCell ⟨c, 3, none⟩ (.slice A5 n5 cp5)) from
      ⟨HC.out.grown hTT (hB5.set_ 3 _) (hO5.turn hTc fun j hj e => hc5 (by rw [hj, e])) (fun j hj => by
        rcases hown5 with e | ⟨g, e, hg⟩
        · rw [hj] at e; exact .inl (by rw [← HVo.out]; exact e.symm)
        · rw [hj] at e
          have := HTm.out.size
          simp at hg
          exact .inr (by have := Option.some.inj e; omega)), hTT.mono fun j _ e => by
        rcases e with e | e
        · rw [e]; exact HC.out.fc
        · exact HC.out.fo j e⟩)
    clear hO5 hown5 hT5 hB5 hTc hTT HIn HC
    go_wp2
    go_end0
    exact ⟨rfl, ⟨_, HR.out.1⟩, HR.out.2⟩
  · have hidx : idx os i = -1 := by unfold idx; rw [if_neg hi]
    have hei : os.erase i = os := List.erase_of_not_mem hi
    rw [hidx]
    go_wp2_with fail
    have HBm := Lib.hid HC.out.blk
    have HOm := Lib.hid (show IRow w1 (.slice A n cp) (os.erase i) from by rw [hei]; exact HC.out.ord)
    have HTm := Lib.hid (Turn.refl (fun j => j = c ∨ (Value.slice A n cp).ownBlock = some j) w1)
    have HVo := Lib.hid (Eq.refl (Value.slice A n cp).ownBlock)
    clear hei
    have HIn := Lib.hid (insert_any _ (os.erase i) i w1.heap.size (w1.alloc (.cells #[.int .i64 i] 3)) (HOm.out.keep fun j hj => Below.heap_alloc _ _ j (HOm.out.lt j hj)) (by have := List.length_erase_le (a := i) (l := os); omega) (Blk.new _ _ _) (fun e => by have := HOm.out.lt _ e; omega))
    refine HIn.out.mono ?_
    rintro e w5 ⟨v5, rfl, hO5, hown5, hT5⟩
    obtain ⟨A5, n5, cp5, rfl⟩ := hO5.sl
    have hcb : ¬ (Value.slice A n cp).ownBlock = some c := fun e => by
      obtain ⟨cs, hc⟩ := HOm.out.type c e
      exact Blk.ne_ hc HBm.out (by decide) rfl
    have hB5 : Blk w5 c 73 _ := (HBm.out.alloc (.cells #[.int .i64 i] 3)).turn hT5 hcb
    have hc5 : ¬ (Value.slice A5 n5 cp5).ownBlock = some c := fun e => by
      obtain ⟨cs, hc⟩ := hO5.type c e
      exact Blk.ne_ hc hB5 (by decide) rfl
    have f5 := hB5.frozen 3
    have c5 := hB5.cell 3
    simp at c5
    have hTc : Turn (fun j => j = c) w5 (w5.setCell ⟨c, 3, none⟩ (.slice A5 n5 cp5)) := (Turn.refl (fun j => j = c) w5).setCell (p := ⟨c, 3, none⟩) (fun _ => rfl) _
    have hTT : Turn (fun j => j = c ∨ (Value.slice A n cp).ownBlock = some j) w1 (w5.setCell ⟨c, 3, none⟩ (.slice A5 n5 cp5)) :=
      ((HTm.out.alloc (.cells #[.int .i64 i] 3)).trans hT5 fun j _ e => .inr (by rw [← HVo.out]; exact e)).trans hTc fun j _ e => .inl e
    have hsz5 : w1.heap.size ≤ w5.heap.size := by have := HTm.out.size; have := hT5.size; simp at this; omega
    have HR := Lib.hid (show CacheIs (grow F w1 (w5.setCell ⟨c, 3, none⟩ (.slice A5 n5 cp5))) (w5.setCell ⟨c, 3, none⟩ (.slice A5 n5 cp5)) c d ml (.slice A5 n5 cp5) hp size (i :: os.erase i) m cnt hits misses ∧ Turn F w1 (w5.setCell ⟨c, 3, none⟩ (.slice A5 n5 cp5)) from
      ⟨HC.out.grown hTT (hB5.set_ 3 _) (hO5.turn hTc fun j hj e => hc5 (by rw [hj, e])) (fun j hj => by
        rcases hown5 with e | ⟨g, e, hg⟩
        · rw [hj] at e; exact .inl (by rw [← HVo.out]; exact e.symm)
        · rw [hj] at e
          have := HTm.out.size
          simp at hg
          exact .inr (by have := Option.some.inj e; omega)), hTT.mono fun j _ e => by
        rcases e with e | e
        · rw [e]; exact HC.out.fc
        · exact HC.out.fo j e⟩)
    clear hO5 hown5 hT5 hB5 hTc hTT HIn HC
    go_wp2
    go_end0
    exact ⟨rfl, ⟨_, HR.out.1⟩, HR.out.2⟩
end Go.Proofs.Ytnbppfhnagacfaa
