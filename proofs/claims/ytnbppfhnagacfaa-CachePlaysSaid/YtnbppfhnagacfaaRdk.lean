/- package scupperref04: the reference's disk, as it lies; is, Read. -/
import Derived.Test.YtnbppfhnagacfaaRsup
namespace Go.Proofs.Ytnbppfhnagacfaa
open Go.RowKit
set_option linter.unusedVariables false
attribute [local go_sem ↓] Go.wp_at_zero Go.wp_at_succ

/-- Pointer d is the reference's disk x, its supply at g; all but the supply lies in F. -/
structure RDk (F : Nat → Prop) (w : World) (d g : Nat) (x : Dk) (sv wv : Value) (vs : List Value) : Prop where
  blk : Blk w d 89 #[.pointer (some ⟨g, 0, none⟩), sv, wv, .int .i64 x.writes]
  st : Rows w sv x.stable
  n1 : 1 ≤ x.stable.length
  n2 : x.stable.length ≤ 2048
  wr : w.ownsRow 0 67 1 wv x.stable.length vs
  wt : ∀ (k : Nat) v, vs[k]? = some v → Rows w v (x.waits k)
  cnt : 0 ≤ x.writes ∧ ∀ k, ((x.waits k).length : Int) ≤ x.writes
  fd : F d
  fs : ∀ j, sv.ownBlock = some j → F j
  fv : ∀ j, wv.ownBlock = some j → F j
  fw : ∀ (k : Nat) v, vs[k]? = some v → ∀ j, v.ownBlock = some j → F j
  as_ : ∀ (k : Nat) v, vs[k]? = some v → ∀ j, v.ownBlock = some j → sv.ownBlock ≠ some j
  lt : ∀ j, F j → j < w.heap.size

theorem owns_keep {w w' : World} {base : Nat} {e : TypeId} {N : Nat} {v : Value} {n : Nat} {xs : List Value} (h : w.ownsRow base e N v n xs) (hk : ∀ j, v.ownBlock = some j → w'.heap[j]? = w.heap[j]?) : w'.ownsRow base e N v n xs := by
  refine ⟨h.1, ?_⟩
  rcases h.2 with h1 | ⟨g, cap, cur, hv, hb, hg, hr⟩
  · exact .inl h1
  · exact .inr ⟨g, cap, cur, hv, hb, (hk g (by rw [hv]; rfl)).trans hg, hr⟩
theorem owns_turn {S : Nat → Prop} {w w' : World} {base : Nat} {e : TypeId} {N : Nat} {v : Value} {n : Nat} {xs : List Value} (h : w.ownsRow base e N v n xs) (hT : Turn S w w') (hS : ∀ j, v.ownBlock = some j → ¬ S j) : w'.ownsRow base e N v n xs :=
  owns_keep h fun j hj => hT.block j (World.ownsRow.lt h j hj).2 (hS j hj)
theorem owns_type {w : World} {base : Nat} {e : TypeId} {N : Nat} {v : Value} {n : Nat} {xs : List Value} (h : w.ownsRow base e N v n xs) : ∀ j, v.ownBlock = some j → ∃ cs, Blk w j e cs := by
  intro j hj
  rcases h.2 with ⟨hv, _⟩ | ⟨g, cap, cur, hv, hb, hg, _⟩
  · rw [hv] at hj; cases hj
  · rw [hv] at hj
    obtain rfl : g = j := Option.some.inj hj
    exact ⟨cur, hg⟩
theorem owns_form {w : World} {base : Nat} {e : TypeId} {N : Nat} {v : Value} {n : Nat} {xs : List Value} (h : w.ownsRow base e N v n xs) (hn : 0 < n) : ∃ g c, v = .slice (some ⟨g, 0, none⟩) n c ∧ n ≤ c ∧ c ≤ maxLen ∧ g < w.heap.size := by
  rcases h.2 with ⟨hv, h0⟩ | ⟨g, cap, cur, hv, hb, hg, hnc, hcm, hcs, ht⟩
  · omega
  · exact ⟨g, cap, hv, hnc, hcm, (Array.getElem?_eq_some_iff.1 hg).1⟩
theorem RDk.turn {F S : Nat → Prop} {w w' : World} {d g : Nat} {x : Dk} {sv wv : Value} {vs : List Value} (h : RDk F w d g x sv wv vs) (hT : Turn S w w') (hS : ∀ j, F j → ¬ S j) : RDk F w' d g x sv wv vs :=
  { h with
    blk := h.blk.turn hT (hS _ h.fd)
    st := h.st.turn hT fun j hj => hS _ (h.fs j hj)
    wr := owns_turn h.wr hT fun j hj => hS _ (h.fv j hj)
    wt := fun k v hv => (h.wt k v hv).turn hT fun j hj => hS _ (h.fw k v hv j hj)
    lt := fun j hj => Nat.lt_of_lt_of_le (h.lt j hj) hT.size }
theorem RDk.mono {F F' : Nat → Prop} {w : World} {d g : Nat} {x : Dk} {sv wv : Value} {vs : List Value} (h : RDk F w d g x sv wv vs) (hF : ∀ j, F j → F' j) (hl : ∀ j, F' j → j < w.heap.size) : RDk F' w d g x sv wv vs :=
  { h with
    fd := hF _ h.fd
    fs := fun j hj => hF _ (h.fs j hj)
    fv := fun j hj => hF _ (h.fv j hj)
    fw := fun k v hv j hj => hF _ (h.fw k v hv j hj)
    lt := hl }
theorem RDk.len {F : Nat → Prop} {w : World} {d g : Nat} {x : Dk} {sv wv : Value} {vs : List Value} (h : RDk F w d g x sv wv vs) : vs.length = x.stable.length := by have := h.wr.1; simpa using this
theorem RDk.at_ {F : Nat → Prop} {w : World} {d g : Nat} {x : Dk} {sv wv : Value} {vs : List Value} (h : RDk F w d g x sv wv vs) {i : Int} (hi : x.is i) :
    ∃ gw cw v, wv = .slice (some ⟨gw, 0, none⟩) x.stable.length cw ∧ vs[i.toNat]? = some v ∧ w.cell? ⟨gw, i.toNat, none⟩ = some v ∧ Rows w v (x.waits i) ∧ x.stable.length ≤ cw ∧ cw ≤ maxLen := by
  have h1 := hi.1
  have h2 := hi.2
  obtain ⟨gw, cw, rfl, h3, h4, -⟩ := owns_form h.wr (by omega)
  have hl := h.len
  have hv : vs[i.toNat]? = some (vs[i.toNat]'(by omega)) := List.getElem?_eq_getElem (by omega)
  refine ⟨gw, cw, _, rfl, hv, ?_, ?_, h3, h4⟩
  · have := World.ownsRow.cellAt h.wr i.toNat (by omega)
    rw [this, hv]
  · have := h.wt i.toNat _ hv
    rwa [Int.toNat_of_nonneg h1] at this
theorem RDk.shows_len {F : Nat → Prop} {w : World} {d g : Nat} {x : Dk} {sv wv : Value} {vs : List Value} (h : RDk F w d g x sv wv vs) {i : Int} (hi : x.is i) : (x.shows i).length = 64 := by
  obtain ⟨gw, cw, v, -, -, -, hR, -⟩ := h.at_ hi
  unfold Dk.shows
  cases hl : (x.waits i).getLast? with
  | some b => exact hR.2 b (List.mem_of_getLast? hl)
  | none =>
    have h1 := hi.1
    have h2 := hi.2
    rw [Option.getD_none, List.getD_eq_getElem?_getD, List.getElem?_eq_getElem (by omega)]
    exact h.st.2 _ (List.getElem_mem _)
theorem RDk.sv {F : Nat → Prop} {w : World} {d g : Nat} {x : Dk} {sv wv : Value} {vs : List Value} (h : RDk F w d g x sv wv vs) : ∃ gs cs, sv = .slice (some ⟨gs, 0, none⟩) x.stable.length cs := by
  obtain ⟨g, c, e, -⟩ := h.st.form (by have := h.n1; omega)
  exact ⟨g, c, e⟩
theorem ris_any {F : Nat → Prop} {d g : Nat} {x : Dk} {sv wv : Value} {vs : List Value} (i : Int) (w : World) (h : RDk F w d g x sv wv vs) :
    Calls Try.prog 52 #[.pointer (some ⟨d, 0, none⟩), .int .i64 i] w fun e w' => e = .returned (.bool (decide (x.is i))) ∧ w' = w := by
  obtain ⟨gs, cs, rfl⟩ := h.sv
  have c1 := h.blk.cell 1
  simp at c1
  clear h
  by_cases h0 : i < 0
  · have hd : decide (0 ≤ i) = false := decide_eq_false (by omega)
    have hx : decide (x.is i) = false := decide_eq_false fun e => by have := e.1; omega
    rw [hx]
    go_enter Try.func52, Try.ntmps52
    go_wp2
    go_ret
    exact ⟨rfl, rfl⟩
  · have hd : decide (0 ≤ i) = true := decide_eq_true (by omega)
    have hx : decide (x.is i) = decide (i < (x.stable.length : Int)) := by
      by_cases h1 : i < (x.stable.length : Int)
      · rw [decide_eq_true h1, decide_eq_true (show x.is i from ⟨by omega, h1⟩)]
      · rw [decide_eq_false h1, decide_eq_false fun e => h1 e.2]
    rw [hx]
    clear hx
    go_enter Try.func52, Try.ntmps52
    go_wp2
    go_ret
    first | exact ⟨rfl, rfl⟩ | (refine ⟨?_, rfl⟩; simp)
set_option maxRecDepth 100000 in
set_option maxHeartbeats 2000000 in
theorem rread_any {F : Nat → Prop} {d g : Nat} {x : Dk} {sv wv : Value} {vs : List Value} (i : Int) (w : World) (h : RDk F w d g x sv wv vs) (hw : x.writes ≤ 1000000) :
    Calls Try.prog 31 #[.pointer (some ⟨d, 0, none⟩), .int .i64 i] w fun e w' => e = .returned (.tuple #[blkV (if x.is i then x.shows i else zeroB), .int .i64 (if x.is i then 0 else 2)]) ∧ Below w.heap.size w w' := by
  obtain ⟨w1, hw1⟩ : ∃ w1, w1 = w.alloc (.cells (bytes zeroB).toArray 32) := ⟨_, rfl⟩
  have hb1 : Below w.heap.size w w1 := by rw [hw1]; exact (Below.refl _ _).alloc (Nat.le_refl _) _
  have hD1 := h.turn (Turn.of_below (S := fun _ => False) hb1) fun _ _ => id
  have HB1 := Lib.hid hb1
  have hV1 : Var w1 w.heap.size zeroB := by rw [hw1]; exact Var.new _ zero_len
  have HIs := Lib.hid (ris_any i w1 hD1)
  clear h
  go_enter Try.func31, Try.ntmps31
  go_upto_region 1 with (fail)
  change Code.wp _ _ _ _ (World.alloc w (.cells (bytes zeroB).toArray 32))
  rw [← hw1]
  obtain ⟨b1, hb1e⟩ : ∃ b1, b1 = w.heap.size := ⟨_, rfl⟩
  rw [← hb1e] at hV1 ⊢
  have HV1 := Lib.hid hV1
  have HTh := Lib.hid hV1.there
  have hbl : w.heap.size ≤ b1 := Nat.le_of_eq hb1e.symm
  clear hw1 hb1 hV1 hb1e
  by_cases hi : x.is i
  · have hsl := hD1.shows_len hi
    obtain ⟨gw, cw, v, rfl, hv, hcv, hR, -, -⟩ := hD1.at_ hi
    have c1 := hD1.blk.cell 1
    have c2 := hD1.blk.cell 2
    simp at c1 c2
    obtain ⟨gs, cs, rfl⟩ := hD1.sv
    obtain ⟨hi0, hi1⟩ := hi
    have hi : x.is i := ⟨hi0, hi1⟩
    have hln := hD1.cnt.2 i
    rw [decide_eq_true hi] at HIs
    obtain ⟨sb, hsb⟩ : ∃ sb, x.shows i = sb := ⟨_, rfl⟩
    rw [hsb] at hsl
    have HE := Lib.hid (show blkV (if x.is i then x.shows i else zeroB) = blkV sb ∧ (if x.is i then (0 : Int) else 2) = 0 from by rw [if_pos hi, if_pos hi, hsb]; exact ⟨rfl, rfl⟩)
    have HSb := Lib.hid hsb
    unfold Dk.shows at hsb
    by_cases hL : x.waits i = []
    · have hsx : x.stable[i.toNat]? = some sb := by
        rw [hL] at hsb
        have hlt : i.toNat < x.stable.length := by omega
        simp [List.getD_eq_getElem?_getD, hlt] at hsb
        rw [List.getElem?_eq_getElem hlt, hsb]
      have HRg := Lib.hid (hD1.st.range hsx)
      rw [hL] at hR
      obtain ⟨A, c, rfl, -, -⟩ := hR.shape
      clear hD1 hsx hsb hR hv hL
      go_wp2_with fail
      refine HIs.out.mono ?_
      rintro e w2 ⟨rfl, rfl⟩
      go_wp2_with (first | (refine wl_load32 HRg hsl _ rfl rfl rfl ?_) | (refine wl_store32 HTh hsl _ _ rfl rfl rfl rfl ?_))
      exact bodyPost_ret (v := .tuple #[blkV sb, .int .i64 0]) (res_blk2 (p := 4) (u := 5) rfl (HV1.out.set hsl) rfl rfl) rfl ⟨by first | rfl | rw [HSb.out] | rw [HE.out.1, HE.out.2], var_set_below HB1.out hbl HB1.out.size _⟩
    · have hpos : 0 < (x.waits i).length := List.length_pos_iff.2 hL
      obtain ⟨g3, c3, rfl, hn3, hm3, -⟩ := hR.form hpos
      generalize hwt : x.waits i = L at *
      have hlast : L[L.length - 1]? = some sb := by
        rw [List.getLast?_eq_getElem?, List.getElem?_eq_getElem (by omega)] at hsb
        rw [List.getElem?_eq_getElem (by omega)]
        simpa using hsb
      have HRg := Lib.hid (hR.range hlast)
      have ew : IntKind.i64.wrap ((L.length : Int) - 1) = (L.length : Int) - 1 := IntWalk.i64_in _ (by omega) |>.trans rfl
      have en : ((L.length : Int) - 1).toNat = L.length - 1 := by omega
      have hd0 : decide (0 < (L.length : Int)) = true := decide_eq_true (by omega)
      clear hD1 hsb hR hv hL hlast hwt
      go_wp2_with fail
      refine HIs.out.mono ?_
      rintro e w2 ⟨rfl, rfl⟩
      go_wp2_with (first | (refine wl_load32 HRg hsl _ rfl rfl rfl ?_) | (refine wl_store32 HTh hsl _ _ rfl rfl rfl rfl ?_))
      exact bodyPost_ret (v := .tuple #[blkV sb, .int .i64 0]) (res_blk2 (p := 4) (u := 5) rfl (HV1.out.set hsl) rfl rfl) rfl ⟨by first | rfl | rw [HSb.out] | rw [HE.out.1, HE.out.2], var_set_below HB1.out hbl HB1.out.size _⟩
  · rw [decide_eq_false hi] at HIs
    clear hD1
    go_wp2_with fail
    refine HIs.out.mono ?_
    rintro e w2 ⟨rfl, rfl⟩
    go_wp2_with (first | (refine wl_store32 (b := zeroB) HTh zero_len _ _ rfl rfl rfl rfl ?_))
    exact bodyPost_ret (v := .tuple #[blkV zeroB, .int .i64 2]) (res_blk2 (p := 4) (u := 5) rfl (HV1.out.set zero_len) rfl rfl) rfl ⟨by first | rfl | rw [if_neg hi, if_neg hi], var_set_below HB1.out hbl HB1.out.size _⟩
end Go.Proofs.Ytnbppfhnagacfaa
