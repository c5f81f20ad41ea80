/- package cache: hold, its states. -/
import Derived.Test.YtnbppfhnagacfaaRm
namespace Go.Proofs.Ytnbppfhnagacfaa
open Go.RowKit
set_option linter.unusedVariables false
attribute [local go_sem ↓] Go.wp_at_zero Go.wp_at_succ

theorem zero81 : Try.zeroCells81 = (Hd.mk zeroB false 0).cells := by rfl
theorem Link.add {os : List Int} {m : Int → Option Hd} (h : Link os m) {i : Int} (hi : m i = none) (hd : Hd) : Link (i :: os) (updm m i hd) := by
  have hn : i ∉ os := fun e => by have := (h.iff i).1 e; rw [hi] at this; cases this
  refine ⟨List.nodup_cons.2 ⟨hn, h.nd⟩, fun k => ?_⟩
  by_cases e : k = i
  · subst e; rw [updm_same]; simp
  · rw [updm_other _ _ e, ← h.iff k]; simp [e]
theorem Link.front {os : List Int} {m : Int → Option Hd} (h : Link os m) {i : Int} (hi : i ∈ os) : Link (i :: os.erase i) m := by
  refine ⟨List.nodup_cons.2 ⟨fun e => ((List.Nodup.mem_erase_iff h.nd).1 e).1 rfl, h.nd.erase i⟩, fun k => ?_⟩
  rw [← h.iff k, List.mem_cons, List.Nodup.mem_erase_iff h.nd]
  by_cases e : k = i
  · subst e; simp [hi]
  · simp [e]
theorem CacheIs.addHd {F F' : Nat → Prop} {w w' : World} {c d ml nb : Nat} {ov : Value} {hp : Int → Nat} {size : Int} {os : List Int} {m : Int → Option Hd} {cnt : Nat} {hits misses : Int} (h : CacheIs F w c d ml ov hp size os m cnt hits misses) {i : Int} {hd : Hd} (hi : m i = none)
    (hT : Turn (fun j => j = c ∨ j = ml) w w') (hb : Blk w' c 73 #[.pointer (some ⟨d, 0, none⟩), .int .i64 size, .map (some ml), ov, .int .i64 hits, .int .i64 (misses + 1)]) (hn : Blk w' nb 81 hd.cells) (hnb : w.heap.size ≤ nb) (hl : hd.b.length = 64) (hk : (key i).wf = true) (hpn : 0 ≤ hd.pins ∧ hd.pins ≤ 1000000) (hms : misses < 1000000)
    (hmap : MapN w' ml (misses + 1).toNat (upd (fun k => (m k).map fun _ => .pointer (some ⟨hp k, 0, none⟩)) i (some (.pointer (some ⟨nb, 0, none⟩)))) (cnt + 1))
    (hF : ∀ j, F j → F' j) (hFn : F' nb) (hlt : ∀ j, F' j → j < w'.heap.size) : CacheIs F' w' c d ml ov (fun k => if k = i then nb else hp k) size os (updm m i hd) (cnt + 1) hits (misses + 1) := by
  have hne : ∀ j t cs, t ≠ 73 → Blk w j t cs → ¬ (j = c ∨ j = ml) := fun j t cs ht hb' e => by
    rcases e with e | e
    · exact Blk.ne_ hb' h.blk ht e
    · exact h.map.is.not_blk hb' e.symm
  have hf : (fun k => (updm m i hd k).map fun _ => Value.pointer (some ⟨(fun k => if k = i then nb else hp k) k, 0, none⟩)) = upd (fun k => (m k).map fun _ => Value.pointer (some ⟨hp k, 0, none⟩)) i (some (.pointer (some ⟨nb, 0, none⟩))) := by
    funext k
    unfold updm upd
    by_cases e : k = i
    · simp [e]
    · simp [e]
  exact
    { blk := hb
      ord := h.ord.turn hT fun j hj => by obtain ⟨cs, hc⟩ := h.ord.type j hj; exact hne _ _ _ (by decide) hc
      map := by rw [hf]; exact hmap
      held := fun k x hk' => by
        by_cases e : k = i
        · rw [e, updm_same] at hk'
          obtain rfl := Option.some.inj hk'
          rw [e]
          show Blk w' (if i = i then nb else hp i) 81 _ ∧ _ ∧ _ ∧ F' (if i = i then nb else hp i) ∧ _
          rw [if_pos rfl]
          exact ⟨hn, hl, hk, hFn, hpn⟩
        · rw [updm_other _ _ e] at hk'
          obtain ⟨h1, h2, h3, h4, h5⟩ := h.held k x hk'
          show Blk w' (if k = i then nb else hp k) 81 _ ∧ _ ∧ _ ∧ F' (if k = i then nb else hp k) ∧ _
          rw [if_neg e]
          exact ⟨h1.turn hT (hne _ _ _ (by decide) h1), h2, h3, hF _ h4, h5⟩
      inj := fun k k' x x' hk' hk'' e => by
        have hlt' : ∀ q z, m q = some z → hp q < w.heap.size := fun q z hq => (h.held q z hq).1.lt
        by_cases e1 : k = i
        · by_cases e2 : k' = i
          · rw [e1, e2]
          · rw [updm_other _ _ e2] at hk''
            rw [if_pos e1, if_neg e2] at e
            have := hlt' k' x' hk''
            omega
        · rw [updm_other _ _ e1] at hk'
          by_cases e2 : k' = i
          · rw [if_neg e1, if_pos e2] at e
            have := hlt' k x hk'
            omega
          · rw [updm_other _ _ e2] at hk''
            rw [if_neg e1, if_neg e2] at e
            exact h.inj k k' x x' hk' hk'' e
      num := ⟨h.num.1, h.num.2.1, by have := h.num.2.2.1; omega, by omega, h.num.2.2.2.2⟩
      fc := hF _ h.fc
      fm := hF _ h.fm
      fo := fun j hj => hF _ (h.fo j hj)
      lt := hlt }
/-- A hit. -/
theorem CacheIs.hit {F : Nat → Prop} {w w' : World} {c d ml : Nat} {ov : Value} {hp : Int → Nat} {size : Int} {os : List Int} {m : Int → Option Hd} {cnt : Nat} {hits misses : Int} (h : CacheIs F w c d ml ov hp size os m cnt hits misses) (hh : hits < 1000000) (hT : Turn (fun j => j = c) w w')
    (hb : Blk w' c 73 #[.pointer (some ⟨d, 0, none⟩), .int .i64 size, .map (some ml), ov, .int .i64 (hits + 1), .int .i64 misses]) : CacheIs F w' c d ml ov hp size os m cnt (hits + 1) misses :=
  { blk := hb
    ord := h.ord.turn hT fun j hj e => by obtain ⟨cs, hc⟩ := h.ord.type j hj; exact Blk.ne_ hc h.blk (by decide) e
    map := h.map.turn hT fun e => h.map.is.not_blk h.blk e
    held := fun k x hk => by
      obtain ⟨h1, h2, h3, h4, h5⟩ := h.held k x hk
      exact ⟨h1.turn hT fun e => Blk.ne_ h1 h.blk (by decide) e, h2, h3, h4, h5⟩
    inj := h.inj
    num := ⟨by have := h.num.1; omega, by omega, h.num.2.2⟩
    fc := h.fc
    fm := h.fm
    fo := h.fo
    lt := fun j hj => Nat.lt_of_lt_of_le (h.lt j hj) hT.size }

/-- The whole: cache and disk, as one state. -/
structure CA where
  size : Int
  os : List Int
  m : Int → Option Hd
  hits : Int
  misses : Int
  x : Dk
  s : Option Sup
structure Mem (F : Nat → Prop) (w : World) (c d : Nat) (sp : Option Nat) (hp : Int → Nat) (a : CA) (Fc Fd : Nat → Prop) (ml : Nat) (ov : Value) : Prop where
  ca : CacheIs Fc w c d ml ov hp a.size a.os a.m a.os.length a.hits a.misses
  link : Link a.os a.m
  disk : Disk Fd w d sp a.x
  own : Own Fc Fd w sp a.s
  sub : ∀ j, Fc j ∨ Fd j → F j
  flt : ∀ j, F j → j < w.heap.size
  spf : ∀ g, sp = some g → ¬ F g
def St (F : Nat → Prop) (w : World) (c d : Nat) (sp : Option Nat) (hp : Int → Nat) (a : CA) : Prop := ∃ Fc Fd ml ov, Mem F w c d sp hp a Fc Fd ml ov
theorem St.turn {F S : Nat → Prop} {w w' : World} {c d : Nat} {sp : Option Nat} {hp : Int → Nat} {a : CA} (h : St F w c d sp hp a) (hT : Turn S w w') (hS : ∀ j, F j → ¬ S j) (hs : ∀ g, sp = some g → ¬ S g) : St F w' c d sp hp a := by
  obtain ⟨Fc, Fd, ml, ov, h⟩ := h
  exact ⟨Fc, Fd, ml, ov,
    { ca := h.ca.turn hT fun j hj => hS j (h.sub j (.inl hj))
      link := h.link
      disk := h.disk.turn hT fun j hj => hS j (h.sub j (.inr hj))
      own := { h.own with sup := h.own.sup.turn hT hs, splt := fun g hg => Nat.lt_of_lt_of_le (h.own.splt g hg) hT.size }
      sub := h.sub
      flt := fun j hj => Nat.lt_of_lt_of_le (h.flt j hj) hT.size
      spf := h.spf }⟩

/-- What hold does. -/
def holdR (a : CA) (i : Int) : Int × CA :=
  if ¬ a.x.is i then (2, a) else
  match a.m i with
  | some _ => (0, { a with hits := a.hits + 1, os := i :: a.os.erase i })
  | none =>
    let r := roomR a.size a.os a.m a.x a.s
    if r.code = 0 then (0, { a with os := i :: r.os, m := updm r.m i ⟨r.x.shows i, false, 0⟩, x := r.x, s := r.s, misses := a.misses + 1 }) else (r.code, { a with os := r.os, m := r.m, x := r.x, s := r.s })
end Go.Proofs.Ytnbppfhnagacfaa
