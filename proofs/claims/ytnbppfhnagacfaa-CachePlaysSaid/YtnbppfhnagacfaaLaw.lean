/- CacheShows, the plain law: a cache whose disk has power always tells what was put there last. No program in sight. -/
import Derived.Test.YtnbppfhnagacfaaFor
namespace Go.Proofs.Ytnbppfhnagacfaa
open Go.RowKit
set_option linter.unusedVariables false

theorem shows_write (x : Dk) (i k : Int) (b : List Int) : (x.write i b).shows k = if k = i then b else x.shows k := by
  unfold Dk.shows Dk.write
  by_cases e : k = i
  · subst e; simp
  · simp [e]
theorem shows_force (x : Dk) (i k : Int) (b : List Int) (hi : x.is i) (hk : 0 ≤ k) : (x.force i b).shows k = if k = i then b else x.shows k := by
  unfold Dk.shows Dk.force
  obtain ⟨h1, h2⟩ := hi
  by_cases e : k = i
  · subst e
    have : k.toNat < x.stable.length := by omega
    simp [this]
  · have : ¬ i.toNat = k.toNat := by omega
    simp [e, List.getD_eq_getElem?_getD, this]

structure Good (a : CA) (last : Int → List Int) (n : Int) : Prop where
  s : a.s = none
  len : a.x.stable.length = 6
  link : Link a.os a.m
  sz : 1 ≤ a.size ∧ a.size ≤ 8
  ol : (a.os.length : Int) ≤ a.size
  pin : ∀ k h, a.m k = some h → h.pins = 0
  inr : ∀ k h, a.m k = some h → 0 ≤ k ∧ k < 6
  val : ∀ k h, a.m k = some h → h.b = last k ∧ (h.ch = false → a.x.shows k = last k)
  dsk : ∀ k, 0 ≤ k → k < 6 → a.m k = none → a.x.shows k = last k
  bd : a.x.writes ≤ n ∧ a.hits ≤ n ∧ a.misses ≤ n
def upl (last : Int → List Int) (i : Int) (b : List Int) : Int → List Int := fun k => if k = i then b else last k

theorem Good.is {a : CA} {last : Int → List Int} {n : Int} (h : Good a last n) {i : Int} (h0 : 0 ≤ i) (h1 : i < 6) : a.x.is i := ⟨h0, by have := h.len; omega⟩
theorem Good.mono {a : CA} {last : Int → List Int} {n n' : Int} (h : Good a last n) (hn : n ≤ n') : Good a last n' := { h with bd := ⟨by have := h.bd.1; omega, by have := h.bd.2.1; omega, by have := h.bd.2.2; omega⟩ }
theorem Good.congr {a : CA} {last last' : Int → List Int} {n : Int} (h : Good a last n) (he : ∀ k, 0 ≤ k → k < 6 → last k = last' k) : Good a last' n :=
  { h with
    val := fun k x hk => by
      obtain ⟨h0, h1⟩ := h.inr k x hk
      rw [← he k h0 h1]
      exact h.val k x hk
    dsk := fun k h0 h1 hk => by
      rw [← he k h0 h1]
      exact h.dsk k h0 h1 hk }
theorem Good.code {a : CA} {last : Int → List Int} {n : Int} (h : Good a last n) {i : Int} (h0 : 0 ≤ i) (h1 : i < 6) : codeO a.x a.s i = 0 ∧ supO a.x a.s i = none := by
  unfold codeO supO
  rw [if_pos (h.is h0 h1), if_pos (h.is h0 h1), h.s]
  exact ⟨rfl, rfl⟩

theorem Good.wr {a : CA} {last : Int → List Int} {n : Int} (h : Good a last n) {i : Int} {hd : Hd} (hi : a.m i = some hd) :
    (wrR a i).1 = 0 ∧ Good (wrR a i).2 last (n + 1) ∧ (wrR a i).2.os = a.os ∧ (wrR a i).2.m i = some ⟨hd.b, false, hd.pins⟩ ∧ ∀ k, k ≠ i → (wrR a i).2.m k = a.m k := by
  obtain ⟨h0, h1⟩ := h.inr i hd hi
  obtain ⟨c1, c2⟩ := h.code h0 h1
  have hio : i ∈ a.os := (h.link.iff i).2 (by rw [hi]; rfl)
  obtain ⟨v1, v2⟩ := h.val i hd hi
  have hb := h.bd
  unfold wrR
  rw [hi]
  simp only
  by_cases hc : hd.ch = true
  · rw [if_pos hc, if_pos c1]
    refine ⟨rfl, ?_, rfl, updm_same _ _ _, fun k hk => updm_other _ _ hk⟩
    exact
      { s := c2
        len := h.len
        link := h.link.upd hio _
        sz := h.sz
        ol := h.ol
        pin := fun k x hk => by
          have hk' : updm a.m i _ k = some x := hk
          by_cases e : k = i
          · rw [e, updm_same] at hk'
            obtain rfl := Option.some.inj hk'
            exact h.pin i hd hi
          · rw [updm_other _ _ e] at hk'
            exact h.pin k x hk'
        inr := fun k x hk => by
          have hk' : updm a.m i _ k = some x := hk
          by_cases e : k = i
          · rw [e]; exact ⟨h0, h1⟩
          · rw [updm_other _ _ e] at hk'
            exact h.inr k x hk'
        val := fun k x hk => by
          have hk' : updm a.m i _ k = some x := hk
          show x.b = last k ∧ (x.ch = false → (a.x.write i hd.b).shows k = last k)
          rw [shows_write]
          by_cases e : k = i
          · rw [e, updm_same] at hk'
            obtain rfl := Option.some.inj hk'
            rw [e, if_pos rfl]
            exact ⟨v1, fun _ => v1⟩
          · rw [updm_other _ _ e] at hk'
            rw [if_neg e]
            exact h.val k x hk'
        dsk := fun k k0 k1 hk => by
          have hk' : updm a.m i _ k = none := hk
          show (a.x.write i hd.b).shows k = last k
          rw [shows_write]
          by_cases e : k = i
          · rw [e, updm_same] at hk'
            cases hk'
          · rw [updm_other _ _ e] at hk'
            rw [if_neg e]
            exact h.dsk k k0 k1 hk'
        bd := ⟨by show a.x.writes + 1 ≤ n + 1; omega, by show a.hits ≤ _; omega, by show a.misses ≤ _; omega⟩ }
  · rw [if_neg hc]
    have hcf : hd.ch = false := by simpa using hc
    refine ⟨rfl, h.mono (by omega), rfl, ?_, fun k _ => rfl⟩
    show a.m i = _
    rw [hi]
    obtain ⟨b, ch, p⟩ := hd
    simp only at hcf
    rw [hcf]
theorem Good.room' {a : CA} {last : Int → List Int} {n : Int} (h : Good a last n) :
    (roomR a.size a.os a.m a.x a.s).code = 0 ∧ Good { a with os := (roomR a.size a.os a.m a.x a.s).os, m := (roomR a.size a.os a.m a.x a.s).m, x := (roomR a.size a.os a.m a.x a.s).x, s := (roomR a.size a.os a.m a.x a.s).s } last (n + 1) ∧ ((roomR a.size a.os a.m a.x a.s).os.length : Int) + 1 ≤ a.size := by
  unfold roomR
  by_cases hs : (a.os.length : Int) < a.size
  · rw [if_pos hs]
    exact ⟨rfl, h.mono (by omega), by show (a.os.length : Int) + 1 ≤ a.size; omega⟩
  · rw [if_neg hs]
    have hsz := h.sz.1
    have hol := h.ol
    have hlen : 0 < a.os.length := by omega
    obtain ⟨v, hv⟩ : ∃ v, a.os[a.os.length - 1]? = some v := ⟨_, List.getElem?_eq_getElem (by omega)⟩
    have hvm : v ∈ a.os := List.mem_of_getElem? hv
    obtain ⟨hd, hm⟩ : ∃ hd, a.m v = some hd := Option.isSome_iff_exists.1 ((h.link.iff v).1 hvm)
    have hpn : pinB a.m v = false := by unfold pinB; rw [hm]; exact decide_eq_false (by rw [h.pin v hd hm]; decide)
    have hvic : vic a.os a.m = some v := vic_at hv hpn fun j q hj hq => by
      rw [List.getElem?_eq_none (by omega)] at hq
      cases hq
    obtain ⟨h0, h1⟩ := h.inr v hd hm
    obtain ⟨c1, c2⟩ := h.code h0 h1
    obtain ⟨v1, v2⟩ := h.val v hd hm
    have hb := h.bd
    have hcode : (if hd.ch = true then codeO a.x a.s v else 0) = 0 := by
      split
      · exact c1
      · rfl
    have hle : (a.os.erase v).length = a.os.length - 1 := List.length_erase_of_mem hvm
    have e : roomV a.os a.m a.x a.s = ⟨0, a.os.erase v, delm a.m v, if hd.ch then a.x.write v hd.b else a.x, if hd.ch then supO a.x a.s v else a.s⟩ := by
      unfold roomV
      rw [hvic]
      simp only [hm, Option.getD_some]
      rw [if_pos hcode]
    rw [e]
    have hdel : ∀ k x, delm a.m v k = some x → k ≠ v ∧ a.m k = some x := fun k x hk => by
      unfold delm at hk
      by_cases e : k = v
      · rw [if_pos e] at hk; cases hk
      · rw [if_neg e] at hk; exact ⟨e, hk⟩
    refine ⟨rfl, ?_, by show ((a.os.erase v).length : Int) + 1 ≤ a.size; omega⟩
    exact
      { s := by
          show (if hd.ch = true then supO a.x a.s v else a.s) = none
          split
          · exact c2
          · exact h.s
        len := by
          show (if hd.ch = true then a.x.write v hd.b else a.x).stable.length = 6
          split
          · exact h.len
          · exact h.len
        link := h.link.erase v
        sz := h.sz
        ol := by show ((a.os.erase v).length : Int) ≤ a.size; omega
        pin := fun k x hk => h.pin k x (hdel k x hk).2
        inr := fun k x hk => h.inr k x (hdel k x hk).2
        val := fun k x hk => by
          obtain ⟨g1, g2⟩ := h.val k x (hdel k x hk).2
          refine ⟨g1, fun hc => ?_⟩
          show (if hd.ch = true then a.x.write v hd.b else a.x).shows k = last k
          split
          · rw [shows_write, if_neg (hdel k x hk).1]; exact g2 hc
          · exact g2 hc
        dsk := fun k k0 k1 hk => by
          show (if hd.ch = true then a.x.write v hd.b else a.x).shows k = last k
          by_cases e : k = v
          · subst e
            by_cases hc : hd.ch = true
            · rw [if_pos hc, shows_write, if_pos rfl]; exact v1
            · rw [if_neg hc]; exact v2 (by simpa using hc)
          · have hk' : a.m k = none := by
              have : delm a.m v k = none := hk
              unfold delm at this
              rwa [if_neg e] at this
            split
            · rw [shows_write, if_neg e]; exact h.dsk k k0 k1 hk'
            · exact h.dsk k k0 k1 hk'
        bd := ⟨by
          show (if hd.ch = true then a.x.write v hd.b else a.x).writes ≤ n + 1
          split
          · show a.x.writes + 1 ≤ n + 1; omega
          · omega, by show a.hits ≤ _; omega, by show a.misses ≤ _; omega⟩ }
theorem Good.hold {a : CA} {last : Int → List Int} {n : Int} (h : Good a last n) {i : Int} (h0 : 0 ≤ i) (h1 : i < 6) :
    (holdR a i).1 = 0 ∧ Good (holdR a i).2 last (n + 1) ∧ ∃ hd, (holdR a i).2.m i = some hd := by
  unfold holdR
  rw [if_neg (fun e => e (h.is h0 h1))]
  have hb := h.bd
  cases hm : a.m i with
  | some hd =>
    have hio : i ∈ a.os := (h.link.iff i).2 (by rw [hm]; rfl)
    have hpos : 0 < a.os.length := List.length_pos_of_mem hio
    refine ⟨rfl, ?_, hd, hm⟩
    exact { h with
      link := h.link.front hio
      ol := by
        show ((i :: a.os.erase i).length : Int) ≤ a.size
        rw [List.length_cons, List.length_erase_of_mem hio]
        have := h.ol
        omega
      bd := ⟨by show a.x.writes ≤ _; omega, by show a.hits + 1 ≤ _; omega, by show a.misses ≤ _; omega⟩ }
  | none =>
    obtain ⟨r1, r2, r3⟩ := h.room'
    have hnone := room_none (size := a.size) (os := a.os) (m := a.m) (x := a.x) (s := a.s) hm
    dsimp only
    generalize roomR a.size a.os a.m a.x a.s = R at *
    obtain ⟨code, ros, rm, rx, rs⟩ := R
    simp only at r1 r2 r3 hnone ⊢
    rw [if_pos r1]
    refine ⟨rfl, ?_, _, updm_same _ _ _⟩
    have hsh : rx.shows i = last i := r2.dsk i h0 h1 hnone
    have q := r2.bd
    simp only at q
    exact
      { s := r2.s
        len := r2.len
        link := r2.link.add hnone _
        sz := h.sz
        ol := by show ((i :: ros).length : Int) ≤ a.size; rw [List.length_cons]; omega
        pin := fun k x hk => by
          have hk' : updm rm i _ k = some x := hk
          by_cases e : k = i
          · rw [e, updm_same] at hk'
            obtain rfl := Option.some.inj hk'
            rfl
          · rw [updm_other _ _ e] at hk'
            exact r2.pin k x hk'
        inr := fun k x hk => by
          have hk' : updm rm i _ k = some x := hk
          by_cases e : k = i
          · rw [e]; exact ⟨h0, h1⟩
          · rw [updm_other _ _ e] at hk'
            exact r2.inr k x hk'
        val := fun k x hk => by
          have hk' : updm rm i _ k = some x := hk
          by_cases e : k = i
          · rw [e, updm_same] at hk'
            obtain rfl := Option.some.inj hk'
            rw [e]
            exact ⟨hsh, fun _ => hsh⟩
          · rw [updm_other _ _ e] at hk'
            exact r2.val k x hk'
        dsk := fun k k0 k1 hk => by
          have hk' : updm rm i _ k = none := hk
          by_cases e : k = i
          · rw [e, updm_same] at hk'
            cases hk'
          · rw [updm_other _ _ e] at hk'
            exact r2.dsk k k0 k1 hk'
        bd := ⟨q.1, by show a.hits ≤ _; omega, by show a.misses + 1 ≤ _; omega⟩ }
theorem Good.getB {a : CA} {last : Int → List Int} {n : Int} (h : Good a last n) {i : Int} {hd : Hd} (hm : a.m i = some hd) : getB a i = last i := by
  unfold Ytnbppfhnagacfaa.getB
  rw [hm]
  exact (h.val i hd hm).1
theorem Good.setv {a : CA} {last : Int → List Int} {n : Int} (h : Good a last n) {i : Int} {hd : Hd} (hm : a.m i = some hd) (b : List Int) (c : Bool) (hc : c = false → a.x.shows i = b) : Good (setA a i ⟨b, c, pinsOf a i⟩) (upl last i b) n := by
  have hio : i ∈ a.os := (h.link.iff i).2 (by rw [hm]; rfl)
  obtain ⟨h0, h1⟩ := h.inr i hd hm
  have hp : pinsOf a i = 0 := by unfold pinsOf; rw [hm]; exact h.pin i hd hm
  exact
    { s := h.s
      len := h.len
      link := h.link.upd hio _
      sz := h.sz
      ol := h.ol
      pin := fun k x hk => by
        have hk' : updm a.m i _ k = some x := hk
        by_cases e : k = i
        · rw [e, updm_same] at hk'
          obtain rfl := Option.some.inj hk'
          exact hp
        · rw [updm_other _ _ e] at hk'
          exact h.pin k x hk'
      inr := fun k x hk => by
        have hk' : updm a.m i _ k = some x := hk
        by_cases e : k = i
        · rw [e]; exact ⟨h0, h1⟩
        · rw [updm_other _ _ e] at hk'
          exact h.inr k x hk'
      val := fun k x hk => by
        have hk' : updm a.m i _ k = some x := hk
        show x.b = upl last i b k ∧ (x.ch = false → a.x.shows k = upl last i b k)
        unfold upl
        by_cases e : k = i
        · rw [e, updm_same] at hk'
          obtain rfl := Option.some.inj hk'
          rw [e, if_pos rfl]
          exact ⟨rfl, hc⟩
        · rw [updm_other _ _ e] at hk'
          rw [if_neg e]
          exact h.val k x hk'
      dsk := fun k k0 k1 hk => by
        have hk' : updm a.m i _ k = none := hk
        by_cases e : k = i
        · rw [e, updm_same] at hk'
          cases hk'
        · rw [updm_other _ _ e] at hk'
          show a.x.shows k = upl last i b k
          unfold upl
          rw [if_neg e]
          exact h.dsk k k0 k1 hk'
      bd := h.bd }
theorem Good.put {a : CA} {last : Int → List Int} {n : Int} (h : Good a last n) {i : Int} (h0 : 0 ≤ i) (h1 : i < 6) (b : List Int) : (putR a i b).1 = 0 ∧ Good (putR a i b).2 (upl last i b) (n + 1) := by
  obtain ⟨g1, g2, hd, hm⟩ := h.hold h0 h1
  unfold putR
  rw [if_pos g1]
  exact ⟨rfl, g2.setv hm b true fun e => by cases e⟩
theorem Good.dforce {a : CA} {last : Int → List Int} {n : Int} (h : Good a last n) {i : Int} {hd : Hd} (hm : a.m i = some hd) (b : List Int) : Good (setA (dforceA a i b) i ⟨b, false, pinsOf a i⟩) (upl last i b) (n + 1) := by
  have hio : i ∈ a.os := (h.link.iff i).2 (by rw [hm]; rfl)
  obtain ⟨h0, h1⟩ := h.inr i hd hm
  obtain ⟨c1, c2⟩ := h.code h0 h1
  have hp : pinsOf a i = 0 := by unfold pinsOf; rw [hm]; exact h.pin i hd hm
  have hx : (setA (dforceA a i b) i ⟨b, false, pinsOf a i⟩).x = a.x.force i b := by
    show (if codeO a.x a.s i = 0 then a.x.force i b else a.x) = _
    rw [if_pos c1]
  have hb := h.bd
  exact
    { s := c2
      len := by rw [hx]; show (a.x.stable.set i.toNat b).length = 6; rw [List.length_set]; exact h.len
      link := h.link.upd hio _
      sz := h.sz
      ol := h.ol
      pin := fun k x hk => by
        have hk' : updm a.m i _ k = some x := hk
        by_cases e : k = i
        · rw [e, updm_same] at hk'
          obtain rfl := Option.some.inj hk'
          exact hp
        · rw [updm_other _ _ e] at hk'
          exact h.pin k x hk'
      inr := fun k x hk => by
        have hk' : updm a.m i _ k = some x := hk
        by_cases e : k = i
        · rw [e]; exact ⟨h0, h1⟩
        · rw [updm_other _ _ e] at hk'
          exact h.inr k x hk'
      val := fun k x hk => by
        have hk' : updm a.m i _ k = some x := hk
        rw [hx]
        unfold upl
        by_cases e : k = i
        · rw [e, updm_same] at hk'
          obtain rfl := Option.some.inj hk'
          rw [e, shows_force _ _ _ _ (h.is h0 h1) h0, if_pos rfl, if_pos rfl]
          exact ⟨rfl, fun _ => rfl⟩
        · rw [updm_other _ _ e] at hk'
          rw [shows_force _ _ _ _ (h.is h0 h1) (h.inr k x hk').1, if_neg e, if_neg e]
          exact h.val k x hk'
      dsk := fun k k0 k1 hk => by
        have hk' : updm a.m i _ k = none := hk
        rw [hx, shows_force _ _ _ _ (h.is h0 h1) k0]
        by_cases e : k = i
        · rw [e, updm_same] at hk'
          cases hk'
        · rw [updm_other _ _ e] at hk'
          unfold upl
          rw [if_neg e, if_neg e]
          exact h.dsk k k0 k1 hk'
      bd := ⟨by rw [hx]; show a.x.writes + 1 ≤ n + 1; omega, by show a.hits ≤ _; omega, by show a.misses ≤ _; omega⟩ }
theorem Good.force {a : CA} {last : Int → List Int} {n : Int} (h : Good a last n) {i : Int} (h0 : 0 ≤ i) (h1 : i < 6) (b : List Int) : (forceR a i b).1 = 0 ∧ Good (forceR a i b).2 (upl last i b) (n + 2) := by
  obtain ⟨g1, g2, hd, hm⟩ := h.hold h0 h1
  unfold forceR
  rw [if_pos g1, if_pos (g2.code h0 h1).1]
  exact ⟨rfl, (g2.dforce hm b).mono (by omega)⟩
theorem Good.back {a : CA} {last : Int → List Int} {n : Int} (h : Good a last n) (i : Int) : Good (backR a i).2 last (n + 1) := by
  unfold backR
  split
  · rename_i hs
    obtain ⟨hd, hm⟩ := Option.isSome_iff_exists.1 hs
    exact (h.wr hm).2.1
  · exact h.mono (by omega)
theorem Good.syncL {last : Int → List Int} : ∀ (l : List Int) {a : CA} {n : Int}, Good a last n → (∀ i ∈ l, (a.m i).isSome = true) →
    (syncL l a).1 = 0 ∧ Good (syncL l a).2 last (n + l.length) ∧ (syncL l a).2.os = a.os ∧ ∀ k, chB (syncL l a).2.m k = (chB a.m k && !decide (k ∈ l))
  | [], a, n, h, hl => ⟨rfl, by simpa [Ytnbppfhnagacfaa.syncL] using h, rfl, fun k => by simp [Ytnbppfhnagacfaa.syncL]⟩
  | i :: l, a, n, h, hl => by
    obtain ⟨hd, hm⟩ := Option.isSome_iff_exists.1 (hl i (by simp))
    obtain ⟨w1, w2, w3, w4, w5⟩ := h.wr hm
    have hl' : ∀ j ∈ l, ((wrR a i).2.m j).isSome = true := fun j hj => by
      by_cases e : j = i
      · rw [e, w4]; rfl
      · rw [w5 j e]; exact hl j (List.mem_cons_of_mem _ hj)
    obtain ⟨r1, r2, r3, r4⟩ := Good.syncL l w2 hl'
    unfold Ytnbppfhnagacfaa.syncL
    rw [if_pos w1]
    refine ⟨r1, r2.mono (by rw [List.length_cons]; omega), r3.trans w3, fun k => ?_⟩
    rw [r4]
    by_cases e : k = i
    · subst e
      have : chB (wrR a k).2.m k = false := by unfold chB; rw [w4]
      rw [this]
      simp
    · have : chB (wrR a i).2.m k = chB a.m k := by unfold chB; rw [w5 k e]
      rw [this]
      simp [e]
theorem Good.sync {a : CA} {last : Int → List Int} {n : Int} (h : Good a last n) :
    (syncR a).1 = 0 ∧ Good (syncR a).2 last (n + 8) ∧ chs (syncR a).2 = [] ∧ ∀ k, 0 ≤ k → k < 6 → (syncR a).2.x.shows k = last k := by
  have hall : ∀ i ∈ sorted (chs a), (a.m i).isSome = true := fun x hx => (h.link.iff x).1 (chs_mem (sorted_mem hx)).1
  obtain ⟨r1, r2, r3, r4⟩ := Good.syncL (sorted (chs a)) h hall
  have hl : ((sorted (chs a)).length : Int) ≤ 8 := by
    rw [sorted_len]
    have h1 := List.length_filter_le (chB a.m) a.os
    have h2 := h.ol
    have h3 := h.sz
    unfold chs
    omega
  have hch : ∀ k ∈ a.os, chB (syncR a).2.m k = false := fun k hk => by
    have := r4 k
    show chB (Ytnbppfhnagacfaa.syncL (sorted (chs a)) a).2.m k = false
    rw [this]
    cases hc : chB a.m k with
    | false => rfl
    | true =>
      have : k ∈ sorted (chs a) := (List.mem_mergeSort (le := fun x y => decide (x ≤ y))).2 (List.mem_filter.2 ⟨hk, hc⟩)
      simp [this]
  refine ⟨r1, r2.mono (by omega), ?_, fun k k0 k1 => ?_⟩
  · unfold chs
    refine List.filter_eq_nil_iff.2 fun k hk => ?_
    have hk' : k ∈ a.os := by
      have : (syncR a).2.os = a.os := r3
      rwa [this] at hk
    rw [hch k hk']
    decide
  · cases hm : (syncR a).2.m k with
    | none => exact r2.dsk k k0 k1 hm
    | some hd =>
      have hk' : k ∈ a.os := by
        have e : (syncR a).2.os = a.os := r3
        rw [← e]
        exact (r2.link.iff k).2 (by show ((syncR a).2.m k).isSome = true; rw [hm]; rfl)
      have := hch k hk'
      unfold chB at this
      rw [hm] at this
      exact (r2.val k hd hm).2 this
theorem Good.fresh {size : Int} (h : 1 ≤ size ∧ size ≤ 8) : Good (freshC size (freshD 6) none) (fun _ => zeroB) 0 :=
  { s := rfl
    len := rfl
    link := ⟨List.nodup_nil, fun k => by show k ∈ [] ↔ (none : Option Hd).isSome = true; simp⟩
    sz := h
    ol := by show (0 : Int) ≤ size; omega
    pin := fun k x hk => by cases hk
    inr := fun k x hk => by cases hk
    val := fun k x hk => by cases hk
    dsk := fun k k0 k1 hk => by
      have e : (List.replicate 6 zeroB)[k.toNat]? = some zeroB := by rw [List.getElem?_replicate, if_pos (by omega)]
      show (List.replicate 6 zeroB).getD k.toNat zeroB = zeroB
      rw [List.getD_eq_getElem?_getD, e]
      rfl
    bd := ⟨Int.le_refl _, Int.le_refl _, Int.le_refl _⟩ }
theorem Good.rm {a : CA} {last : Int → List Int} {n : Int} (h : Good a last n) (hn : n ≤ 10000) : Room a ∧ a.x.writes < 800000 ∧ usedO a.s < 900000000 ∧ a.os.length ≤ 1000 := by
  have h1 := h.bd
  have h2 := h.ol
  have h3 := h.sz
  refine ⟨⟨by omega, by omega, by omega, by omega, fun s' hs => by rw [h.s] at hs; cases hs⟩, by omega, ?_, by omega⟩
  rw [h.s]
  decide
end Go.Proofs.Ytnbppfhnagacfaa
