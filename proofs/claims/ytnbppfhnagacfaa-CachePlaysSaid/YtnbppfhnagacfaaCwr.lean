/- package cache: find, write. -/
import Derived.Test.YtnbppfhnagacfaaUse
namespace Go.Proofs.Ytnbppfhnagacfaa
open Go.RowKit
set_option linter.unusedVariables false
attribute [local go_sem ↓] Go.wp_at_zero Go.wp_at_succ

def updm (m : Int → Option Hd) (i : Int) (h : Hd) : Int → Option Hd := fun k => if k = i then some h else m k
theorem updm_same (m : Int → Option Hd) (i : Int) (h : Hd) : updm m i h i = some h := by unfold updm; rw [if_pos rfl]
theorem updm_other (m : Int → Option Hd) {i k : Int} (h : Hd) (e : k ≠ i) : updm m i h k = m k := by unfold updm; rw [if_neg e]
theorem Hd.size (h : Hd) (hb : h.b.length = 64) : h.cells.size = 66 := by simp [Hd.cells, bytes_len, hb]
theorem Hd.byte (h : Hd) (hb : h.b.length = 64) : ∀ (j : Nat) (v : Value), (bytes h.b)[j]? = some v → h.cells[j]? = some v := fun j v hv => by
  have hj := (List.getElem?_eq_some_iff.1 hv).1
  unfold Hd.cells
  rw [List.getElem?_toArray, List.getElem?_append_left hj]
  exact hv
theorem Hd.at64 (h : Hd) (hb : h.b.length = 64) : h.cells[64]? = some (.bool h.ch) ∧ h.cells[65]? = some (.int .i64 h.pins) := by
  have hl : (bytes h.b).length = 64 := by rw [bytes_len]; exact hb
  unfold Hd.cells
  constructor
  · rw [List.getElem?_toArray, List.getElem?_append_right (by omega), hl]; rfl
  · rw [List.getElem?_toArray, List.getElem?_append_right (by omega), hl]; rfl
theorem Hd.set64 (h : Hd) (hb : h.b.length = 64) (c : Bool) : h.cells.setIfInBounds 64 (.bool c) = (Hd.mk h.b c h.pins).cells := by
  have hl : (bytes h.b).length = 64 := by rw [bytes_len]; exact hb
  unfold Hd.cells
  rw [List.setIfInBounds_toArray, List.set_append_right _ _ (by omega), hl]
  rfl
theorem Hd.set65 (h : Hd) (hb : h.b.length = 64) (p : Int) : h.cells.setIfInBounds 65 (.int .i64 p) = (Hd.mk h.b h.ch p).cells := by
  have hl : (bytes h.b).length = 64 := by rw [bytes_len]; exact hb
  unfold Hd.cells
  rw [List.setIfInBounds_toArray, List.set_append_right _ _ (by omega), hl]
  rfl
theorem CacheIs.setHd {F : Nat → Prop} {w w' : World} {c d ml : Nat} {ov : Value} {hp : Int → Nat} {size : Int} {os : List Int} {m : Int → Option Hd} {cnt : Nat} {hits misses : Int} (h : CacheIs F w c d ml ov hp size os m cnt hits misses) {i : Int} {hd hd' : Hd} (hi : m i = some hd)
    (hT : Turn (fun j => j = hp i) w w') (hb : Blk w' (hp i) 81 hd'.cells) (hl : hd'.b.length = 64) (hpn : 0 ≤ hd'.pins ∧ hd'.pins ≤ 1000000) : CacheIs F w' c d ml ov hp size os (updm m i hd') cnt hits misses := by
  obtain ⟨g1, g2, g3, g4, g5⟩ := h.held i hd hi
  have hci : ¬ c = hp i := fun e => Blk.ne_ h.blk g1 (by decide) e
  have hmi : ¬ ml = hp i := fun e => h.map.is.not_blk g1 e
  have hoi : ∀ j, ov.ownBlock = some j → ¬ j = hp i := fun j hj e => by
    obtain ⟨cs, hc⟩ := h.ord.type j hj
    exact Blk.ne_ hc g1 (by decide) e
  have hf : (fun k => (updm m i hd' k).map fun _ => Value.pointer (some ⟨hp k, 0, none⟩)) = fun k => (m k).map fun _ => Value.pointer (some ⟨hp k, 0, none⟩) := by
    funext k
    by_cases e : k = i
    · subst e; rw [updm_same, hi]; rfl
    · rw [updm_other _ _ e]
  exact
    { blk := h.blk.turn hT hci
      ord := h.ord.turn hT hoi
      map := by rw [hf]; exact h.map.turn hT hmi
      held := fun k x hk => by
        by_cases e : k = i
        · subst e
          rw [updm_same] at hk
          obtain rfl := Option.some.inj hk
          exact ⟨hb, hl, g3, g4, hpn⟩
        · rw [updm_other _ _ e] at hk
          obtain ⟨h1, h2, h3, h4, h5⟩ := h.held k x hk
          exact ⟨h1.turn hT (fun e2 => e (h.inj k i x hd hk hi e2)), h2, h3, h4, h5⟩
      inj := fun k k' x x' hk hk' e => by
        have hs : ∀ q z, updm m i hd' q = some z → ∃ z', m q = some z' := fun q z hq => by
          by_cases e : q = i
          · subst e; exact ⟨_, hi⟩
          · rw [updm_other _ _ e] at hq; exact ⟨_, hq⟩
        obtain ⟨z, hz⟩ := hs k x hk
        obtain ⟨z', hz'⟩ := hs k' x' hk'
        exact h.inj k k' z z' hz hz' e
      num := h.num
      fc := h.fc
      fm := h.fm
      fo := h.fo
      lt := fun j hj => Nat.lt_of_lt_of_le (h.lt j hj) hT.size }
theorem zero75 : ∀ (w : World), (zeroValue 75).run Try.prog w = .ok (.pointer none) w := Try.zeroValue75

/-- What find tells. -/
def findV (m : Int → Option Hd) (hp : Int → Nat) (i : Int) : Value := ((m i).map fun _ => Value.pointer (some ⟨hp i, 0, none⟩)).getD (.pointer none)
set_option maxRecDepth 100000 in
set_option maxHeartbeats 1000000 in
theorem find_any {F : Nat → Prop} {c d ml : Nat} {ov : Value} {hp : Int → Nat} {size : Int} {os : List Int} {m : Int → Option Hd} {cnt : Nat} {hits misses : Int} (i : Int) (w : World) (h : CacheIs F w c d ml ov hp size os m cnt hits misses) (hk : (key i).wf = true) :
    Calls Try.prog 34 #[.pointer (some ⟨c, 0, none⟩), .int .i64 i] w fun e w' => e = .returned (.tuple #[findV m hp i, .int .i64 (if (m i).isSome then 0 else 5)]) ∧ w' = w := by
  have c2 := h.blk.cell 2
  simp at c2
  have hlk := h.map.is.look_ok Try.underlying71 (zero75 _) hk
  unfold findV
  cases hm : m i with
  | none =>
    rw [hm] at hlk
    simp only [Option.map_none, Option.getD_none, Option.isSome_none] at hlk
    clear h
    go_enter Try.func34, Try.ntmps34
    go_wp2
    go_ret2
    exact ⟨rfl, rfl⟩
  | some hd =>
    rw [hm] at hlk
    simp only [Option.map_some, Option.getD_some, Option.isSome_some] at hlk
    clear h
    go_enter Try.func34, Try.ntmps34
    go_wp2
    go_ret2
    exact ⟨rfl, rfl⟩
end Go.Proofs.Ytnbppfhnagacfaa
