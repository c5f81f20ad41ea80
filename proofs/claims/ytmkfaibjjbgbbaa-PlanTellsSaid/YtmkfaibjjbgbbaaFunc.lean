/- A function value handed to slices.ContainsFunc: whatever it captured, by what it answers. -/
import Derived.Test.YtmkfaibjjbgbbaaPat
import Derived.Shelf.Abstract
namespace Go.Proofs.Ytmkfaibjjbgbbaa
open Go.RowKit
set_option linter.unusedVariables false

/-- Function g with what it captured answers p x, for every x that is asked, in every later world; it may lay blocks. -/
def Tells (g : Nat) (lb : Array Value) (dom : Int → Prop) (p : Int → Bool) (w : World) : Prop :=
  ∀ (W : World) (x : Int), dom x → Below w.heap.size w W → Calls Try.prog g (#[.int .i64 x] ++ lb) W fun e w' => e = .returned (.bool (p x)) ∧ Below W.heap.size W w'

theorem any_take_on {l : List Int} {p : Int → Bool} {k : Nat} {x : Int} (h : l[k]? = some x) (h0 : (l.take k).any p = false) (hp : p x = false) : (l.take (k + 1)).any p = false := by
  rw [List.take_add_one, h, List.any_append, h0]
  simpa using hp

set_option maxHeartbeats 400000 in
theorem indexFunc_any (v : Value) (l : List Int) (g : Nat) (lb : Array Value) (p : Int → Bool) (w : World) (hv : Arr w 3 v (ints l)) (eg : ∀ args w, (callFunc g args).run Try.prog w = .ok (.enter g args) w)
    (hp : Tells g lb (· ∈ l) p w) :
    Calls Try.prog 90 #[v, .func (.func g) #[] lb] w fun e w' => ∃ i : Int, e = .returned (.int .i64 i) ∧ (0 ≤ i ↔ l.any p = true) ∧ Below w.heap.size w w' := by
  have HP := Lib.hid hp
  clear hp
  rcases hv with ⟨rfl, e2⟩ | ⟨gb, o, c, cs, rfl, h1, h2, hb, hc⟩
  · obtain rfl : l = [] := List.eq_nil_of_map_eq_nil e2
    go_enter Try.func90, Try.ntmps90
    go_wp2
    refine wp_loop_rounds 1 ?_
    rw [rounds_succ]
    go_wp2
    go_ret
    exact ⟨_, rfl, by simp, Below.refl _ _⟩
  have HBL := Lib.hid hb
  have HC := Lib.hid hc
  rw [ints_len] at h1 ⊢
  unfold maxLen at h2
  clear hb hc
  go_enter Try.func90, Try.ntmps90
  go_wp2
  go_loopw [8] (fun i wr => ∃ k : Nat, k ≤ l.length ∧ i = .int .i64 k ∧ Below w.heap.size w wr ∧ Hid ((l.take k).any p = false)) (fun i _ => l.length - (intOf i).toNat)
  case atStart => exact ⟨0, Nat.zero_le _, rfl, Below.refl _ _, by unfold Hid; simp⟩
  case round =>
    obtain ⟨k, hk, rfl, hbel, hT⟩ := hrel
    by_cases hlt : k < l.length
    · obtain ⟨x, hx⟩ : ∃ x, l[k]? = some x := ⟨_, List.getElem?_eq_getElem hlt⟩
      have hc1 : wr.cell? ⟨gb, o + k, none⟩ = some (.int .i64 x) := ((HBL.out.below hbel HBL.out.lt).cell (o + k)).trans (HC.out k _ (ints_at hx))
      have HB := Lib.hid hbel
      have HX := Lib.hid hx
      have hQ := fun W (h : Below w.heap.size w W) => HP.out W x (List.mem_of_getElem? hx) h
      clear hbel hx
      cases hpx : p x with
      | true =>
        rw [hpx] at hQ
        have HQ := Lib.hid hQ
        have HR := Lib.hid (show l.any p = true from List.any_eq_true.2 ⟨x, List.mem_of_getElem? HX.out, hpx⟩)
        clear hpx hQ
        go_wp2_with (go_at_fn g; refine (HQ.out _ HB.out).mono ?_; rintro e w1 ⟨rfl, hb1⟩)
        have HB1 := Lib.hid (HB.out.trans (hb1.mono HB.out.size))
        clear hb1
        go_ret
        exact ⟨_, rfl, by rw [HR.out]; simp, HB1.out⟩
      | false =>
        rw [hpx] at hQ
        have HQ := Lib.hid hQ
        have HR := Lib.hid hpx
        clear hpx hQ
        go_wp2_with (go_at_fn g; refine (HQ.out _ HB.out).mono ?_; rintro e w1 ⟨rfl, hb1⟩)
        have HB1 := Lib.hid (HB.out.trans (hb1.mono HB.out.size))
        clear hb1
        go_roundw
        case rel => exact ⟨k + 1, by omega, by go_num, HB1.out, any_take_on HX.out hT.out HR.out⟩
        case measure => simp [intOf]; omega
    · obtain rfl : k = l.length := by omega
      have HT := Lib.hid (show l.any p = false by have h := hT.out; rwa [List.take_length] at h)
      have HB := Lib.hid hbel
      clear hbel
      go_wp2
      go_ret
      exact ⟨_, rfl, by rw [HT.out]; simp, HB.out⟩

set_option maxHeartbeats 400000 in
theorem containsFunc_any (v : Value) (l : List Int) (g : Nat) (lb : Array Value) (p : Int → Bool) (w : World) (hv : Arr w 3 v (ints l)) (eg : ∀ args w, (callFunc g args).run Try.prog w = .ok (.enter g args) w)
    (hp : Tells g lb (· ∈ l) p w) :
    Calls Try.prog 54 #[v, .func (.func g) #[] lb] w fun e w' => e = .returned (.bool (l.any p)) ∧ Below w.heap.size w w' := by
  have HC := Lib.hid (indexFunc_any v l g lb p w hv eg hp)
  clear hv hp eg
  go_enter Try.func54, Try.ntmps54
  go_wp2_with fail
  refine HC.out.mono ?_
  rintro e w1 ⟨i, rfl, hi, hb⟩
  have HI := Lib.hid hi
  have HB := Lib.hid hb
  clear hi hb
  go_wp2_with fail
  go_ret
  refine ⟨?_, HB.out⟩
  have h1 : decide ((0 : Int) ≤ i) = l.any p := by
    rcases h : l.any p with _ | _
    · simp; have := HI.out; rw [h] at this; simp at this; exact this
    · simp; exact HI.out.2 h
  rw [← h1]
  rfl
end Go.Proofs.Ytmkfaibjjbgbbaa
