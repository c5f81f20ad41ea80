/- package cache: write at the whole's state; Back, Pin, Unpin, Counts, Drop. -/
import Derived.Test.YtnbppfhnagacfaaPut
import Derived.Test.YtnbppfhnagacfaaCnew
namespace Go.Proofs.Ytnbppfhnagacfaa
open Go.RowKit
set_option linter.unusedVariables false
attribute [local go_sem ↓] Go.wp_at_zero Go.wp_at_succ

theorem Mem.go {F : Nat → Prop} {w w' : World} {c d : Nat} {sp : Option Nat} {hp hp' : Int → Nat} {a a' : CA} {Fc Fd : Nat → Prop} {ml : Nat} {ov ov' : Value} (M : Mem F w c d sp hp a Fc Fd ml ov)
    (hC : CacheIs Fc w' c d ml ov' hp' a'.size a'.os a'.m a'.os.length a'.hits a'.misses) (hL : Link a'.os a'.m) (hD : Disk (grow Fd w w') w' d sp a'.x) (hS : SupIs w' sp a'.s) (hok : ∀ s', a'.s = some s' → s'.ok) (hs : w.heap.size ≤ w'.heap.size) : St (grow F w w') w' c d sp hp' a' :=
  ⟨Fc, grow Fd w w', ml, ov',
    { ca := hC
      link := hL
      disk := hD
      own := { sup := hS
               ok := hok
               ap := fun j hj e => by
                 rcases e with e | e
                 · exact M.own.ap j hj e
                 · have := M.ca.lt j hj; omega
               spc := M.own.spc
               spd := fun g hg e => by
                 rcases e with e | e
                 · exact M.own.spd g hg e
                 · have := M.own.splt g hg; omega
               splt := fun g hg => Nat.lt_of_lt_of_le (M.own.splt g hg) hs }
      sub := fun j hj => by
        rcases hj with hj | hj | hj
        · exact .inl (M.sub j (.inl hj))
        · exact .inl (M.sub j (.inr hj))
        · exact .inr hj
      flt := fun j hj => by
        rcases hj with hj | hj
        · have := M.flt j hj; omega
        · exact hj.2
      spf := fun g hg e => by
        rcases e with e | e
        · exact M.spf g hg e
        · have := M.own.splt g hg; omega }⟩
theorem sup_ok {x : Dk} {s : Option Sup} {i : Int} (h : ∀ s', s = some s' → s'.ok) (hu : ∀ s', s = some s' → s'.used < 1000000000) : ∀ s', supO x s i = some s' → s'.ok := by
  rcases supO_cases x s i with e | e
  · rw [e]; exact h
  · rw [e]; exact useO_ok h hu

/-- What write does. -/
def wrR (a : CA) (i : Int) : Int × CA :=
  match a.m i with
  | none => (0, a)
  | some hd => if hd.ch = true then (if codeO a.x a.s i = 0 then (0, { a with m := updm a.m i ⟨hd.b, false, hd.pins⟩, x := a.x.write i hd.b, s := supO a.x a.s i }) else (codeO a.x a.s i, { a with s := supO a.x a.s i })) else (0, a)
theorem St.cwrite {F : Nat → Prop} {c d : Nat} {sp : Option Nat} {hp : Int → Nat} {a : CA} (i : Int) (w : World) (h : St F w c d sp hp a) (hm : (a.m i).isSome = true) (hw : a.x.writes ≤ 1000000) (hus : ∀ s', a.s = some s' → s'.used < 1000000000) :
    Calls Try.prog 35 #[.pointer (some ⟨c, 0, none⟩), .int .i64 i] w fun e w' => e = .returned (.int .i64 (wrR a i).1) ∧ St (grow F w w') w' c d sp hp (wrR a i).2 ∧ Turn (fun j => F j ∨ sp = some j) w w' := by
  obtain ⟨Fc, Fd, ml, ov, M⟩ := h
  obtain ⟨hd, hm⟩ := Option.isSome_iff_exists.1 hm
  have hio : i ∈ a.os := (M.link.iff i).2 (by rw [hm]; rfl)
  refine (cwrite_any i w M.ca M.disk M.own hm hw).mono ?_
  rintro e w' ⟨rfl, h1, h2, h3, h4⟩
  have hT : Turn (fun j => F j ∨ sp = some j) w w' := h4.mono fun j _ e => by
    rcases e with e | e | e
    · exact .inl (M.sub j (.inl e))
    · exact .inl (M.sub j (.inr e))
    · exact .inr e
  unfold wrR
  rw [hm]
  obtain ⟨b, ch, pins⟩ := hd
  cases ch with
  | false =>
    simp only [Bool.false_eq_true, false_and, if_false] at h1 h2 h3 ⊢
    exact ⟨by first | trivial | rfl, M.go h1 M.link h2 h3 M.own.ok h4.size, hT⟩
  | true =>
    simp only [true_and, if_true] at h1 h2 h3 ⊢
    by_cases hc : codeO a.x a.s i = 0
    · rw [if_pos hc] at h1 h2
      simp only [if_pos hc]
      rw [hc]
      exact ⟨rfl, M.go (a' := { a with m := updm a.m i ⟨b, false, pins⟩, x := a.x.write i b, s := supO a.x a.s i }) h1 (M.link.upd hio _) h2 h3 (sup_ok M.own.ok hus) h4.size, hT⟩
    · rw [if_neg hc] at h1 h2
      simp only [if_neg hc]
      exact ⟨by first | trivial | rfl, M.go (a' := { a with s := supO a.x a.s i }) h1 M.link h2 h3 (sup_ok M.own.ok hus) h4.size, hT⟩
theorem St.find {F : Nat → Prop} {c d : Nat} {sp : Option Nat} {hp : Int → Nat} {a : CA} (i : Int) (w : World) (h : St F w c d sp hp a) (hk : (key i).wf = true) :
    Calls Try.prog 34 #[.pointer (some ⟨c, 0, none⟩), .int .i64 i] w fun e w' => e = .returned (.tuple #[findV a.m hp i, .int .i64 (if (a.m i).isSome then 0 else 5)]) ∧ w' = w := by
  obtain ⟨Fc, Fd, ml, ov, M⟩ := h
  exact find_any i w M.ca hk
theorem St.same {F : Nat → Prop} {w w' : World} {c d : Nat} {sp : Option Nat} {hp : Int → Nat} {a : CA} (h : St F w c d sp hp a) (hT : Turn (fun _ => False) w w') : St (grow F w w') w' c d sp hp a :=
  (h.turn hT (fun _ _ => id) fun _ _ => id).mono (fun j hj => .inl hj) (fun j hj => by
    rcases hj with hj | hj
    · exact Nat.lt_of_lt_of_le (h.lt.1 j hj) hT.size
    · exact hj.2) (fun g hg e => by
    rcases e with e | e
    · exact (h.lt.2.1 g hg).1 e
    · have := (h.lt.2.1 g hg).2; omega)

/-- What Back does. -/
def backR (a : CA) (i : Int) : Int × CA := if (a.m i).isSome = true then wrR a i else (5, a)
set_option maxRecDepth 100000 in
set_option maxHeartbeats 1000000 in
theorem back_any {F : Nat → Prop} {c d : Nat} {sp : Option Nat} {hp : Int → Nat} {a : CA} (i : Int) (w : World) (h : St F w c d sp hp a) (hw : a.x.writes ≤ 1000000) (hus : ∀ s', a.s = some s' → s'.used < 1000000000) (hk : (key i).wf = true) :
    Calls Try.prog 12 #[.pointer (some ⟨c, 0, none⟩), .int .i64 i] w fun e w' => e = .returned (.int .i64 (backR a i).1) ∧ St (grow F w w') w' c d sp hp (backR a i).2 ∧ Turn (fun j => F j ∨ sp = some j) w w' := by
  have HF := Lib.hid (h.find i w hk)
  have HS := Lib.hid (h.same (Turn.refl _ w))
  by_cases hm : (a.m i).isSome = true
  · have HW := Lib.hid (h.cwrite i w hm hw hus)
    rw [if_pos hm] at HF
    unfold backR
    rw [if_pos hm]
    generalize wrR a i = R at *
    obtain ⟨code, a2⟩ := R
    simp only at HW ⊢
    generalize findV a.m hp i = v at *
    clear h hm hus
    go_enter Try.func12, Try.ntmps12
    go_wp2_with fail
    refine HF.out.mono ?_
    rintro e w1 ⟨rfl, rfl⟩
    go_wp2_with fail
    refine HW.out.mono ?_
    rintro e w2 ⟨rfl, hS, hT⟩
    have HSs := Lib.hid hS
    have HTt := Lib.hid hT
    clear hS hT HW HF HS
    go_wp2
    go_ret
    exact ⟨rfl, HSs.out, HTt.out⟩
  · rw [if_neg hm] at HF
    unfold backR
    rw [if_neg hm]
    have HT := Lib.hid (Turn.refl (fun j => F j ∨ sp = some j) w)
    generalize findV a.m hp i = v at *
    clear h hm hus
    go_enter Try.func12, Try.ntmps12
    go_wp2_with fail
    refine HF.out.mono ?_
    rintro e w1 ⟨rfl, rfl⟩
    go_wp2
    go_ret
    exact ⟨rfl, HS.out, HT.out⟩
end Go.Proofs.Ytnbppfhnagacfaa
