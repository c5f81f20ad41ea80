/- What is asked of graph.ids, and the methods that ask it: All, Written, By, About, open. -/
import Derived.Test.YtmkfaibjjbgbbaaIds
namespace Go.Proofs.Ytmkfaibjjbgbbaa
open Go.RowKit
set_option linter.unusedVariables false

theorem hmf : ∀ (fn : Fn) (first cap : Array Value) (w : World), (Instr.makeFunc fn first cap).run Try.prog w = .ok (.func fn first cap) w := fun _ _ _ _ => rfl
theorem enters50 : ∀ args w, (callFunc 50 args).run Try.prog w = .ok (.enter 50 args) w := enters_of Try.func50 (by kernel_rfl) rfl
theorem enters51 : ∀ args w, (callFunc 51 args).run Try.prog w = .ok (.enter 51 args) w := enters_of Try.func51 (by kernel_rfl) rfl
theorem enters61 : ∀ args w, (callFunc 61 args).run Try.prog w = .ok (.enter 61 args) w := enters_of Try.func61 (by kernel_rfl) rfl
theorem enters74 : ∀ args w, (callFunc 74 args).run Try.prog w = .ok (.enter 74 args) w := enters_of Try.func74 (by kernel_rfl) rfl
theorem enters75 : ∀ args w, (callFunc 75 args).run Try.prog w = .ok (.enter 75 args) w := enters_of Try.func75 (by kernel_rfl) rfl
theorem enters76 : ∀ args w, (callFunc 76 args).run Try.prog w = .ok (.enter 76 args) w := enters_of Try.func76 (by kernel_rfl) rfl
theorem enters77 : ∀ args w, (callFunc 77 args).run Try.prog w = .ok (.enter 77 args) w := enters_of Try.func77 (by kernel_rfl) rfl
theorem enters89 : ∀ args w, (callFunc 89 args).run Try.prog w = .ok (.enter 89 args) w := enters_of Try.func89 (by kernel_rfl) rfl

theorem ask50 (v : Value) (p : Pt) (W : World) (hv : PtV W v p) : Calls Try.prog 50 #[v] W fun e w' => e = .returned (.bool true) ∧ Below W.heap.size W w' := by
  obtain ⟨vd, vn, rfl, hd, hn⟩ := hv
  clear hd hn
  unfold Pt.val
  go_enter Try.func50, Try.ntmps50
  go_wp2
  go_ret
  exact ⟨rfl, (Below.refl _ _).alloc (Nat.le_refl _) _⟩
theorem ask61 (v : Value) (p : Pt) (W : World) (hv : PtV W v p) : Calls Try.prog 61 #[v] W fun e w' => e = .returned (.bool true) ∧ Below W.heap.size W w' := by
  obtain ⟨vd, vn, rfl, hd, hn⟩ := hv
  clear hd hn
  unfold Pt.val
  go_enter Try.func61, Try.ntmps61
  go_wp2
  go_ret
  exact ⟨rfl, (Below.refl _ _).alloc (Nat.le_refl _) _⟩
theorem ask51 (v : Value) (p : Pt) (W : World) (hv : PtV W v p) : Calls Try.prog 51 #[v] W fun e w' => e = .returned (.bool (!p.written)) ∧ Below W.heap.size W w' := by
  obtain ⟨vd, vn, rfl, hd, hn⟩ := hv
  clear hd hn
  unfold Pt.val
  go_enter Try.func51, Try.ntmps51
  go_wp2
  go_ret
  exact ⟨rfl, (Below.refl _ _).alloc (Nat.le_refl _) _⟩
theorem ask75 (v : Value) (p : Pt) (W : World) (hv : PtV W v p) : Calls Try.prog 75 #[v] W fun e w' => e = .returned (.bool p.written) ∧ Below W.heap.size W w' := by
  obtain ⟨vd, vn, rfl, hd, hn⟩ := hv
  clear hd hn
  unfold Pt.val
  go_enter Try.func75, Try.ntmps75
  go_wp2
  go_ret
  exact ⟨rfl, (Below.refl _ _).alloc (Nat.le_refl _) _⟩
theorem ask74 (b : Nat) (s : Int) (v : Value) (p : Pt) (W : World) (hb : W.cell? ⟨b, 0, none⟩ = some (.int .i64 s)) (hv : PtV W v p) :
    Calls Try.prog 74 #[v, .pointer (some ⟨b, 0, none⟩)] W fun e w' => e = .returned (.bool (decide (p.sec = s))) ∧ Below W.heap.size W w' := by
  obtain ⟨vd, vn, rfl, hd, hn⟩ := hv
  clear hd hn
  have hbl : b < W.heap.size := World.block_lt_of_cell? W _ hb
  unfold Pt.val
  go_enter Try.func74, Try.ntmps74
  go_wp2
  go_ret
  exact ⟨ret_bool (show (p.sec == s) = decide (p.sec = s) from rfl), (Below.refl _ _).alloc (Nat.le_refl _) _⟩
theorem ask76 (b : Nat) (s : Int) (v : Value) (p : Pt) (W : World) (hb : W.cell? ⟨b, 0, none⟩ = some (.int .i64 s)) (hv : PtV W v p) :
    Calls Try.prog 76 #[v, .pointer (some ⟨b, 0, none⟩)] W fun e w' => e = .returned (.bool (decide (p.owner = s))) ∧ Below W.heap.size W w' := by
  obtain ⟨vd, vn, rfl, hd, hn⟩ := hv
  clear hd hn
  have hbl : b < W.heap.size := World.block_lt_of_cell? W _ hb
  unfold Pt.val
  go_enter Try.func76, Try.ntmps76
  go_wp2
  go_ret
  exact ⟨ret_bool (show (p.owner == s) = decide (p.owner = s) from rfl), (Below.refl _ _).alloc (Nat.le_refl _) _⟩
theorem ask77 (b : Nat) (s : Int) (v : Value) (p : Pt) (W : World) (hb : W.cell? ⟨b, 0, none⟩ = some (.int .i64 s)) (hv : PtV W v p) :
    Calls Try.prog 77 #[v, .pointer (some ⟨b, 0, none⟩)] W fun e w' => e = .returned (.bool (decide (p.child = s))) ∧ Below W.heap.size W w' := by
  obtain ⟨vd, vn, rfl, hd, hn⟩ := hv
  clear hd hn
  have hbl : b < W.heap.size := World.block_lt_of_cell? W _ hb
  unfold Pt.val
  go_enter Try.func77, Try.ntmps77
  go_wp2
  go_ret
  exact ⟨ret_bool (show (p.child == s) = decide (p.child = s) from rfl), (Below.refl _ _).alloc (Nat.le_refl _) _⟩
def openQ (s : Int) (p : Pt) : Bool := decide (p.sec = s) && !p.written
theorem ask89 (b : Nat) (s : Int) (v : Value) (p : Pt) (W : World) (hb : W.cell? ⟨b, 0, none⟩ = some (.int .i64 s)) (hv : PtV W v p) :
    Calls Try.prog 89 #[v, .pointer (some ⟨b, 0, none⟩)] W fun e w' => e = .returned (.bool (openQ s p)) ∧ Below W.heap.size W w' := by
  obtain ⟨vd, vn, rfl, hd, hn⟩ := hv
  clear hd hn
  have hbl : b < W.heap.size := World.block_lt_of_cell? W _ hb
  unfold Pt.val
  by_cases h : p.sec = s
  · have h1 : (p.sec == s) = true := beq_iff_eq.2 h
    have HF := Lib.hid (show openQ s p = !p.written by unfold openQ; simp [h])
    clear h
    go_enter Try.func89, Try.ntmps89
    go_wp2
    go_ret
    exact ⟨ret_bool HF.out.symm, (Below.refl _ _).alloc (Nat.le_refl _) _⟩
  · have h1 : (p.sec == s) = false := beq_eq_false_iff_ne.2 h
    have HF := Lib.hid (show openQ s p = false by unfold openQ; simp [h])
    clear h
    go_enter Try.func89, Try.ntmps89
    go_wp2
    go_ret
    exact ⟨ret_bool HF.out.symm, (Below.refl _ _).alloc (Nat.le_refl _) _⟩

theorem alls_any (g mb n : Nat) (x : G) (w : World) (hG : Gr w g mb n x) (hx : x.l.Pairwise (fun p q => p.id < q.id)) (hlen : x.l.length ≤ 100000) :
    Calls Try.prog 15 #[.pointer (some ⟨g, 0, none⟩)] w fun e w' => ∃ r, e = .returned r ∧ Built w.heap.size w' r (idsOf x (fun _ => true)) ∧ Below w.heap.size w w' := by
  have HK := Lib.hid (ids_any g mb n x 50 #[] (fun _ => true) w hG hx hlen enters50 (fun W v p _ hv _ => ask50 v p W hv))
  clear hG hx
  go_enter Try.func15, Try.ntmps15
  go_wp2_with fail
  refine HK.out.mono ?_
  rintro e w1 ⟨r, rfl, hr, hb⟩
  have HR := Lib.hid hr
  have HB := Lib.hid hb
  clear hr hb
  go_wp2_with fail
  go_ret
  exact ⟨_, rfl, HR.out, HB.out⟩
theorem alls_nil (w : World) : Calls Try.prog 15 #[.pointer none] w fun e w' => e = .returned (.slice none 0 0) ∧ Below w.heap.size w w' := by
  have HK := fun (W : World) => ids_nil (.func (.func 50) #[] #[]) W
  go_enter Try.func15, Try.ntmps15
  go_wp2_with fail
  refine (HK _).mono ?_
  rintro e w1 ⟨rfl, rfl⟩
  go_wp2_with fail
  go_ret
  exact ⟨rfl, Below.refl _ _⟩

theorem written_any (g mb n : Nat) (x : G) (w : World) (hG : Gr w g mb n x) (hx : x.l.Pairwise (fun p q => p.id < q.id)) (hlen : x.l.length ≤ 100000) :
    Calls Try.prog 26 #[.pointer (some ⟨g, 0, none⟩)] w fun e w' => ∃ r, e = .returned r ∧ Built w.heap.size w' r (idsOf x (fun p => p.written)) ∧ Below w.heap.size w w' := by
  have HK := Lib.hid (ids_any g mb n x 75 #[] (fun p => p.written) w hG hx hlen enters75 (fun W v p _ hv _ => ask75 v p W hv))
  clear hG hx
  go_enter Try.func26, Try.ntmps26
  go_wp2_with fail
  refine HK.out.mono ?_
  rintro e w1 ⟨r, rfl, hr, hb⟩
  have HR := Lib.hid hr
  have HB := Lib.hid hb
  clear hr hb
  go_wp2_with fail
  go_ret
  exact ⟨_, rfl, HR.out, HB.out⟩
theorem written_nil (w : World) : Calls Try.prog 26 #[.pointer none] w fun e w' => e = .returned (.slice none 0 0) ∧ Below w.heap.size w w' := by
  have HK := fun (W : World) => ids_nil (.func (.func 75) #[] #[]) W
  go_enter Try.func26, Try.ntmps26
  go_wp2_with fail
  refine (HK _).mono ?_
  rintro e w1 ⟨rfl, rfl⟩
  go_wp2_with fail
  go_ret
  exact ⟨rfl, Below.refl _ _⟩

theorem by_any (g mb n : Nat) (x : G) (s : Int) (w : World) (hG : Gr w g mb n x) (hx : x.l.Pairwise (fun p q => p.id < q.id)) (hlen : x.l.length ≤ 100000) :
    Calls Try.prog 28 #[.pointer (some ⟨g, 0, none⟩), .int .i64 s] w fun e w' => ∃ r, e = .returned r ∧ Built w.heap.size w' r (idsOf x (fun p => decide (p.owner = s))) ∧ Below w.heap.size w w' := by
  have HK := Lib.hid (ids_any g mb n x 76 #[.pointer (some ⟨w.heap.size, 0, none⟩)] (fun p => decide (p.owner = s)) (w.alloc (.cells #[.int .i64 s] 3)) (hG.alloc _) hx hlen enters76 (fun W v p _ hv hb => ask76 w.heap.size s v p W ((hb.cell (p := ⟨w.heap.size, 0, none⟩) (by simp)).trans (by simp [go_sem])) hv))
  have hm := hmf
  clear hG hx
  go_enter Try.func28, Try.ntmps28
  go_wp2_with fail
  refine HK.out.mono ?_
  rintro e w1 ⟨r, rfl, hr, hb⟩
  have HR := Lib.hid (hr.mono (show w.heap.size ≤ (w.alloc (.cells #[.int .i64 s] 3)).heap.size by simp))
  have HB := Lib.hid (((Below.refl w.heap.size w).alloc (Nat.le_refl _) _).trans (hb.mono (by simp)))
  clear hr hb
  go_wp2_with fail
  go_ret
  exact ⟨_, rfl, HR.out, HB.out⟩
theorem by_nil (s : Int) (w : World) : Calls Try.prog 28 #[.pointer none, .int .i64 s] w fun e w' => e = .returned (.slice none 0 0) ∧ Below w.heap.size w w' := by
  have HK := fun (W : World) (fv : Value) => ids_nil fv W
  have hm := hmf
  go_enter Try.func28, Try.ntmps28
  go_wp2_with fail
  refine (HK _ _).mono ?_
  rintro e w1 ⟨rfl, rfl⟩
  go_wp2_with fail
  go_ret
  exact ⟨rfl, (Below.refl _ _).alloc (Nat.le_refl _) _⟩

theorem about_any (g mb n : Nat) (x : G) (s : Int) (w : World) (hG : Gr w g mb n x) (hx : x.l.Pairwise (fun p q => p.id < q.id)) (hlen : x.l.length ≤ 100000) :
    Calls Try.prog 29 #[.pointer (some ⟨g, 0, none⟩), .int .i64 s] w fun e w' => ∃ r, e = .returned r ∧ Built w.heap.size w' r (idsOf x (fun p => decide (p.child = s))) ∧ Below w.heap.size w w' := by
  have HK := Lib.hid (ids_any g mb n x 77 #[.pointer (some ⟨w.heap.size, 0, none⟩)] (fun p => decide (p.child = s)) (w.alloc (.cells #[.int .i64 s] 3)) (hG.alloc _) hx hlen enters77 (fun W v p _ hv hb => ask77 w.heap.size s v p W ((hb.cell (p := ⟨w.heap.size, 0, none⟩) (by simp)).trans (by simp [go_sem])) hv))
  have hm := hmf
  clear hG hx
  go_enter Try.func29, Try.ntmps29
  go_wp2_with fail
  refine HK.out.mono ?_
  rintro e w1 ⟨r, rfl, hr, hb⟩
  have HR := Lib.hid (hr.mono (show w.heap.size ≤ (w.alloc (.cells #[.int .i64 s] 3)).heap.size by simp))
  have HB := Lib.hid (((Below.refl w.heap.size w).alloc (Nat.le_refl _) _).trans (hb.mono (by simp)))
  clear hr hb
  go_wp2_with fail
  go_ret
  exact ⟨_, rfl, HR.out, HB.out⟩
theorem about_nil (s : Int) (w : World) : Calls Try.prog 29 #[.pointer none, .int .i64 s] w fun e w' => e = .returned (.slice none 0 0) ∧ Below w.heap.size w w' := by
  have HK := fun (W : World) (fv : Value) => ids_nil fv W
  have hm := hmf
  go_enter Try.func29, Try.ntmps29
  go_wp2_with fail
  refine (HK _ _).mono ?_
  rintro e w1 ⟨rfl, rfl⟩
  go_wp2_with fail
  go_ret
  exact ⟨rfl, (Below.refl _ _).alloc (Nat.le_refl _) _⟩

theorem open_any (g mb n : Nat) (x : G) (s : Int) (w : World) (hG : Gr w g mb n x) (hx : x.l.Pairwise (fun p q => p.id < q.id)) (hlen : x.l.length ≤ 100000) :
    Calls Try.prog 53 #[.pointer (some ⟨g, 0, none⟩), .int .i64 s] w fun e w' => ∃ r, e = .returned r ∧ Built w.heap.size w' r (idsOf x (openQ s)) ∧ Below w.heap.size w w' := by
  have HK := Lib.hid (ids_any g mb n x 89 #[.pointer (some ⟨w.heap.size, 0, none⟩)] (openQ s) (w.alloc (.cells #[.int .i64 s] 3)) (hG.alloc _) hx hlen enters89 (fun W v p _ hv hb => ask89 w.heap.size s v p W ((hb.cell (p := ⟨w.heap.size, 0, none⟩) (by simp)).trans (by simp [go_sem])) hv))
  have hm := hmf
  clear hG hx
  go_enter Try.func53, Try.ntmps53
  go_wp2_with fail
  refine HK.out.mono ?_
  rintro e w1 ⟨r, rfl, hr, hb⟩
  have HR := Lib.hid (hr.mono (show w.heap.size ≤ (w.alloc (.cells #[.int .i64 s] 3)).heap.size by simp))
  have HB := Lib.hid (((Below.refl w.heap.size w).alloc (Nat.le_refl _) _).trans (hb.mono (by simp)))
  clear hr hb
  go_wp2_with fail
  go_ret
  exact ⟨_, rfl, HR.out, HB.out⟩
theorem open_nil (s : Int) (w : World) : Calls Try.prog 53 #[.pointer none, .int .i64 s] w fun e w' => e = .returned (.slice none 0 0) ∧ Below w.heap.size w w' := by
  have HK := fun (W : World) (fv : Value) => ids_nil fv W
  have hm := hmf
  go_enter Try.func53, Try.ntmps53
  go_wp2_with fail
  refine (HK _ _).mono ?_
  rintro e w1 ⟨rfl, rfl⟩
  go_wp2_with fail
  go_ret
  exact ⟨rfl, (Below.refl _ _).alloc (Nat.le_refl _) _⟩
end Go.Proofs.Ytmkfaibjjbgbbaa
