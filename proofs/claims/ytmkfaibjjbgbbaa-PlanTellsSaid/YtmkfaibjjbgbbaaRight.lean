/- graph.right: may a patch be? -/
import Derived.Test.YtmkfaibjjbgbbaaGr
namespace Go.Proofs.Ytmkfaibjjbgbbaa
open Go.RowKit
set_option linter.unusedVariables false

theorem ret_bool {a b : Bool} (h : a = b) : Ending.returned (.bool a) = .returned (.bool b) := by rw [h]
theorem ret_int {k : IntKind} {a b : Int} (h : a = b) : Ending.returned (.int k a) = .returned (.int k b) := by rw [h]

def most (p : Pt) : Int := if p.kind = 0 then 64 else 54
def needOk (last id : Int) : Bool := !(decide (id < 1) || decide (last < id))
/-- The tests ahead of the needs. -/
def shapeB (p : Pt) : Bool :=
  !(decide (p.sec < 0) || decide (2048 ≤ p.sec) || decide (p.kind < 0) || decide (6 < p.kind)) && !(decide ((p.data.length : Int) = 0) || decide (most p < p.data.length) || decide (p.off < 0) || decide (most p - p.data.length < p.off))
def rightB (p : Pt) (last : Int) : Bool := shapeB p && p.needs.all (needOk last)

theorem right_one (b g : Nat) (last : Int) (w : World) (id : Int) (hb : w.cell? ⟨b, 0, none⟩ = some (.pointer (some ⟨g, 0, none⟩))) (hg : w.cell? ⟨g, 0, none⟩ = some (.int .i64 last)) :
    Calls Try.prog 84 #[.int .i64 id, .pointer (some ⟨b, 0, none⟩)] w fun e w' => e = .returned (.bool (!needOk last id)) ∧ Below w.heap.size w w' := by
  have HF : needOk last id = !(decide (id < 1) || decide (last < id)) := rfl
  by_cases h1 : id < 1
  · have HN := Lib.hid (show (!needOk last id) = true by rw [HF]; simp [h1])
    clear HF
    go_enter Try.func84, Try.ntmps84
    go_wp2
    go_ret
    exact ⟨ret_bool HN.out.symm, Below.refl _ _⟩
  · by_cases h2 : last < id
    · have HN := Lib.hid (show (!needOk last id) = true by rw [HF]; simp [h2])
      clear HF
      go_enter Try.func84, Try.ntmps84
      go_wp2
      go_ret
      exact ⟨ret_bool HN.out.symm, Below.refl _ _⟩
    · have HN := Lib.hid (show (!needOk last id) = false by rw [HF]; simp [h1, h2])
      clear HF
      go_enter Try.func84, Try.ntmps84
      go_wp2
      go_ret
      exact ⟨ret_bool HN.out.symm, Below.refl _ _⟩

theorem tells_right (b g : Nat) (last : Int) (l : List Int) (w : World) (hb : w.cell? ⟨b, 0, none⟩ = some (.pointer (some ⟨g, 0, none⟩))) (hg : w.cell? ⟨g, 0, none⟩ = some (.int .i64 last)) :
    Tells 84 #[.pointer (some ⟨b, 0, none⟩)] (· ∈ l) (fun id => !needOk last id) w := fun W x _ h =>
  right_one b g last W x ((h.cell (p := ⟨b, 0, none⟩) (World.block_lt_of_cell? w _ hb)).trans hb) ((h.cell (p := ⟨g, 0, none⟩) (World.block_lt_of_cell? w _ hg)).trans hg)
theorem all_any (l : List Int) (f : Int → Bool) : l.all f = !(l.any fun x => !f x) := by
  induction l with
  | nil => rfl
  | cons a l ih => simp [ih]
theorem enters84 : ∀ args w, (callFunc 84 args).run Try.prog w = .ok (.enter 84 args) w := enters_of Try.func84 (by kernel_rfl) rfl

set_option maxHeartbeats 4000000 in
theorem right_any (g : Nat) (last : Int) (v : Value) (p : Pt) (w : World) (hv : PtV w v p) (hg : w.cell? ⟨g, 0, none⟩ = some (.int .i64 last)) (hl : p.data.length ≤ 1000) :
    Calls Try.prog 46 #[.pointer (some ⟨g, 0, none⟩), v] w fun e w' => e = .returned (.bool (rightB p last)) ∧ Below w.heap.size w w' := by
  have hmf : ∀ (fn : Fn) (first cap : Array Value) (w : World), (Instr.makeFunc fn first cap).run Try.prog w = .ok (.func fn first cap) w := fun _ _ _ _ => rfl
  obtain ⟨vd, vn, rfl, hd, hn⟩ := hv
  obtain ⟨A, c, rfl, h1, h2⟩ := hd.len
  rw [bytes_len] at h1 ⊢
  have HN := Lib.hid hn
  have HG := Lib.hid hg
  have hgl := World.block_lt_of_cell? w _ hg
  clear hd hn hg
  unfold Pt.val
  have HR : rightB p last = (shapeB p && p.needs.all (needOk last)) := rfl
  have HS : shapeB p = (!(decide (p.sec < 0) || decide (2048 ≤ p.sec) || decide (p.kind < 0) || decide (6 < p.kind)) && !(decide ((p.data.length : Int) = 0) || decide (most p < p.data.length) || decide (p.off < 0) || decide (most p - p.data.length < p.off))) := rfl
  by_cases hk : p.kind = 0
  · have hm : most p = 64 := by unfold most; rw [if_pos hk]
    have t0 : (p.kind != 0) = false := by simp [hk]
    have a3 : ¬ p.kind < 0 := by omega
    have a4 : ¬ 6 < p.kind := by omega
    have ew : IntKind.i64.wrap (64 - (p.data.length : Int)) = 64 - (p.data.length : Int) := IntWalk.i64_in _ (by omega) |>.trans (by omega)
    by_cases a1 : p.sec < 0
    · have HF := Lib.hid (show rightB p last = false by rw [HR, HS]; simp [a1])
      clear HR HS
      go_enter Try.func46, Try.ntmps46
      go_wp2
      go_ret
      exact ⟨ret_bool HF.out.symm, ((Below.refl _ _).alloc (Nat.le_refl _) _).alloc (by simp) _⟩
    · by_cases a2 : 2048 ≤ p.sec
      · have HF := Lib.hid (show rightB p last = false by rw [HR, HS]; simp [a2])
        clear HR HS
        go_enter Try.func46, Try.ntmps46
        go_wp2
        go_ret
        exact ⟨ret_bool HF.out.symm, ((Below.refl _ _).alloc (Nat.le_refl _) _).alloc (by simp) _⟩
      · by_cases a5 : (p.data.length : Int) = 0
        · have b5 : ((p.data.length : Int) == 0) = true := beq_iff_eq.2 a5
          have HF := Lib.hid (show rightB p last = false by rw [HR, HS]; simp [a5])
          clear HR HS
          go_enter Try.func46, Try.ntmps46
          go_wp2
          go_ret
          exact ⟨ret_bool HF.out.symm, ((Below.refl _ _).alloc (Nat.le_refl _) _).alloc (by simp) _⟩
        · have b5 : ((p.data.length : Int) == 0) = false := beq_eq_false_iff_ne.2 a5
          by_cases a6 : (64 : Int) < p.data.length
          · have HF := Lib.hid (show rightB p last = false by rw [HR, HS]; simp [a6, hm])
            clear HR HS
            go_enter Try.func46, Try.ntmps46
            go_wp2
            go_ret
            exact ⟨ret_bool HF.out.symm, ((Below.refl _ _).alloc (Nat.le_refl _) _).alloc (by simp) _⟩
          · by_cases a7 : p.off < 0
            · have HF := Lib.hid (show rightB p last = false by rw [HR, HS]; simp [a7])
              clear HR HS
              go_enter Try.func46, Try.ntmps46
              go_wp2
              go_ret
              exact ⟨ret_bool HF.out.symm, ((Below.refl _ _).alloc (Nat.le_refl _) _).alloc (by simp) _⟩
            · by_cases a8 : (64 : Int) - p.data.length < p.off
              · have HF := Lib.hid (show rightB p last = false by rw [HR, HS]; simp [a8, hm])
                clear HR HS
                go_enter Try.func46, Try.ntmps46
                go_wp2
                go_ret
                exact ⟨ret_bool HF.out.symm, ((Below.refl _ _).alloc (Nat.le_refl _) _).alloc (by simp) _⟩
              · have HF := Lib.hid (show rightB p last = p.needs.all (needOk last) by rw [HR, HS, hm, decide_eq_false a1, decide_eq_false a2, decide_eq_false a3, decide_eq_false a4, decide_eq_false a5, decide_eq_false a6, decide_eq_false a7, decide_eq_false a8]; simp)
                clear HR HS
                go_enter Try.func46, Try.ntmps46
                go_wp2_with fail
                refine (containsFunc_any vn p.needs 84 _ (fun id => !needOk last id) _ ((HN.out.alloc _).alloc _) enters84 (tells_right _ g last _ _ (by simp [go_sem]) ((show _ = w.cell? ⟨g, 0, none⟩ from (((Below.refl w.heap.size w).alloc (Nat.le_refl _) _).alloc (by simp) _).cell (p := ⟨g, 0, none⟩) hgl).trans HG.out))).mono ?_
                rintro e w1 ⟨rfl, hb1⟩
                have HB1 := Lib.hid ((((Below.refl w.heap.size w).alloc (Nat.le_refl _) _).alloc (by simp) _).trans (hb1.mono (by simp; omega)))
                clear hb1
                go_wp2_with fail
                go_ret
                exact ⟨ret_bool (by rw [HF.out, all_any]), HB1.out⟩
  · have hm : most p = 54 := by unfold most; rw [if_neg hk]
    have t0 : (p.kind != 0) = true := bne_iff_ne.2 hk
    have ew : IntKind.i64.wrap (54 - (p.data.length : Int)) = 54 - (p.data.length : Int) := IntWalk.i64_in _ (by omega) |>.trans (by omega)
    by_cases a1 : p.sec < 0
    · have HF := Lib.hid (show rightB p last = false by rw [HR, HS]; simp [a1])
      clear HR HS
      go_enter Try.func46, Try.ntmps46
      go_wp2
      go_ret
      exact ⟨ret_bool HF.out.symm, ((Below.refl _ _).alloc (Nat.le_refl _) _).alloc (by simp) _⟩
    · by_cases a2 : 2048 ≤ p.sec
      · have HF := Lib.hid (show rightB p last = false by rw [HR, HS]; simp [a2])
        clear HR HS
        go_enter Try.func46, Try.ntmps46
        go_wp2
        go_ret
        exact ⟨ret_bool HF.out.symm, ((Below.refl _ _).alloc (Nat.le_refl _) _).alloc (by simp) _⟩
      · by_cases a3 : p.kind < 0
        · have HF := Lib.hid (show rightB p last = false by rw [HR, HS]; simp [a3])
          clear HR HS
          go_enter Try.func46, Try.ntmps46
          go_wp2
          go_ret
          exact ⟨ret_bool HF.out.symm, ((Below.refl _ _).alloc (Nat.le_refl _) _).alloc (by simp) _⟩
        · by_cases a4 : 6 < p.kind
          · have HF := Lib.hid (show rightB p last = false by rw [HR, HS]; simp [a4])
            clear HR HS
            go_enter Try.func46, Try.ntmps46
            go_wp2
            go_ret
            exact ⟨ret_bool HF.out.symm, ((Below.refl _ _).alloc (Nat.le_refl _) _).alloc (by simp) _⟩
          · by_cases a5 : (p.data.length : Int) = 0
            · have b5 : ((p.data.length : Int) == 0) = true := beq_iff_eq.2 a5
              have HF := Lib.hid (show rightB p last = false by rw [HR, HS]; simp [a5])
              clear HR HS
              go_enter Try.func46, Try.ntmps46
              go_wp2
              go_ret
              exact ⟨ret_bool HF.out.symm, ((Below.refl _ _).alloc (Nat.le_refl _) _).alloc (by simp) _⟩
            · have b5 : ((p.data.length : Int) == 0) = false := beq_eq_false_iff_ne.2 a5
              by_cases a6 : (54 : Int) < p.data.length
              · have HF := Lib.hid (show rightB p last = false by rw [HR, HS]; simp [a6, hm])
                clear HR HS
                go_enter Try.func46, Try.ntmps46
                go_wp2
                go_ret
                exact ⟨ret_bool HF.out.symm, ((Below.refl _ _).alloc (Nat.le_refl _) _).alloc (by simp) _⟩
              · by_cases a7 : p.off < 0
                · have HF := Lib.hid (show rightB p last = false by rw [HR, HS]; simp [a7])
                  clear HR HS
                  go_enter Try.func46, Try.ntmps46
                  go_wp2
                  go_ret
                  exact ⟨ret_bool HF.out.symm, ((Below.refl _ _).alloc (Nat.le_refl _) _).alloc (by simp) _⟩
                · by_cases a8 : (54 : Int) - p.data.length < p.off
                  · have HF := Lib.hid (show rightB p last = false by rw [HR, HS]; simp [a8, hm])
                    clear HR HS
                    go_enter Try.func46, Try.ntmps46
                    go_wp2
                    go_ret
                    exact ⟨ret_bool HF.out.symm, ((Below.refl _ _).alloc (Nat.le_refl _) _).alloc (by simp) _⟩
                  · have HF := Lib.hid (show rightB p last = p.needs.all (needOk last) by rw [HR, HS, hm, decide_eq_false a1, decide_eq_false a2, decide_eq_false a3, decide_eq_false a4, decide_eq_false a5, decide_eq_false a6, decide_eq_false a7, decide_eq_false a8]; simp)
                    clear HR HS
                    go_enter Try.func46, Try.ntmps46
                    go_wp2_with fail
                    refine (containsFunc_any vn p.needs 84 _ (fun id => !needOk last id) _ ((HN.out.alloc _).alloc _) enters84 (tells_right _ g last _ _ (by simp [go_sem]) ((show _ = w.cell? ⟨g, 0, none⟩ from (((Below.refl w.heap.size w).alloc (Nat.le_refl _) _).alloc (by simp) _).cell (p := ⟨g, 0, none⟩) hgl).trans HG.out))).mono ?_
                    rintro e w1 ⟨rfl, hb1⟩
                    have HB1 := Lib.hid ((((Below.refl w.heap.size w).alloc (Nat.le_refl _) _).alloc (by simp) _).trans (hb1.mono (by simp; omega)))
                    clear hb1
                    go_wp2_with fail
                    go_ret
                    exact ⟨ret_bool (by rw [HF.out, all_any]), HB1.out⟩
end Go.Proofs.Ytmkfaibjjbgbbaa
