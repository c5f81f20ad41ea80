/- graph.waits, Ready's and behind's questions. -/
import Derived.Test.YtmkfaibjjbgbbaaSettle
namespace Go.Proofs.Ytmkfaibjjbgbbaa
open Go.RowKit
set_option linter.unusedVariables false
attribute [local go_sem ↓] Go.wp_at_zero Go.wp_at_succ

def zeroV : Value := .agg #[.int .i64 0, .int .i64 0, .int .i64 0, .slice none 0 0, .int .i64 0, .slice none 0 0, .int .i64 0, .int .i64 0, .bool false]
theorem zero30 : ∀ w, (zeroValue 30).run Try.prog w = .ok zeroV w := fun _ => by kernel_rfl
/-- What a lookup shows. -/
theorem Gr.look {w : World} {g mb n : Nat} {x : G} (h : Gr w g mb n x) {k : Int} (hk : (key k).wf = true) :
    (∃ p A1 k1 A2 k2, x.find k = some p ∧ PtV w (p.val (.slice A1 (bytes p.data).length k1) (.slice A2 (ints p.needs).length k2)) p ∧
      (∀ W, Below w.heap.size w W → (Instr.lookup 77 (.map (some mb)) (.int .i64 k) false).run Try.prog W = .ok (p.val (.slice A1 (bytes p.data).length k1) (.slice A2 (ints p.needs).length k2)) W ∧
        (Instr.lookup 77 (.map (some mb)) (.int .i64 k) true).run Try.prog W = .ok (.tuple #[p.val (.slice A1 (bytes p.data).length k1) (.slice A2 (ints p.needs).length k2), .bool true]) W)) ∨
    (x.find k = none ∧ ∀ W, Below w.heap.size w W → (Instr.lookup 77 (.map (some mb)) (.int .i64 k) false).run Try.prog W = .ok zeroV W ∧ (Instr.lookup 77 (.map (some mb)) (.int .i64 k) true).run Try.prog W = .ok (.tuple #[zeroV, .bool false]) W) := by
  obtain ⟨hg, f, hm, hh⟩ := h
  have hl := hh k
  cases hf : x.find k with
  | none =>
    rw [hf] at hl
    refine .inr ⟨rfl, fun W hW => ?_⟩
    have hm' : MapIs W mb n f := hm.keep (hW.block mb hm.lt)
    have h1 := hm'.look Try.underlying77 (zero30 W) hk
    have h2 := hm'.look_ok Try.underlying77 (zero30 W) hk
    rw [hl] at h1 h2
    exact ⟨h1, h2⟩
  | some p =>
    rw [hf] at hl
    obtain ⟨v, ev, hv⟩ := hl
    have HV := hv
    obtain ⟨vd, vn, rfl, hd, hn⟩ := hv
    obtain ⟨A1, k1, rfl, -, -⟩ := hd.len
    obtain ⟨A2, k2, rfl, -, -⟩ := hn.len
    refine .inl ⟨p, A1, k1, A2, k2, rfl, HV, fun W hW => ?_⟩
    have hm' : MapIs W mb n f := hm.keep (hW.block mb hm.lt)
    have h1 := hm'.look Try.underlying77 (zero30 W) hk
    have h2 := hm'.look_ok Try.underlying77 (zero30 W) hk
    rw [ev] at h1 h2
    exact ⟨h1, h2⟩

theorem enters91 : ∀ args w, (callFunc 91 args).run Try.prog w = .ok (.enter 91 args) w := enters_of Try.func91 (by kernel_rfl) rfl
theorem waits_one (b g mb n : Nat) (x : G) (w : World) (id : Int) (hb : w.cell? ⟨b, 0, none⟩ = some (.pointer (some ⟨g, 0, none⟩))) (hG : Gr w g mb n x) (hk : (key id).wf = true) :
    Calls Try.prog 91 #[.int .i64 id, .pointer (some ⟨b, 0, none⟩)] w fun e w' => e = .returned (.bool (x.find id).isSome) ∧ Below w.heap.size w w' := by
  have hbl : b < w.heap.size := World.block_lt_of_cell? w _ hb
  have c1 := hG.c1
  rcases hG.look hk with ⟨p, A1, k1, A2, k2, hf, hv, hl⟩ | ⟨hf, hl⟩
  · have hl2 := (hl w (Below.refl _ _)).2
    unfold Pt.val at hl2
    rw [hf]
    clear hl hv hf hG
    go_enter Try.func91, Try.ntmps91
    go_wp2
    go_ret
    exact ⟨rfl, (Below.refl _ _).alloc (Nat.le_refl _) _⟩
  · have hl2 := (hl w (Below.refl _ _)).2
    unfold zeroV at hl2
    rw [hf]
    clear hl hf hG
    go_enter Try.func91, Try.ntmps91
    go_wp2
    go_ret
    exact ⟨rfl, (Below.refl _ _).alloc (Nat.le_refl _) _⟩

def waitsB (x : G) (p : Pt) : Bool := p.needs.any fun id => (x.find id).isSome
theorem waits_any (g mb n : Nat) (x : G) (v : Value) (p : Pt) (w : World) (hG : Gr w g mb n x) (hv : PtV w v p) (hk : ∀ id ∈ p.needs, (key id).wf = true) :
    Calls Try.prog 57 #[.pointer (some ⟨g, 0, none⟩), v] w fun e w' => e = .returned (.bool (waitsB x p)) ∧ Below w.heap.size w w' := by
  have hm := hmf
  obtain ⟨vd, vn, rfl, hd, hn⟩ := hv
  have HG := Lib.hid hG
  have HN := Lib.hid hn
  have HK := Lib.hid fun (w2 : World) (hb : Below w.heap.size w w2) (hc : w2.cell? ⟨w.heap.size, 0, none⟩ = some (.pointer (some ⟨g, 0, none⟩))) =>
    containsFunc_any vn p.needs 91 #[.pointer (some ⟨w.heap.size, 0, none⟩)] (fun id => (x.find id).isSome) w2 (HN.out.below hb) enters91 (fun W id hid hW => waits_one w.heap.size g mb n x W id ((hW.cell (p := ⟨w.heap.size, 0, none⟩) (World.block_lt_of_cell? w2 _ hc)).trans hc) ((HG.out.below hb).below hW) (hk id hid))
  clear hG hd hn hk
  unfold Pt.val
  go_enter Try.func57, Try.ntmps57
  go_wp2_with fail
  refine (HK.out _ (((Below.refl _ _).alloc (Nat.le_refl _) _).alloc (by simp) _) (by simp [go_sem])).mono ?_
  rintro e w1 ⟨rfl, hb1⟩
  have HB := Lib.hid ((((Below.refl w.heap.size w).alloc (Nat.le_refl _) _).alloc (by simp) _).trans (hb1.mono (by simp; omega)))
  clear hb1
  go_wp2_with fail
  go_ret
  exact ⟨rfl, HB.out⟩
end Go.Proofs.Ytmkfaibjjbgbbaa
