/- A graph: its struct, its map, and the patches there; New. -/
import Derived.Test.YtmkfaibjjbgbbaaOwn
import Derived.Test.YtmkfaibjjbgbbaaFunc
namespace Go.Proofs.Ytmkfaibjjbgbbaa
open Go.RowKit
set_option linter.unusedVariables false

/-- A graph: the last number given, and the patches by rising numbers. -/
structure G where
  last : Int
  l : List Pt

def G.find (x : G) (k : Int) : Option Pt := x.l.find? fun p => decide (p.id = k)
/-- A patch that a graph may hold. -/
def Pt.good (p : Pt) (last : Int) : Prop :=
  (1 ≤ p.id ∧ p.id ≤ last) ∧ (0 ≤ p.sec ∧ p.sec ≤ 2047) ∧ (0 ≤ p.off ∧ p.off ≤ 64) ∧ (1 ≤ p.data.length ∧ p.data.length ≤ 64) ∧ p.needs.length ≤ 1000
def G.ok (x : G) : Prop := (0 ≤ x.last ∧ x.last ≤ 1000000) ∧ (∀ p ∈ x.l, p.good x.last) ∧ x.l.Pairwise (fun p q => p.id < q.id)

/-- What the map holds is the patches. -/
def Holds (w : World) (f : Int → Option Value) (x : G) : Prop := ∀ k, match x.find k with | some p => ∃ v, f k = some v ∧ PtV w v p | none => f k = none
def Gr (w : World) (g mb n : Nat) (x : G) : Prop := Blk w g 79 #[.int .i64 x.last, .map (some mb)] ∧ ∃ f, MapIs w mb n f ∧ Holds w f x

section
variable {w w' : World} {g mb n : Nat} {x : G} {f : Int → Option Value}
theorem Holds.move (h : Holds w f x) (hb : ∀ g t cs, (t = 3 ∨ t = 5) → Blk w g t cs → Blk w' g t cs) : Holds w' f x := by
  intro k
  have := h k
  cases hk : x.find k with
  | none => rw [hk] at this; exact this
  | some p =>
    rw [hk] at this
    obtain ⟨v, e, hv⟩ := this
    exact ⟨v, e, hv.move hb⟩
theorem Holds.some (h : Holds w f x) {k : Int} {p : Pt} (hk : x.find k = some p) : ∃ v, f k = some v ∧ PtV w v p := by
  have := h k
  rw [hk] at this
  exact this
theorem Holds.none (h : Holds w f x) {k : Int} (hk : x.find k = none) : f k = none := by
  have := h k
  rw [hk] at this
  exact this
theorem Gr.below (h : Gr w g mb n x) (hb : Below w.heap.size w w') : Gr w' g mb n x := by
  obtain ⟨hg, f, hm, hh⟩ := h
  exact ⟨hg.below hb hg.lt, f, hm.keep (hb.block mb hm.lt), hh.move fun g t cs _ k => k.below hb k.lt⟩
theorem Gr.drewN (h : Gr w g mb n x) (k : Nat) : Gr (w.drewN k) g mb n x := h
theorem Gr.drew (h : Gr w g mb n x) : Gr w.drew g mb n x := h
theorem Gr.alloc (h : Gr w g mb n x) (o : Obj) : Gr (w.alloc o) g mb n x := h.below ((Below.refl _ _).alloc (Nat.le_refl _) o)
theorem Gr.mono (h : Gr w g mb n x) {m : Nat} (hn : n ≤ m) : Gr w g mb m x := by
  obtain ⟨hg, f, hm, hh⟩ := h
  exact ⟨hg, f, hm.mono hn, hh⟩
theorem Gr.lt (h : Gr w g mb n x) : g < w.heap.size := h.1.lt
theorem Gr.ltm (h : Gr w g mb n x) : mb < w.heap.size := by obtain ⟨_, f, hm, _⟩ := h; exact hm.lt
theorem Gr.ne (h : Gr w g mb n x) : mb ≠ g := by obtain ⟨hg, f, hm, _⟩ := h; exact hm.not_blk hg
theorem Gr.c0 (h : Gr w g mb n x) : w.cell? ⟨g, 0, Option.none⟩ = Option.some (.int .i64 x.last) := h.1.cell 0
theorem Gr.c1 (h : Gr w g mb n x) : w.cell? ⟨g, 1, Option.none⟩ = Option.some (.map (Option.some mb)) := h.1.cell 1
end

def G.none : G := ⟨0, []⟩
theorem G.none_ok : G.none.ok := ⟨⟨by decide, by decide⟩, fun p hp => (by cases hp), List.Pairwise.nil⟩

/-- graph.New. -/
theorem new_any (w : World) : Calls Try.prog 11 #[] w fun e w' => ∃ g mb, e = .returned (.pointer (some ⟨g, 0, none⟩)) ∧ Gr w' g mb 0 G.none ∧ Below w.heap.size w w' ∧ w.heap.size ≤ g ∧ w.heap.size ≤ mb := by
  have hmm := @run_makeMap Try.prog
  go_enter Try.func11, Try.ntmps11
  go_wp2
  go_ret
  refine ⟨_, _, rfl, ⟨?_, fun _ => none, (MapIs.new w).alloc _, fun k => rfl⟩, ((Below.refl _ _).alloc (Nat.le_refl _) _).alloc (by simp) _, by simp, Nat.le_refl _⟩
  have := Blk.new (w.alloc (.map #[] 0)) 79 #[.int .i64 0, .map (some w.heap.size)]
  unfold G.none
  simpa using this
end Go.Proofs.Ytmkfaibjjbgbbaa
