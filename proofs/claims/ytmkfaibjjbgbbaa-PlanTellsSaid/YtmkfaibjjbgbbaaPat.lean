/- A patch as a value; do two meet; a patch of its own. -/
import Derived.Test.YtmkfaibjjbgbbaaArr
import Derived.Deep.RegionHeld3
import Derived.Deep.DrawnRows
import Derived.Deep.QuietTactic
import Derived.BigQuiet
namespace Go.Proofs.Ytmkfaibjjbgbbaa
open Go.RowKit
set_option linter.unusedVariables false

structure Pt where
  id : Int
  sec : Int
  off : Int
  data : List Int
  kind : Int
  needs : List Int
  owner : Int
  child : Int
  written : Bool

def bytes (l : List Int) : List Value := l.map (Value.int .u8)
theorem bytes_len (l : List Int) : (bytes l).length = l.length := by simp [bytes]
theorem bytes_one {l : List Int} : ∀ u ∈ bytes l, u.oneCell' = true := by
  intro u hu
  obtain ⟨x, _, rfl⟩ := List.mem_map.1 hu
  simp [Value.oneCell']
def Pt.val (p : Pt) (vd vn : Value) : Value := .agg #[.int .i64 p.id, .int .i64 p.sec, .int .i64 p.off, vd, .int .i64 p.kind, vn, .int .i64 p.owner, .int .i64 p.child, .bool p.written]
/-- A value that reads as a patch. -/
def PtV (w : World) (v : Value) (p : Pt) : Prop := ∃ vd vn, v = p.val vd vn ∧ Arr w 5 vd (bytes p.data) ∧ Arr w 3 vn (ints p.needs)

section
variable {w w' : World} {v : Value} {p : Pt}
theorem PtV.move (h : PtV w v p) (hb : ∀ g t cs, (t = 3 ∨ t = 5) → Blk w g t cs → Blk w' g t cs) : PtV w' v p := by
  obtain ⟨vd, vn, e, h1, h2⟩ := h
  exact ⟨vd, vn, e, h1.move fun g cs k => hb g 5 cs (.inr rfl) k, h2.move fun g cs k => hb g 3 cs (.inl rfl) k⟩
theorem PtV.below (h : PtV w v p) (hb : Below w.heap.size w w') : PtV w' v p := h.move fun g t cs _ k => k.below hb k.lt
theorem PtV.drewN (h : PtV w v p) (n : Nat) : PtV (w.drewN n) v p := h
theorem PtV.drew (h : PtV w v p) : PtV w.drew v p := h
theorem PtV.alloc (h : PtV w v p) (o : Obj) : PtV (w.alloc o) v p := h.move fun g t cs _ k => k.alloc o
end

/-- Where a patch lies is sound: no sum overflows. -/
def Pt.small (p : Pt) : Prop := 0 ≤ p.off ∧ p.off ≤ 1000 ∧ p.data.length ≤ 1000
def meetB (p q : Pt) : Bool := !decide (p.kind = q.kind) || (decide (p.off < q.off + q.data.length) && decide (q.off < p.off + p.data.length))

set_option maxHeartbeats 400000 in
theorem meet_any (v u : Value) (p q : Pt) (w : World) (hp : PtV w v p) (hq : PtV w u q) (sp : p.small) (sq : q.small) :
    Calls Try.prog 56 #[v, u] w fun e w' => e = .returned (.bool (meetB p q)) ∧ Below w.heap.size w w' := by
  obtain ⟨vd, vn, rfl, hd, hn⟩ := hp
  obtain ⟨ud, un, rfl, kd, kn⟩ := hq
  obtain ⟨A, c, rfl, h1, h2⟩ := hd.len
  obtain ⟨B, d, rfl, k1, k2⟩ := kd.len
  rw [bytes_len] at h1 k1 ⊢
  rw [bytes_len]
  obtain ⟨s1, s2, s3⟩ := sp
  obtain ⟨r1, r2, r3⟩ := sq
  have HM : meetB p q = (!decide (p.kind = q.kind) || (decide (p.off < q.off + q.data.length) && decide (q.off < p.off + p.data.length))) := rfl
  clear hd hn kd kn
  unfold Pt.val
  by_cases hk : p.kind = q.kind
  · have t1 : (p.kind != q.kind) = false := by simp [hk]
    have e1 : IntKind.i64.wrap (q.off + q.data.length) = q.off + q.data.length := IntWalk.i64_in _ (by omega) |>.trans (by omega)
    have e2 : IntKind.i64.wrap (p.off + p.data.length) = p.off + p.data.length := IntWalk.i64_in _ (by omega) |>.trans (by omega)
    by_cases ha : p.off < q.off + q.data.length
    · by_cases hb : q.off < p.off + p.data.length
      · have HF := Lib.hid (show meetB p q = true by rw [HM]; simp [hk, ha, hb])
        clear HM
        go_enter Try.func56, Try.ntmps56
        go_wp2
        go_ret
        exact ⟨by rw [HF.out]; rfl, ((Below.refl _ _).alloc (Nat.le_refl _) _).alloc (by simp) _⟩
      · have HF := Lib.hid (show meetB p q = false by rw [HM]; simp [hk, ha, hb])
        clear HM
        go_enter Try.func56, Try.ntmps56
        go_wp2
        go_ret
        exact ⟨by rw [HF.out]; rfl, ((Below.refl _ _).alloc (Nat.le_refl _) _).alloc (by simp) _⟩
    · have HF := Lib.hid (show meetB p q = false by rw [HM]; simp [hk, ha])
      clear HM
      go_enter Try.func56, Try.ntmps56
      go_wp2
      go_ret
      exact ⟨by rw [HF.out]; rfl, ((Below.refl _ _).alloc (Nat.le_refl _) _).alloc (by simp) _⟩
  · have t1 : (p.kind != q.kind) = true := bne_iff_ne.2 hk
    have HF := Lib.hid (show meetB p q = true by rw [HM]; simp [hk])
    clear HM
    go_enter Try.func56, Try.ntmps56
    go_wp2
    go_ret
    exact ⟨by rw [HF.out]; rfl, ((Below.refl _ _).alloc (Nat.le_refl _) _).alloc (by simp) _⟩
end Go.Proofs.Ytmkfaibjjbgbbaa
