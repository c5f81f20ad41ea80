/- graph.Get. -/
import Derived.Test.YtmkfaibjjbgbbaaNil
namespace Go.Proofs.Ytmkfaibjjbgbbaa
open Go.RowKit
set_option linter.unusedVariables false

/-- No such patch. -/
theorem get_none (g mb n : Nat) (x : G) (s : Int) (w : World) (hG : Gr w g mb n x) (hk : (key s).wf = true) (hf : x.find s = none) :
    Calls Try.prog 24 #[.pointer (some ⟨g, 0, none⟩), .int .i64 s] w fun e w' => e = .returned (.tuple #[zeroV, .int .i64 5]) ∧ Below w.heap.size w w' := by
  have c1 := hG.c1
  have hgl := hG.lt
  rcases hG.look hk with ⟨p, A1, k1, A2, k2, hf', hv, hl⟩ | ⟨hf', hl⟩
  · rw [hf] at hf'; cases hf'
  have hl2 := (hl (w.alloc (.cells #[.int .i64 0, .int .i64 0, .int .i64 0, .slice none 0 0, .int .i64 0, .slice none 0 0, .int .i64 0, .int .i64 0, .bool false] 30)) ((Below.refl _ _).alloc (Nat.le_refl _) _)).2
  unfold zeroV at hl2
  clear hl hf hf' hG
  go_enter Try.func24, Try.ntmps24
  go_wp2
  exact bodyPost_ret (v := .tuple #[zeroV, .int .i64 5]) (by simp [results, Try.results24, go_sem, zeroV]) rfl ⟨rfl, ((Below.refl _ _).alloc (Nat.le_refl _) _).alloc (by simp) _⟩

set_option maxHeartbeats 1000000 in
theorem get_some (g mb n : Nat) (x : G) (s : Int) (p : Pt) (w : World) (hG : Gr w g mb n x) (hk : (key s).wf = true) (hf : x.find s = some p) (hl1 : p.data.length ≤ 1000) (hl2 : p.needs.length ≤ 1000) :
    Calls Try.prog 24 #[.pointer (some ⟨g, 0, none⟩), .int .i64 s] w fun e w' => ∃ r, e = .returned (.tuple #[r, .int .i64 0]) ∧ PtV w' r p ∧ Below w.heap.size w w' := by
  have c1 := hG.c1
  have hgl := hG.lt
  rcases hG.look hk with ⟨p', A1, k1, A2, k2, hf', hv, hl⟩ | ⟨hf', hl⟩
  case inr => rw [hf] at hf'; cases hf'
  rw [hf] at hf'
  obtain rfl : p = p' := Option.some.inj hf'
  have hl2' := (hl (w.alloc (.cells #[.int .i64 0, .int .i64 0, .int .i64 0, .slice none 0 0, .int .i64 0, .slice none 0 0, .int .i64 0, .int .i64 0, .bool false] 30)) ((Below.refl _ _).alloc (Nat.le_refl _) _)).2
  obtain ⟨hpm, rfl⟩ := find_mem hf
  have HV := Lib.hid hv
  have hR0 : Blk ((w.alloc (.cells #[.int .i64 0, .int .i64 0, .int .i64 0, .slice none 0 0, .int .i64 0, .slice none 0 0, .int .i64 0, .int .i64 0, .bool false] 30)).alloc (.cells #[.int .i64 p.id, .int .i64 p.sec, .int .i64 p.off, .slice A1 (bytes p.data).length k1, .int .i64 p.kind, .slice A2 (ints p.needs).length k2, .int .i64 p.owner, .int .i64 p.child, .bool p.written] 30)) w.heap.size 30 #[.int .i64 0, .int .i64 0, .int .i64 0, .slice none 0 0, .int .i64 0, .slice none 0 0, .int .i64 0, .int .i64 0, .bool false] := (Blk.new _ _ _).alloc _
  have HR0 := Lib.hid hR0
  clear hl hf hf' hG hv hR0
  unfold Pt.val at *
  go_enter Try.func24, Try.ntmps24
  go_wp2_with fail
  refine (own_any _ p _ ((HV.out.alloc _).alloc _) hl1 hl2).mono ?_
  rintro e w2 ⟨r, rfl, ⟨vd, vn, rfl, hd, hn⟩, hb⟩
  obtain ⟨A3, c3, rfl, -, -⟩ := hd.len
  obtain ⟨A4, c4, rfl, -, -⟩ := hn.len
  have hR := Lib.hid (HR0.out.below hb (by simp; omega))
  have HB := Lib.hid ((((Below.refl w.heap.size w).alloc (Nat.le_refl _) (.cells #[.int .i64 0, .int .i64 0, .int .i64 0, .slice none 0 0, .int .i64 0, .slice none 0 0, .int .i64 0, .int .i64 0, .bool false] 30)).alloc (by simp) (.cells #[.int .i64 p.id, .int .i64 p.sec, .int .i64 p.off, .slice A1 (bytes p.data).length k1, .int .i64 p.kind, .slice A2 (ints p.needs).length k2, .int .i64 p.owner, .int .i64 p.child, .bool p.written] 30)).trans (hb.mono (by simp; omega)))
  have HD := Lib.hid hd
  have HN := Lib.hid hn
  have hlt : w.heap.size < w2.heap.size := hR.out.lt
  have e := hR.out.frozen
  have e0 := e 0
  have e1 := e 1
  have e2 := e 2
  have e3 := e 3
  have e4 := e 4
  have e5 := e 5
  have e6 := e 6
  have e7 := e 7
  have e8 := e 8
  have q := hR.out.cell
  have q0 := q 0
  have q1 := q 1
  have q2 := q 2
  have q3 := q 3
  have q4 := q 4
  have q5 := q 5
  have q6 := q 6
  have q7 := q 7
  have q8 := q 8
  simp at q0 q1 q2 q3 q4 q5 q6 q7 q8
  clear e q hb hd hn
  unfold Pt.val
  go_wp2
  have F := (((((((((hR.out.set_ 0 (.int .i64 p.id)).set_ 1 (.int .i64 p.sec)).set_ 2 (.int .i64 p.off)).set_ 3 (.slice A3 (bytes p.data).length c3)).set_ 4 (.int .i64 p.kind)).set_ 5 (.slice A4 (ints p.needs).length c4)).set_ 6 (.int .i64 p.owner)).set_ 7 (.int .i64 p.child)).set_ 8 (.bool p.written))
  have T := ((((((((((Turn.refl (fun j => j = w.heap.size) w2).setCell (p := ⟨w.heap.size, 0, none⟩) (fun _ => rfl) (.int .i64 p.id)).setCell (p := ⟨w.heap.size, 1, none⟩) (fun _ => rfl) (.int .i64 p.sec)).setCell (p := ⟨w.heap.size, 2, none⟩) (fun _ => rfl) (.int .i64 p.off)).setCell (p := ⟨w.heap.size, 3, none⟩) (fun _ => rfl) (.slice A3 (bytes p.data).length c3)).setCell (p := ⟨w.heap.size, 4, none⟩) (fun _ => rfl) (.int .i64 p.kind)).setCell (p := ⟨w.heap.size, 5, none⟩) (fun _ => rfl) (.slice A4 (ints p.needs).length c4)).setCell (p := ⟨w.heap.size, 6, none⟩) (fun _ => rfl) (.int .i64 p.owner)).setCell (p := ⟨w.heap.size, 7, none⟩) (fun _ => rfl) (.int .i64 p.child)).setCell (p := ⟨w.heap.size, 8, none⟩) (fun _ => rfl) (.bool p.written))
  have hbl := HB.out.trans (T.below (B := w.heap.size) (by omega) (fun i hi e => by omega))
  have ha := HD.out.turn T fun g cs k e => k.ne_ hR.out (by decide) e
  have hn2 := HN.out.turn T fun g cs k e => k.ne_ hR.out (by decide) e
  have z0 := F.cell 0
  have z1 := F.cell 1
  have z2 := F.cell 2
  have z3 := F.cell 3
  have z4 := F.cell 4
  have z5 := F.cell 5
  have z6 := F.cell 6
  have z7 := F.cell 7
  have z8 := F.cell 8
  generalize (((((((((w2.setCell ⟨w.heap.size, 0, none⟩ (.int .i64 p.id)).setCell ⟨w.heap.size, 1, none⟩ (.int .i64 p.sec)).setCell ⟨w.heap.size, 2, none⟩ (.int .i64 p.off)).setCell ⟨w.heap.size, 3, none⟩ (.slice A3 (bytes p.data).length c3)).setCell ⟨w.heap.size, 4, none⟩ (.int .i64 p.kind)).setCell ⟨w.heap.size, 5, none⟩ (.slice A4 (ints p.needs).length c4)).setCell ⟨w.heap.size, 6, none⟩ (.int .i64 p.owner)).setCell ⟨w.heap.size, 7, none⟩ (.int .i64 p.child)).setCell ⟨w.heap.size, 8, none⟩ (.bool p.written)) = X at *
  simp at z0 z1 z2 z3 z4 z5 z6 z7 z8
  exact bodyPost_ret (v := .tuple #[p.val (.slice A3 (bytes p.data).length c3) (.slice A4 (ints p.needs).length c4), .int .i64 0]) (by simp [results, Try.results24, go_sem, Pt.val, z0, z1, z2, z3, z4, z5, z6, z7, z8]) rfl ⟨_, rfl, ⟨_, _, rfl, ha, hn2⟩, hbl⟩
end Go.Proofs.Ytmkfaibjjbgbbaa
