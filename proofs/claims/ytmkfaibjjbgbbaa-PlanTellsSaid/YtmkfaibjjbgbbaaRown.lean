/- own of package scupperref14. -/
import Derived.Test.YtmkfaibjjbgbbaaRef
namespace Go.Proofs.Ytmkfaibjjbgbbaa
open Go.RowKit
set_option linter.unusedVariables false
attribute [local go_sem ↓] Go.wp_at_zero Go.wp_at_succ

set_option maxHeartbeats 2000000 in
set_option maxRecDepth 100000 in
theorem rown_any (v : Value) (p : Pt) (w : World) (hp : PtV w v p) (hl1 : p.data.length ≤ 1000) (hl2 : p.needs.length ≤ 1000) :
    Calls Try.prog 95 #[v] w fun e w' => ∃ r, e = .returned r ∧ PtV w' r p ∧ Below w.heap.size w w' := by
  obtain ⟨i5, hi5, hz5, hz51, hz52⟩ := info_parts info5
  obtain ⟨i3, hi3, hz3, hz31, hz32⟩ := info_parts info3
  obtain ⟨vd, vn, rfl, hd, hn⟩ := hp
  have HD := Lib.hid (Row.of_arr hd)
  have HN := Lib.hid (Row.of_arr hn)
  obtain ⟨A, c, rfl, h1, h2⟩ := hd.len
  obtain ⟨B, d, rfl, k1, k2⟩ := hn.len
  have hbl : (bytes p.data).length ≤ 1000 := by rw [bytes_len]; exact hl1
  have hil : (ints p.needs).length ≤ 1000 := by rw [ints_len]; exact hl2
  clear hd hn
  unfold Pt.val maxLen at *
  go_enter Try.func95, Try.ntmps95
  go_upto_region 1 with (fail)
  obtain ⟨w2, hw2⟩ : ∃ w2, w2 = (w.alloc (.cells #[.int .i64 p.id, .int .i64 p.sec, .int .i64 p.off, .slice A (bytes p.data).length c, .int .i64 p.kind, .slice B (ints p.needs).length d, .int .i64 p.owner, .int .i64 p.child, .bool p.written] 30)).alloc (.cells #[.int .i64 0, .int .i64 0, .int .i64 0, .slice none 0 0, .int .i64 0, .slice none 0 0, .int .i64 0, .int .i64 0, .bool false] 30) := ⟨_, rfl⟩
  rw [← hw2]
  have hB1 : Blk w2 w.heap.size 30 #[.int .i64 p.id, .int .i64 p.sec, .int .i64 p.off, .slice A (bytes p.data).length c, .int .i64 p.kind, .slice B (ints p.needs).length d, .int .i64 p.owner, .int .i64 p.child, .bool p.written] := by rw [hw2]; exact (Blk.new _ _ _).alloc _
  have hB2 : Blk w2 (w.heap.size + 1) 30 #[.int .i64 0, .int .i64 0, .int .i64 0, .slice none 0 0, .int .i64 0, .slice none 0 0, .int .i64 0, .int .i64 0, .bool false] := by
    rw [hw2]
    have := Blk.new (w.alloc (.cells #[.int .i64 p.id, .int .i64 p.sec, .int .i64 p.off, .slice A (bytes p.data).length c, .int .i64 p.kind, .slice B (ints p.needs).length d, .int .i64 p.owner, .int .i64 p.child, .bool p.written] 30)) 30 #[.int .i64 0, .int .i64 0, .int .i64 0, .slice none 0 0, .int .i64 0, .slice none 0 0, .int .i64 0, .int .i64 0, .bool false]
    simpa using this
  have hb2 : Below w.heap.size w w2 := by rw [hw2]; exact ((Below.refl _ _).alloc (Nat.le_refl _) _).alloc (by simp) _
  have hs2 : w.heap.size + 2 ≤ w2.heap.size := by rw [hw2]; simp
  clear hw2
  have H1 := Lib.hid (hB1.alloc (.cells #[] 5))
  have H2 := Lib.hid (hB2.alloc (.cells #[] 5))
  have H3 := Lib.hid (hb2.alloc hb2.size (.cells #[] 5))
  obtain ⟨A', c', e1, hA1, hA2, -, -⟩ := (HD.out.below (hb2.alloc hb2.size (.cells #[] 5))).parts
  injection e1 with e1 e2 e3
  subst e1 e3
  have HA1 := Lib.hid hA1
  have HA2 := Lib.hid hA2
  have x3 := hB1.cell 3
  simp at x3
  have l1 := hB1.lt
  clear hA1 hA2 e2 hB1 hB2 hb2
  go_wp2_with (at_builtin; refine wpList_append_row rfl (.tmp 3) (.tmp 5) 27 rfl w2.heap.size 5 i5 (.int .u8 0) 1 1 Try.underlying27 hi5 hz5 hz51 hz52 rfl (by decide) _ _ _ rfl (World.ownsRow_made w2 #[] 0 (Nat.le_refl _) (Nat.zero_le _) rfl) A _ c (bytes p.data) rfl (by simp) HA1.out HA2.out bytes_one ?c3 ?c4 ?c5 ?_)
  case c3 => simp only [maxLen]; omega
  case c4 => omega
  case c5 => simp
  intro ra wa hra hga _
  have hra' : wa.ownsRow w2.heap.size 5 1 ra (bytes p.data).length (bytes p.data) := by simpa using hra
  obtain ⟨A1, n1, c1, rfl⟩ := owns_shape hra'
  have HRA := Lib.hid hra'
  have hba : Below w2.heap.size (w2.alloc (.cells #[] 5)) wa := ⟨hga.os, hga.tape, hga.output, hga.size, fun i hi => hga.block i (by simp; omega) (fun e => by have e' : i = w2.heap.size := Option.some.inj e; omega)⟩
  have hsa := hga.size
  simp at hsa
  have hX1 := H1.out.below (w' := wa) (hba.mono (show w.heap.size + 2 ≤ w2.heap.size by omega)) (by omega)
  have hX2 := H2.out.below (w' := wa) (hba.mono (show w.heap.size + 2 ≤ w2.heap.size by omega)) (by omega)
  have HX1 := Lib.hid hX1
  have HX2 := Lib.hid hX2
  have HB1 := Lib.hid (H3.out.trans (hba.mono (show w.heap.size ≤ w2.heap.size by omega)))
  have f3 := hX1.frozen 3
  have y3 := hX1.cell 3
  have y5 := hX1.cell 5
  simp at y3 y5
  have l2 : w.heap.size < wa.heap.size := by omega
  have T3 := (Turn.refl (fun j => j = w.heap.size) wa).setCell (p := ⟨w.heap.size, 3, none⟩) (fun _ => rfl) (.slice A1 n1 c1)
  have hY1 := hX1.set_ 3 (.slice A1 n1 c1)
  have hY2 := hX2.far (p := ⟨w.heap.size, 3, none⟩) (by simp) (.slice A1 n1 c1)
  have hBs := HB1.out.trans (T3.below (B := w.heap.size) (by omega) (fun i hi e => by omega))
  have HRA2 := Lib.hid (owns_keep hra' (fun g hg => by
    have := World.ownsRow.lt hra' g hg
    exact T3.block g this.2 (by omega)))
  have HT3 := Lib.hid T3
  obtain ⟨w3, hw3⟩ : ∃ w3, w3 = wa.setCell ⟨w.heap.size, 3, none⟩ (.slice A1 n1 c1) := ⟨_, rfl⟩
  have hs3 : w3.heap.size = wa.heap.size := by rw [hw3]; simp [World.setCell]
  clear hra hra' hga hba hX1 hX2 T3 x3 l1
  go_upto_region 2 with (fail)
  rw [← hw3] at hY1 hY2 hBs HRA2 HT3 ⊢
  have hBs' := hBs.alloc hBs.size (.cells #[] 3)
  obtain ⟨B', d', e1, hB1, hB2, -, -⟩ := (HN.out.below hBs').parts
  injection e1 with e1 e2 e3
  subst e1 e3
  have HB1' := Lib.hid hB1
  have HB2' := Lib.hid hB2
  have HY1 := Lib.hid (hY1.alloc (.cells #[] 3))
  have HY2 := Lib.hid (hY2.alloc (.cells #[] 3))
  have HBs := Lib.hid hBs'
  have x5 := hY1.cell 5
  simp at x5
  have l3 : w.heap.size < w3.heap.size := hY1.lt
  have hs3' : w2.heap.size ≤ w3.heap.size := by omega
  clear hB1 hB2 e2 hY1 hY2 hBs hBs' hw3 f3 y3 y5 hs3
  go_wp2_with (at_builtin; refine wpList_append_row rfl (.tmp 8) (.tmp 10) 28 rfl w3.heap.size 3 i3 (.int .i64 0) 1 8 Try.underlying28 hi3 hz3 hz31 hz32 rfl (by decide) _ _ _ rfl (World.ownsRow_made w3 #[] 0 (Nat.le_refl _) (Nat.zero_le _) rfl) B _ d (ints p.needs) rfl (by simp) HB1'.out HB2'.out ints_one ?c3 ?c4 ?c5 ?_)
  case c3 => simp only [maxLen]; omega
  case c4 => omega
  case c5 => simp
  intro rb wb hrb hgb _
  have hrb' : wb.ownsRow w3.heap.size 3 1 rb (ints p.needs).length (ints p.needs) := by simpa using hrb
  obtain ⟨B1, n2, c2, rfl⟩ := owns_shape hrb'
  have hsb := hgb.size
  simp at hsb
  have hbb : Below w3.heap.size (w3.alloc (.cells #[] 3)) wb := ⟨hgb.os, hgb.tape, hgb.output, hgb.size, fun i hi => hgb.block i (by simp; omega) (fun e => by have e' : i = w3.heap.size := Option.some.inj e; omega)⟩
  have hZ1 := HY1.out.below (w' := wb) hbb l3
  have HZ2 := Lib.hid (HY2.out.below (w' := wb) hbb (by omega))
  have HBb := Lib.hid (HBs.out.trans (hbb.mono (show w.heap.size ≤ w3.heap.size by omega)))
  have HD2 := Lib.hid (Arr.of_own (owns_keep HRA2.out (fun g hg => by
    have h1 := World.ownsRow.lt HRA2.out g hg
    exact (hbb.block g h1.2).trans (Below.heap_alloc w3 (.cells #[] 3) g h1.2))))
  have HN2 := Lib.hid (Arr.of_own hrb')
  have hlenA : n1 = (bytes p.data).length := by
    obtain ⟨A', c', e, _⟩ := HD2.out.len
    injection e
  have hlenB : n2 = (ints p.needs).length := by
    obtain ⟨A', c', e, _⟩ := HN2.out.len
    injection e
  have q := hZ1.cell
  have q0 := q 0
  have q1 := q 1
  have q2 := q 2
  have q3 := q 3
  have q4 := q 4
  have q5 := q 5
  have q6 := q 6
  have q7 := q 7
  have q8 := q 8
  simp at q0 q1 q2 q3 q4 q5 q6 q7 q8
  have f5 := hZ1.frozen 5
  have r := HZ2.out.cell
  have r0 := r 0
  have r1 := r 1
  have r2 := r 2
  have r3 := r 3
  have r4 := r 4
  have r5 := r 5
  have r6 := r 6
  have r7 := r 7
  have r8 := r 8
  simp at r0 r1 r2 r3 r4 r5 r6 r7 r8
  have e := HZ2.out.frozen
  have e0 := e 0
  have e1 := e 1
  have e2 := e 2
  have e3 := e 3
  have e4 := e 4
  have e5 := e 5
  have e6 := e 6
  have e7 := e 7
  have e8 := e 8
  have l4 : w.heap.size < wb.heap.size := hZ1.lt
  have l5 : w.heap.size + 1 < wb.heap.size := HZ2.out.lt
  have HZ1 := Lib.hid hZ1
  have HlA := Lib.hid hlenA
  have HlB := Lib.hid hlenB
  clear hrb hrb' hgb hbb hZ1 q r e x5 hlenA hlenB
  go_wp2
  have F := ((((((((((HZ2.out.far (p := ⟨w.heap.size, 5, none⟩) (by simp) (.slice B1 n2 c2)).set_ 0 (.int .i64 p.id)).set_ 1 (.int .i64 p.sec)).set_ 2 (.int .i64 p.off)).set_ 3 (.slice A1 n1 c1)).set_ 4 (.int .i64 p.kind)).set_ 5 (.slice B1 n2 c2)).set_ 6 (.int .i64 p.owner)).set_ 7 (.int .i64 p.child)).set_ 8 (.bool p.written))
  have T := (((((((((((Turn.refl (fun j => j = w.heap.size ∨ j = w.heap.size + 1) wb).setCell (p := ⟨w.heap.size, 5, none⟩) (fun _ => .inl rfl) (.slice B1 n2 c2)).setCell (p := ⟨w.heap.size + 1, 0, none⟩) (fun _ => .inr rfl) (.int .i64 p.id)).setCell (p := ⟨w.heap.size + 1, 1, none⟩) (fun _ => .inr rfl) (.int .i64 p.sec)).setCell (p := ⟨w.heap.size + 1, 2, none⟩) (fun _ => .inr rfl) (.int .i64 p.off)).setCell (p := ⟨w.heap.size + 1, 3, none⟩) (fun _ => .inr rfl) (.slice A1 n1 c1)).setCell (p := ⟨w.heap.size + 1, 4, none⟩) (fun _ => .inr rfl) (.int .i64 p.kind)).setCell (p := ⟨w.heap.size + 1, 5, none⟩) (fun _ => .inr rfl) (.slice B1 n2 c2)).setCell (p := ⟨w.heap.size + 1, 6, none⟩) (fun _ => .inr rfl) (.int .i64 p.owner)).setCell (p := ⟨w.heap.size + 1, 7, none⟩) (fun _ => .inr rfl) (.int .i64 p.child)).setCell (p := ⟨w.heap.size + 1, 8, none⟩) (fun _ => .inr rfl) (.bool p.written))
  have hbl := HBb.out.trans (T.below (B := w.heap.size) (by omega) (fun i hi e => by omega))
  have ha := HD2.out.turn T fun g cs k e => e.elim (fun e => k.ne_ HZ1.out (by decide) e) (fun e => k.ne_ HZ2.out (by decide) e)
  have hn2 := HN2.out.turn T fun g cs k e => e.elim (fun e => k.ne_ HZ1.out (by decide) e) (fun e => k.ne_ HZ2.out (by decide) e)
  have z0 := F.cell 0
  have z1 := F.cell 1
  have z2 := F.cell 2
  have z3 := F.cell 3
  have z4 := F.cell 4
  have z5 := F.cell 5
  have z6 := F.cell 6
  have z7 := F.cell 7
  have z8 := F.cell 8
  generalize ((((((((((wb.setCell ⟨w.heap.size, 5, none⟩ (.slice B1 n2 c2)).setCell ⟨w.heap.size + 1, 0, none⟩ (.int .i64 p.id)).setCell ⟨w.heap.size + 1, 1, none⟩ (.int .i64 p.sec)).setCell ⟨w.heap.size + 1, 2, none⟩ (.int .i64 p.off)).setCell ⟨w.heap.size + 1, 3, none⟩ (.slice A1 n1 c1)).setCell ⟨w.heap.size + 1, 4, none⟩ (.int .i64 p.kind)).setCell ⟨w.heap.size + 1, 5, none⟩ (.slice B1 n2 c2)).setCell ⟨w.heap.size + 1, 6, none⟩ (.int .i64 p.owner)).setCell ⟨w.heap.size + 1, 7, none⟩ (.int .i64 p.child)).setCell ⟨w.heap.size + 1, 8, none⟩ (.bool p.written)) = X at *
  simp at z0 z1 z2 z3 z4 z5 z6 z7 z8
  exact bodyPost_ret (v := p.val (.slice A1 n1 c1) (.slice B1 n2 c2)) (by simp [results, Try.results95, go_sem, Pt.val, z0, z1, z2, z3, z4, z5, z6, z7, z8]) rfl ⟨_, rfl, ⟨_, _, rfl, ha, hn2⟩, hbl⟩
end Go.Proofs.Ytmkfaibjjbgbbaa
