/- graph.own: a patch of its own. -/
import Derived.Test.YtmkfaibjjbgbbaaPat
namespace Go.Proofs.Ytmkfaibjjbgbbaa
open Go.RowKit
set_option linter.unusedVariables false
attribute [local go_sem ↓] Go.wp_at_zero Go.wp_at_succ

set_option maxHeartbeats 1000000 in
theorem own_any (v : Value) (p : Pt) (w : World) (hp : PtV w v p) (hl : p.data.length ≤ 1000) (hn : p.needs.length ≤ 1000) :
    Calls Try.prog 47 #[v] w fun e w' => ∃ r, e = .returned r ∧ PtV w' r p ∧ Below w.heap.size w w' := by
  obtain ⟨vd, vn, rfl, hd, hn'⟩ := hp
  have HD := Lib.hid hd
  have HN := Lib.hid hn'
  clear hd hn'
  unfold Pt.val
  go_enter Try.func47, Try.ntmps47
  go_wp2_with fail
  have HA := Lib.hid fun (W : World) (h : Below w.heap.size w W) => clone_bytes vd (bytes p.data) W (HD.out.below h) bytes_one (by rw [bytes_len]; omega)
  have HB := Lib.hid fun (W : World) (h : Below w.heap.size w W) => clone_ints vn (ints p.needs) W (HN.out.below h) ints_one (by rw [ints_len]; omega)
  generalize hv : Value.agg #[Value.int IntKind.i64 p.id, Value.int IntKind.i64 p.sec, Value.int IntKind.i64 p.off, vd, Value.int IntKind.i64 p.kind, vn, Value.int IntKind.i64 p.owner, Value.int IntKind.i64 p.child, Value.bool p.written] = vp
  obtain ⟨w2, hw2⟩ : ∃ w2, w2 = ((w.alloc (Obj.cells #[Value.int IntKind.i64 p.id, Value.int IntKind.i64 p.sec, Value.int IntKind.i64 p.off, vd, Value.int IntKind.i64 p.kind, vn, Value.int IntKind.i64 p.owner, Value.int IntKind.i64 p.child, Value.bool p.written] 30)).alloc
      (Obj.cells #[Value.int IntKind.i64 0, Value.int IntKind.i64 0, Value.int IntKind.i64 0, Value.slice none 0 0, Value.int IntKind.i64 0, Value.slice none 0 0, Value.int IntKind.i64 0, Value.int IntKind.i64 0, Value.bool false] 30)) := ⟨_, rfl⟩
  have hB1 : Blk w2 w.heap.size 30 #[.int .i64 p.id, .int .i64 p.sec, .int .i64 p.off, vd, .int .i64 p.kind, vn, .int .i64 p.owner, .int .i64 p.child, .bool p.written] := by rw [hw2]; exact (Blk.new _ _ _).alloc _
  have hB2 : Blk w2 (w.heap.size + 1) 30 #[.int .i64 0, .int .i64 0, .int .i64 0, .slice none 0 0, .int .i64 0, .slice none 0 0, .int .i64 0, .int .i64 0, .bool false] := by
    rw [hw2]
    have := Blk.new (w.alloc (Obj.cells #[Value.int IntKind.i64 p.id, Value.int IntKind.i64 p.sec, Value.int IntKind.i64 p.off, vd, Value.int IntKind.i64 p.kind, vn, Value.int IntKind.i64 p.owner, Value.int IntKind.i64 p.child, Value.bool p.written] 30)) 30 #[.int .i64 0, .int .i64 0, .int .i64 0, .slice none 0 0, .int .i64 0, .slice none 0 0, .int .i64 0, .int .i64 0, .bool false]
    simpa using this
  have hb2 : Below w.heap.size w w2 := by rw [hw2]; exact ((Below.refl _ _).alloc (Nat.le_refl _) _).alloc (by simp) _
  have hs2 : w2.heap.size = w.heap.size + 2 := by rw [hw2]; simp
  rw [← hw2]
  clear hw2
  have c3 := hB1.cell 3
  have c5 := hB1.cell 5
  have H1 := Lib.hid hB1
  have H2 := Lib.hid hB2
  have H3 := Lib.hid hb2
  clear hB1 hB2 hb2
  have kA := Lib.hid fun (W W' : World) (h : Below w2.heap.size w2 W) (k : Below W.heap.size W W') => h.trans (k.mono h.size)
  have hz : Below w2.heap.size w2 w2.drew := (Below.refl _ _).drew
  have cc := Lib.hid fun (W : World) (h : Below w2.heap.size w2 W) => show W.cell? ⟨w.heap.size, 3, none⟩ = some vd ∧ W.cell? ⟨w.heap.size, 5, none⟩ = some vn ∧ W.frozen? ⟨w.heap.size, 3, none⟩ = false ∧ W.frozen? ⟨w.heap.size, 5, none⟩ = false ∧ w.heap.size < W.heap.size from
    ⟨((H1.out.below h (by omega)).cell 3), ((H1.out.below h (by omega)).cell 5), (H1.out.below h (by omega)).frozen 3, (H1.out.below h (by omega)).frozen 5, by have := h.size; omega⟩
  have hzw : Below w.heap.size w w2.drew := H3.out.trans (hz.mono (by omega))
  go_region_with (first
      | (go_at_call 85; refine (HA.out _ hzw).mono ?_; rintro e wa ⟨ra, rfl, haa, hba⟩; obtain ⟨A1, c1, rfl, _, _⟩ := haa.len; have hza := kA.out _ _ hz hba; have hzaw := H3.out.trans (hza.mono (show w.heap.size ≤ w2.heap.size by omega)); obtain ⟨ca3, ca5, fa3, fa5, la⟩ := cc.out _ hza)
      | (go_at_call 78; refine (HB.out _ hzaw).mono ?_; rintro e wb ⟨rb, rfl, hab, hbb⟩; obtain ⟨A2, c2, rfl, _, _⟩ := hab.len; have hzb := kA.out _ _ hza hbb; obtain ⟨cb3, cb5, fb3, fb5, lb⟩ := cc.out _ hzb))
  all_goals
    have hB1 := (((H1.out.below hzb (by omega)).set_ 3 (.slice A1 (bytes p.data).length c1)).set_ 5 (.slice A2 (ints p.needs).length c2))
    have hB2 := ((H2.out.below hzb (by omega)).far (p := ⟨w.heap.size, 3, none⟩) (by simp) (.slice A1 (bytes p.data).length c1)).far (p := ⟨w.heap.size, 5, none⟩) (by simp) (.slice A2 (ints p.needs).length c2)
    have hX := H1.out.below hzb (by omega)
    have HA2 := Lib.hid (((haa.below hbb).far hX (by decide) 3 (.slice A1 (bytes p.data).length c1)).far (hX.set_ 3 _) (by decide) 5 (.slice A2 (ints p.needs).length c2))
    have HN2 := Lib.hid ((hab.far hX (by decide) 3 (.slice A1 (bytes p.data).length c1)).far (hX.set_ 3 _) (by decide) 5 (.slice A2 (ints p.needs).length c2))
    have HB3 := Lib.hid (show Below w.heap.size w ((wb.setCell ⟨w.heap.size, 3, none⟩ (.slice A1 (bytes p.data).length c1)).setCell ⟨w.heap.size, 5, none⟩ (.slice A2 (ints p.needs).length c2)) from
      ((H3.out.trans (hzb.mono (show w.heap.size ≤ w2.heap.size by omega))).setCell (Nat.le_refl _) _).setCell (Nat.le_refl _) _)
    have hlt : w.heap.size + 1 < ((wb.setCell ⟨w.heap.size, 3, none⟩ (.slice A1 (bytes p.data).length c1)).setCell ⟨w.heap.size, 5, none⟩ (.slice A2 (ints p.needs).length c2)).heap.size := hB2.lt
    generalize (wb.setCell ⟨w.heap.size, 3, none⟩ (.slice A1 (bytes p.data).length c1)).setCell ⟨w.heap.size, 5, none⟩ (.slice A2 (ints p.needs).length c2) = W at *
    have d0 := hB1.cell 0
    have d1 := hB1.cell 1
    have d2 := hB1.cell 2
    have d3 := hB1.cell 3
    have d4 := hB1.cell 4
    have d5 := hB1.cell 5
    have d6 := hB1.cell 6
    have d7 := hB1.cell 7
    have d8 := hB1.cell 8
    simp at d0 d1 d2 d3 d4 d5 d6 d7 d8
    have e := hB2.frozen
    have k0 := hB2.cell 0
    have k1 := hB2.cell 1
    have k2 := hB2.cell 2
    have k3 := hB2.cell 3
    have k4 := hB2.cell 4
    have k5 := hB2.cell 5
    have k6 := hB2.cell 6
    have k7 := hB2.cell 7
    have k8 := hB2.cell 8
    simp at k0 k1 k2 k3 k4 k5 k6 k7 k8
    have G1 := Lib.hid hB1
    have G2 := Lib.hid hB2
    clear hB1 hB2 hX ca3 ca5 fa3 fa5 la cb3 cb5 fb3 fb5 lb hza hzaw hzw hz c3 c5 H1 H2 H3 cc kA HA HB HD HN haa hab hba hbb hzb hv
    have e0 := e 0
    have e1 := e 1
    have e2 := e 2
    have e3 := e 3
    have e4 := e 4
    have e5 := e 5
    have e6 := e 6
    have e7 := e 7
    have e8 := e 8
    clear e
    go_wp2
    have F := ((((((((G2.out.set_ 0 (.int .i64 p.id)).set_ 1 (.int .i64 p.sec)).set_ 2 (.int .i64 p.off)).set_ 3 (.slice A1 (bytes p.data).length c1)).set_ 4 (.int .i64 p.kind)).set_ 5 (.slice A2 (ints p.needs).length c2)).set_ 6 (.int .i64 p.owner)).set_ 7 (.int .i64 p.child)).set_ 8 (.bool p.written)
    have T := ((((((((((Turn.refl (· = w.heap.size + 1) W).setCell (p := ⟨w.heap.size + 1, 0, none⟩) (fun _ => rfl) (.int .i64 p.id)).setCell (p := ⟨w.heap.size + 1, 1, none⟩) (fun _ => rfl) (.int .i64 p.sec)).setCell (p := ⟨w.heap.size + 1, 2, none⟩) (fun _ => rfl) (.int .i64 p.off)).setCell (p := ⟨w.heap.size + 1, 3, none⟩) (fun _ => rfl) (.slice A1 (bytes p.data).length c1)).setCell (p := ⟨w.heap.size + 1, 4, none⟩) (fun _ => rfl) (.int .i64 p.kind)).setCell (p := ⟨w.heap.size + 1, 5, none⟩) (fun _ => rfl) (.slice A2 (ints p.needs).length c2)).setCell (p := ⟨w.heap.size + 1, 6, none⟩) (fun _ => rfl) (.int .i64 p.owner)).setCell (p := ⟨w.heap.size + 1, 7, none⟩) (fun _ => rfl) (.int .i64 p.child)).setCell (p := ⟨w.heap.size + 1, 8, none⟩) (fun _ => rfl) (.bool p.written))
    have hbl := HB3.out.trans (T.below (B := w.heap.size) (by have := HB3.out.size; omega) (fun i hi e => by omega))
    have ha := HA2.out.turn T fun g cs k e => k.ne_ G2.out (by decide) e
    have hn2 := HN2.out.turn T fun g cs k e => k.ne_ G2.out (by decide) e
    have q0 := F.cell 0
    have q1 := F.cell 1
    have q2 := F.cell 2
    have q3 := F.cell 3
    have q4 := F.cell 4
    have q5 := F.cell 5
    have q6 := F.cell 6
    have q7 := F.cell 7
    have q8 := F.cell 8
    generalize ((((((((W.setCell ⟨w.heap.size + 1, 0, none⟩ (.int .i64 p.id)).setCell ⟨w.heap.size + 1, 1, none⟩ (.int .i64 p.sec)).setCell ⟨w.heap.size + 1, 2, none⟩ (.int .i64 p.off)).setCell ⟨w.heap.size + 1, 3, none⟩ (.slice A1 (bytes p.data).length c1)).setCell ⟨w.heap.size + 1, 4, none⟩ (.int .i64 p.kind)).setCell ⟨w.heap.size + 1, 5, none⟩ (.slice A2 (ints p.needs).length c2)).setCell ⟨w.heap.size + 1, 6, none⟩ (.int .i64 p.owner)).setCell ⟨w.heap.size + 1, 7, none⟩ (.int .i64 p.child)).setCell ⟨w.heap.size + 1, 8, none⟩ (.bool p.written) = X at *
    simp at q0 q1 q2 q3 q4 q5 q6 q7 q8
    exact bodyPost_ret (v := p.val (.slice A1 (bytes p.data).length c1) (.slice A2 (ints p.needs).length c2)) (by simp [results, Try.results47, go_sem, Pt.val, q0, q1, q2, q3, q4, q5, q6, q7, q8]) rfl ⟨_, rfl, ⟨_, _, rfl, ha, hn2⟩, hbl⟩
end Go.Proofs.Ytmkfaibjjbgbbaa
