/- Few of package scupperlaw14. -/
import Derived.Test.YtmkfaibjjbgbbaaFns
import Derived.Test.YtmkfaibjjbgbbaaIds
namespace Go.Proofs.Ytmkfaibjjbgbbaa
open Go.RowKit
set_option linter.unusedVariables false
attribute [local go_sem ↓] Go.wp_at_zero Go.wp_at_succ

def Pt.few (p : Pt) : Pt := { p with data := p.data.take 70, needs := p.needs.take 6 }
theorem Row.take {w : World} {A : Option Addr} {n c : Nat} {xs : List Value} (h : Row w (.slice A n c) xs) (k : Nat) : Row w (.slice A (min n k) c) (xs.take k) ∧ n = xs.length := by
  obtain ⟨A', c', e, h1, h2, h0, h3⟩ := h
  injection e with e1 e2 e3
  subst e1 e2 e3
  have hl : (xs.take k).length = min xs.length k := by rw [List.length_take, Nat.min_comm]
  refine ⟨⟨A, c, by rw [hl], by omega, h2, h0, fun ad hA i u hu => h3 ad hA i u ?_⟩, rfl⟩
  have hi : i < k := by
    rcases Nat.lt_or_ge i k with h | h
    · exact h
    · rw [List.getElem?_eq_none (by omega)] at hu; cases hu
  rw [List.getElem?_take_of_lt hi] at hu
  exact hu
theorem bytes_take (l : List Int) (k : Nat) : (bytes l).take k = bytes (l.take k) := by simp [bytes, List.map_take]
theorem ints_take (l : List Int) (k : Nat) : (ints l).take k = ints (l.take k) := by simp [ints, List.map_take]
theorem owns_shape {w : World} {base e size n : Nat} {v : Value} {xs : List Value} (h : w.ownsRow base e size v n xs) : ∃ A m c, v = .slice A m c := by
  rcases h.2 with ⟨hv, _⟩ | ⟨g, cap, cur, hv, _⟩
  · exact ⟨_, _, _, hv⟩
  · exact ⟨_, _, _, hv⟩
theorem owns_keep {w w' : World} {base e size n : Nat} {v : Value} {xs : List Value} (h : w.ownsRow base e size v n xs) (hb : ∀ g, v.ownBlock = some g → w'.heap[g]? = w.heap[g]?) : w'.ownsRow base e size v n xs := by
  refine ⟨h.1, ?_⟩
  rcases h.2 with h0 | ⟨g, cap, cur, hv, hg, hc, hr⟩
  · exact .inl h0
  · exact .inr ⟨g, cap, cur, hv, hg, (hb g (by rw [hv]; rfl)).trans hc, hr⟩
theorem owns_mono {w : World} {base base' e size n : Nat} {v : Value} {xs : List Value} (h : w.ownsRow base e size v n xs) (hb : base' ≤ base) : w.ownsRow base' e size v n xs := by
  refine ⟨h.1, ?_⟩
  rcases h.2 with h0 | ⟨g, cap, cur, hv, hg, hr⟩
  · exact .inl h0
  · exact .inr ⟨g, cap, cur, hv, Nat.le_trans hb hg, hr⟩

def Apart (v u : Value) : Prop := ∀ j, v.ownBlock = some j → u.ownBlock = some j → False

set_option maxHeartbeats 1000000 in
theorem few_any (vd vn : Value) (p : Pt) (w : World) (hd : Row w vd (bytes p.data)) (hn : Row w vn (ints p.needs)) :
    Calls Try.prog 48 #[p.val vd vn] w fun e w' => ∃ ud un, e = .returned (p.few.val ud un) ∧ w'.ownsRow w.heap.size 5 1 ud p.few.data.length (bytes p.few.data) ∧ Built w.heap.size w' un p.few.needs ∧ Apart ud un ∧ Below w.heap.size w w' := by
  have HD := Lib.hid hd
  have HN := Lib.hid hn
  obtain ⟨A, c, rfl, h1, h2, h0, -⟩ := hd
  obtain ⟨B, d, rfl, k1, k2, k0, -⟩ := hn
  rw [bytes_len] at h1 HD ⊢
  rw [ints_len] at k1 HN ⊢
  unfold maxLen at h2 k2
  have m1 : (min (↑p.data.length : Int) 70).toNat = min p.data.length 70 := by omega
  have m2 : (min (↑p.needs.length : Int) 6).toNat = min p.needs.length 6 := by omega
  have HA := Lib.hid fun (W : World) (h : Below w.heap.size w W) => show Calls Try.prog 86 #[.slice A (min (↑p.data.length : Int) 70).toNat c] W fun e w' => ∃ r, e = .returned r ∧ w'.ownsRow W.heap.size 5 1 r p.few.data.length (bytes p.few.data) ∧ Below W.heap.size W w' from by
    have := bytes_copy (.slice A (min p.data.length 70) c) (bytes p.few.data) W (by have := (HD.out.take 70).1.below h; rw [bytes_take] at this; exact this) bytes_one (by rw [bytes_len]; unfold Pt.few; simp; omega)
    rw [m1]
    rw [bytes_len] at this
    exact this
  have HB := Lib.hid fun (W : World) (h : Below w.heap.size w W) => show Calls Try.prog 33 #[.slice B (min (↑p.needs.length : Int) 6).toNat d] W fun e w' => ∃ r, e = .returned r ∧ Built W.heap.size w' r p.few.needs ∧ Below W.heap.size W w' from by
    have := ints_copy (.slice B (min p.needs.length 6) d) (ints p.few.needs) W (by have := (HN.out.take 6).1.below h; rw [ints_take] at this; exact this) ints_one (by rw [ints_len]; unfold Pt.few; simp; omega)
    rw [m2]
    rw [ints_len] at this
    exact this
  clear m1 m2 HD HN
  have hid0 : p.few.id = p.id := rfl
  unfold Pt.val
  go_enter Try.func48, Try.ntmps48
  go_wp2_with fail
  obtain ⟨w2, hw2⟩ : ∃ w2, w2 = ((w.alloc (Obj.cells #[Value.int IntKind.i64 p.id, Value.int IntKind.i64 p.sec, Value.int IntKind.i64 p.off, .slice A p.data.length c, Value.int IntKind.i64 p.kind, .slice B p.needs.length d, Value.int IntKind.i64 p.owner, Value.int IntKind.i64 p.child, Value.bool p.written] 30)).alloc
      (Obj.cells #[Value.int IntKind.i64 0, Value.int IntKind.i64 0, Value.int IntKind.i64 0, Value.slice none 0 0, Value.int IntKind.i64 0, Value.slice none 0 0, Value.int IntKind.i64 0, Value.int IntKind.i64 0, Value.bool false] 30)) := ⟨_, rfl⟩
  have hB1 : Blk w2 w.heap.size 30 #[.int .i64 p.id, .int .i64 p.sec, .int .i64 p.off, .slice A p.data.length c, .int .i64 p.kind, .slice B p.needs.length d, .int .i64 p.owner, .int .i64 p.child, .bool p.written] := by rw [hw2]; exact (Blk.new _ _ _).alloc _
  have hB2 : Blk w2 (w.heap.size + 1) 30 #[.int .i64 0, .int .i64 0, .int .i64 0, .slice none 0 0, .int .i64 0, .slice none 0 0, .int .i64 0, .int .i64 0, .bool false] := by
    rw [hw2]
    have := Blk.new (w.alloc (Obj.cells #[Value.int IntKind.i64 p.id, Value.int IntKind.i64 p.sec, Value.int IntKind.i64 p.off, .slice A p.data.length c, Value.int IntKind.i64 p.kind, .slice B p.needs.length d, Value.int IntKind.i64 p.owner, Value.int IntKind.i64 p.child, Value.bool p.written] 30)) 30 #[.int .i64 0, .int .i64 0, .int .i64 0, .slice none 0 0, .int .i64 0, .slice none 0 0, .int .i64 0, .int .i64 0, .bool false]
    simpa using this
  have hb2 : Below w.heap.size w w2 := by rw [hw2]; exact ((Below.refl _ _).alloc (Nat.le_refl _) _).alloc (by simp) _
  have hs2 : w2.heap.size = w.heap.size + 2 := by rw [hw2]; simp
  rw [← hw2]
  clear hw2
  refine (HA.out _ hb2).mono ?_
  rintro e wa ⟨ra, rfl, hra, hba⟩
  obtain ⟨A1, n1, c1, rfl⟩ := owns_shape hra
  have hB1a := hB1.below hba (by omega)
  have hB2a := hB2.below hba (by omega)
  have hsa := hba.size
  have c5 := hB1a.cell 5
  have c3 := hB1a.cell 3
  have f3 := hB1a.frozen 3
  have f5 := hB1a.frozen 5
  simp at c5 c3
  have hwa : w.heap.size < wa.heap.size := by omega
  have H1 := Lib.hid hB1a
  have H2 := Lib.hid hB2a
  have HRA := Lib.hid hra
  have H3 := Lib.hid (hb2.trans (hba.mono (show w.heap.size ≤ w2.heap.size by omega)))
  clear hB1 hB2 hb2 hB1a hB2a hra hba
  go_wp2_with fail
  refine (HB.out _ (H3.out.setCell (Nat.le_refl _) _)).mono ?_
  rintro e wb ⟨rb, rfl, hrb, hbb⟩
  have hszs : (wa.setCell ⟨w.heap.size, 3, none⟩ (.slice A1 n1 c1)).heap.size = wa.heap.size := by simp [World.setCell]
  rw [hszs] at hbb hrb
  obtain ⟨B1, m1, d1, rfl⟩ := owns_shape hrb
  have hX1 := ((H1.out.set_ 3 (.slice A1 n1 c1)).below hbb hwa)
  have hX2 := ((H2.out.far (p := ⟨w.heap.size, 3, none⟩) (by simp) (.slice A1 n1 c1)).below hbb (by omega))
  have hra2 : wb.ownsRow w2.heap.size 5 1 _ _ _ := owns_keep HRA.out (fun g hg => by
    have hg2 := World.ownsRow.lt HRA.out g hg
    exact (hbb.block g hg2.2).trans (Below.heap_setCell wa ⟨w.heap.size, 3, none⟩ (.slice A1 n1 c1) g (by simp; omega)))
  have HRA2 := Lib.hid hra2
  have HAP := Lib.hid (show Apart (.slice A1 n1 c1) (.slice B1 m1 d1) from fun j h1 h2 => by have := (World.ownsRow.lt HRA.out j h1).2; have := (World.ownsRow.lt hrb j h2).1; omega)
  have HRB2 := Lib.hid hrb
  have HX1 := Lib.hid hX1
  have HX2 := Lib.hid hX2
  have HB3 := Lib.hid ((H3.out.setCell (p := ⟨w.heap.size, 3, none⟩) (Nat.le_refl _) (.slice A1 n1 c1)).trans (hbb.mono (show w.heap.size ≤ wa.heap.size by omega)))
  have hsb := hbb.size
  have g5 := hX1.frozen 5
  have hwb : w.heap.size < wb.heap.size := by omega
  have hX3 := hX1.cell
  have y0 := hX3 0
  have y1 := hX3 1
  have y2 := hX3 2
  have y3 := hX3 3
  have y4 := hX3 4
  have y6 := hX3 6
  have y7 := hX3 7
  have y8 := hX3 8
  simp at y0 y1 y2 y3 y4 y6 y7 y8
  have hl2 : w.heap.size + 1 < wb.heap.size := by omega
  have e := hX2.frozen
  have e0 := e 0
  have e1 := e 1
  have e2 := e 2
  have e3 := e 3
  have e4 := e 4
  have e5 := e 5
  have e6 := e 6
  have e7 := e 7
  have e8 := e 8
  have q := hX2.cell
  have q0 := q 0
  have q1 := q 1
  have q2 := q 2
  have q3 := q 3
  have q4 := q 4
  have q5 := q 5
  have q6 := q 6
  have q7 := q 7
  have q8 := q 8
  simp at q0 q1 q2 q3 q4 q5 q6 q7 q8
  have c5' := hX3 5
  simp at c5'
  clear e q hX3 f3 f5 c5 c3 H1 H2 HRA H3 hra2 hrb hX1 hX2 hbb hszs
  go_wp2
  have F := ((((((((((HX2.out.far (p := ⟨w.heap.size, 5, none⟩) (by simp) (.slice B1 m1 d1)).set_ 0 (.int .i64 p.id)).set_ 1 (.int .i64 p.sec)).set_ 2 (.int .i64 p.off)).set_ 3 (.slice A1 n1 c1)).set_ 4 (.int .i64 p.kind)).set_ 5 (.slice B1 m1 d1)).set_ 6 (.int .i64 p.owner)).set_ 7 (.int .i64 p.child)).set_ 8 (.bool p.written))
  have T := (((((((((((Turn.refl (fun j => j = w.heap.size ∨ j = w.heap.size + 1) wb).setCell (p := ⟨w.heap.size, 5, none⟩) (fun _ => .inl rfl) (.slice B1 m1 d1)).setCell (p := ⟨w.heap.size + 1, 0, none⟩) (fun _ => .inr rfl) (.int .i64 p.id)).setCell (p := ⟨w.heap.size + 1, 1, none⟩) (fun _ => .inr rfl) (.int .i64 p.sec)).setCell (p := ⟨w.heap.size + 1, 2, none⟩) (fun _ => .inr rfl) (.int .i64 p.off)).setCell (p := ⟨w.heap.size + 1, 3, none⟩) (fun _ => .inr rfl) (.slice A1 n1 c1)).setCell (p := ⟨w.heap.size + 1, 4, none⟩) (fun _ => .inr rfl) (.int .i64 p.kind)).setCell (p := ⟨w.heap.size + 1, 5, none⟩) (fun _ => .inr rfl) (.slice B1 m1 d1)).setCell (p := ⟨w.heap.size + 1, 6, none⟩) (fun _ => .inr rfl) (.int .i64 p.owner)).setCell (p := ⟨w.heap.size + 1, 7, none⟩) (fun _ => .inr rfl) (.int .i64 p.child)).setCell (p := ⟨w.heap.size + 1, 8, none⟩) (fun _ => .inr rfl) (.bool p.written))
  have hbl := HB3.out.trans (T.below (B := w.heap.size) (by omega) (fun i hi e => by omega))
  have hA2 := owns_mono (owns_keep HRA2.out (fun g hg => by
    have := World.ownsRow.lt HRA2.out g hg
    exact T.block g this.2 (by omega))) (show w.heap.size ≤ w2.heap.size by omega)
  have hB2 := Built.mono (owns_keep HRB2.out (fun g hg => by
    have := World.ownsRow.lt HRB2.out g hg
    exact T.block g this.2 (by omega))) (show w.heap.size ≤ wa.heap.size by omega)
  have z0 := F.cell 0
  have z1 := F.cell 1
  have z2 := F.cell 2
  have z3 := F.cell 3
  have z4 := F.cell 4
  have z5 := F.cell 5
  have z6 := F.cell 6
  have z7 := F.cell 7
  have z8 := F.cell 8
  generalize (((((((((wb.setCell ⟨w.heap.size, 5, none⟩ (.slice B1 m1 d1)).setCell ⟨w.heap.size + 1, 0, none⟩ (.int .i64 p.id)).setCell ⟨w.heap.size + 1, 1, none⟩ (.int .i64 p.sec)).setCell ⟨w.heap.size + 1, 2, none⟩ (.int .i64 p.off)).setCell ⟨w.heap.size + 1, 3, none⟩ (.slice A1 n1 c1)).setCell ⟨w.heap.size + 1, 4, none⟩ (.int .i64 p.kind)).setCell ⟨w.heap.size + 1, 5, none⟩ (.slice B1 m1 d1)).setCell ⟨w.heap.size + 1, 6, none⟩ (.int .i64 p.owner)).setCell ⟨w.heap.size + 1, 7, none⟩ (.int .i64 p.child)).setCell ⟨w.heap.size + 1, 8, none⟩ (.bool p.written) = X at *
  simp at z0 z1 z2 z3 z4 z5 z6 z7 z8
  exact bodyPost_ret (v := p.few.val (.slice A1 n1 c1) (.slice B1 m1 d1)) (by simp [results, Try.results48, go_sem, Pt.val, Pt.few, z0, z1, z2, z3, z4, z5, z6, z7, z8]) rfl ⟨_, _, rfl, hA2, hB2, HAP.out, hbl⟩
end Go.Proofs.Ytmkfaibjjbgbbaa
