/- graph.Needed. -/
import Derived.Test.YtmkfaibjjbgbbaaNeed
import Derived.Test.YtmkfaibjjbgbbaaTail
import Derived.Deep.LoopGhost
namespace Go.Proofs.Ytmkfaibjjbgbbaa
open Go.RowKit
set_option linter.unusedVariables false
attribute [local go_sem ↓] Go.wp_at_zero Go.wp_at_succ

/-- What a graph is that the methods may be asked of. -/
structure Fine (x : G) : Prop where
  rise : Rise x.l
  len : x.l.length ≤ 1000
  all : ∀ p ∈ x.l, p.fit ∧ (key p.sec).wf = true ∧ (∀ k ∈ p.needs, k < p.id) ∧ p.needs.length ≤ 1000

theorem enters79 : ∀ args w, (callFunc 79 args).run Try.prog w = .ok (.enter 79 args) w := enters_of Try.func79 (by kernel_rfl) rfl
theorem seen_get (L : List Int) (k : Int) : (seenF L k).getD (.bool false) = .bool (decide (k ∈ L)) := by
  unfold seenF
  by_cases h : k ∈ L
  · simp [h]
  · simp [h]
theorem ask79 (b mx n : Nat) (L : List Int) (v : Value) (p : Pt) (W : World) (hb : W.cell? ⟨b, 0, none⟩ = some (.map (some mx))) (hm : MapIs W mx n (seenF L)) (hk : (key p.id).wf = true) (hv : PtV W v p) :
    Calls Try.prog 79 #[v, .pointer (some ⟨b, 0, none⟩)] W fun e w' => e = .returned (.bool (decide (p.id ∈ L))) ∧ Below W.heap.size W w' := by
  obtain ⟨vd, vn, rfl, hd, hn⟩ := hv
  clear hd hn
  have hbl : b < W.heap.size := World.block_lt_of_cell? W _ hb
  have hlk := (hm.alloc (.cells #[.int .i64 p.id, .int .i64 p.sec, .int .i64 p.off, vd, .int .i64 p.kind, vn, .int .i64 p.owner, .int .i64 p.child, .bool p.written] 30)).look Try.underlying84 (zero4 _) hk
  rw [seen_get] at hlk
  clear hm
  unfold Pt.val
  go_enter Try.func79, Try.ntmps79
  go_wp2
  go_ret
  exact ⟨rfl, (Below.refl _ _).alloc (Nat.le_refl _) _⟩

theorem slice_from1 (w : World) (g o m cap : Nat) (h1 : 1 ≤ m) (h2 : m ≤ cap) : (Instr.slice 28 (.slice (some ⟨g, o, none⟩) m cap) (some (.int .i64 1)) none none).run Try.prog w = .ok (.slice (some ⟨g, if cap = 1 then o else o + 1, none⟩) (m - 1) (cap - 1)) w := by
  have h3 : (1 : Int) ≤ (m : Int) := by omega
  by_cases hc : cap = 1
  · simp [Try.underlying28, go_sem, h3, hc]
  · simp [Try.underlying28, go_sem, h3, hc]

theorem PtV.parts {w : World} {p : Pt} {a b : Value} (h : PtV w (p.val a b) p) : Arr w 5 a (bytes p.data) ∧ Arr w 3 b (ints p.needs) := by
  obtain ⟨vd, vn, e, hd, hn⟩ := h
  have e2 := congrArg (fun v => match v with | .agg cs => (cs[3]?, cs[5]?) | _ => (none, none)) e
  simp [Pt.val] at e2
  rw [e2.1, e2.2]
  exact ⟨hd, hn⟩

set_option maxHeartbeats 4000000 in
set_option maxRecDepth 100000 in
theorem needed_any (g mb n : Nat) (x : G) (v : Value) (ids : List Int) (w : World) (hG : Gr w g mb n x) (hF : Fine x) (hv : Arr w 3 v (ints ids)) (hil : ids.length ≤ 1000) (hik : ∀ k ∈ ids, (key k).wf = true) :
    Calls Try.prog 30 #[.pointer (some ⟨g, 0, none⟩), v] w fun e w' => ∃ r, e = .returned r ∧ Built w.heap.size w' r (neededG x ids) ∧ Below w.heap.size w w' := by
  have hmm := @run_makeMap Try.prog
  have hmk := hmf
  have HG := Lib.hid hG
  have HF := Lib.hid hF
  have HK := Lib.hid hik
  have hB2 : Below w.heap.size w ((w.alloc (.map #[] 0)).alloc (.cells #[.map (some w.heap.size)] 84)) := ((Below.refl _ _).alloc (Nat.le_refl _) _).alloc (by simp) _
  have hM2 : MapIs ((w.alloc (.map #[] 0)).alloc (.cells #[.map (some w.heap.size)] 84)) w.heap.size 0 (fun _ => none) := (MapIs.new w).alloc _
  have hX2 : Blk ((w.alloc (.map #[] 0)).alloc (.cells #[.map (some w.heap.size)] 84)) (w.heap.size + 1) 84 #[.map (some w.heap.size)] := by
    have := Blk.new (w.alloc (.map #[] 0)) 84 #[.map (some w.heap.size)]
    simpa using this
  have HCl := Lib.hid (clone_own v ids _ ((hv.alloc (.map #[] 0)).alloc (.cells #[.map (some w.heap.size)] 84)) (by omega))
  have HB2 := Lib.hid hB2
  have HM2 := Lib.hid hM2
  have HX2 := Lib.hid hX2
  have hsz2 : ((w.alloc (.map #[] 0)).alloc (.cells #[.map (some w.heap.size)] 84)).heap.size = w.heap.size + 2 := by simp
  clear hG hF hv hik hB2 hM2 hX2
  go_enter Try.func30, Try.ntmps30
  go_wp2_with fail
  refine HCl.out.mono ?_
  rintro e w1 ⟨r, rfl, hr, hb⟩
  rw [hsz2] at hr hb
  have HT1 := Lib.hid (Tail.of_own hr)
  have HB1 := Lib.hid (HB2.out.trans (hb.mono (by omega)))
  have HM1 := Lib.hid (HM2.out.keep (hb.block w.heap.size (by omega)))
  have HX1 := Lib.hid (HX2.out.below hb (by omega))
  have hs1 : w.heap.size + 2 ≤ w1.heap.size := by have := hb.size; rw [hsz2] at this; exact this
  clear hr hb HCl HB2 HM2 HX2 hsz2
  go_wp2_with fail
  go_loopg [6] (x.l.length * 3000 + ids.length) (fun gk v wr => ∃ (todo seen : List Int), gk = (x.l.length - seen.length) * 3000 + todo.length ∧ Tail (w.heap.size + 2) wr v todo ∧ MapIs wr w.heap.size seen.length (seenF seen) ∧ Blk wr (w.heap.size + 1) 84 #[.map (some w.heap.size)] ∧ Hid (NInv x ids todo seen ∧ (∀ k ∈ todo, (key k).wf = true) ∧ todo.length ≤ ids.length + seen.length * 2000) ∧ Below w.heap.size w wr ∧ w.heap.size + 2 ≤ wr.heap.size)
  case atStart => exact ⟨ids, [], by simp, HT1.out, by
    have h := HM1.out
    have e : seenF [] = fun _ => none := by funext k; simp [seenF]
    rw [e]
    exact h, HX1.out, ⟨NInv.start, HK.out, by simp⟩, HB1.out, hs1⟩
  case round =>
    obtain ⟨todo, seen, hgk, hT, hM, hX, hN, hbel, hsz⟩ := hrel
    have Hgk := Lib.hid hgk
    clear hgk
    have HT := Lib.hid hT
    have HM := Lib.hid hM
    have HX := Lib.hid hX
    have HB := Lib.hid hbel
    have hGr := HG.out.below hbel
    have HGr := Lib.hid hGr
    have hx5 := hX.cell 0
    simp at hx5
    have hl5 := hX.lt
    rcases todo with _ | ⟨id, rest⟩
    · obtain ⟨A, c, rfl, -, -⟩ := hT.shape
      have hdone := hN.out.1.done HF.out.rise (fun p hp => (HF.out.all p hp).2.2.1)
      have HI := Lib.hid (ids_any g mb n x 79 #[.pointer (some ⟨w.heap.size + 1, 0, none⟩)] (fun p => decide (p.id ∈ seen)) wr hGr HF.out.rise (by have := HF.out.len; omega) enters79
        (fun W v p hp hv hW => by
          have hid := (HF.out.all p hp).1.2.1
          exact ask79 (w.heap.size + 1) w.heap.size seen.length seen v p W ((hW.cell (p := ⟨w.heap.size + 1, 0, none⟩) (by exact hl5)).trans hx5) (hM.keep (hW.block w.heap.size hM.lt)) (key_wf (by omega) (by omega)) hv))
      rw [hdone] at HI
      clear hT hM hX hbel hGr hdone
      go_wp2_with fail
      refine HI.out.mono ?_
      rintro e w3 ⟨r, rfl, hr, hb⟩
      have HR := Lib.hid (hr.mono (show w.heap.size ≤ wr.heap.size by omega))
      have HB3 := Lib.hid (HB.out.trans (hb.mono (by omega)))
      clear hr hb
      go_wp2
      go_ret
      exact ⟨_, rfl, HR.out, HB3.out⟩
    · rcases hT with ⟨_, h0⟩ | ⟨g5, o, cap, cs, rfl, hg5, hbk, hlc, hcm, hfit, hcs⟩
      · cases h0
      have hcid : wr.cell? ⟨g5, o, none⟩ = some (.int .i64 id) := (hbk.cell o).trans (by have := hcs 0 id rfl; simpa using this)
      have hkid := hN.out.2.1 id (by simp)
      have HTr := Lib.hid (show Tail (w.heap.size + 2) wr (.slice (some ⟨g5, if cap = 1 then o else o + 1, none⟩) rest.length (cap - 1)) rest from by
        simp at hlc
        by_cases hc1 : cap = 1
        · rw [if_pos hc1]
          obtain rfl : rest = [] := List.eq_nil_of_length_eq_zero (by omega)
          exact .inr ⟨g5, o, cap - 1, cs, rfl, hg5, hbk, by simp, by omega, by omega, fun i u hu => by cases hu⟩
        · rw [if_neg hc1]
          exact .inr ⟨g5, o + 1, cap - 1, cs, rfl, hg5, hbk, by omega, by omega, by omega, fun i u hu => by have := hcs (i + 1) u (by simpa using hu); rw [show o + 1 + i = o + (i + 1) by omega]; exact this⟩)
      have hcg := hGr.c1
      have hlc' : rest.length + 1 ≤ cap := by simpa using hlc
      have hmx : maxLen = 9223372036854775807 := by decide
      rw [hmx] at hcm
      clear hmx
      rw [List.length_cons]
      obtain ⟨m, hm⟩ : ∃ m, m = rest.length + 1 := ⟨_, rfl⟩
      rw [← hm]
      have Hm := Lib.hid hm
      have hm1 : 1 ≤ m := by omega
      have hmc : m ≤ cap := by omega
      have hsl := slice_from1 wr g5 o m cap hm1 hmc
      rw [show m - 1 = rest.length by omega] at hsl
      generalize (if cap = 1 then o else o + 1) = o2 at *
      clear hm hlc'
      rcases HG.out.look hkid with ⟨p, A1, k1, A2, k2, hf, hpv, hl⟩ | ⟨hf, hl⟩
      · have hl1 := (hl wr hbel).2
        obtain ⟨hpm, hpk⟩ := find_mem hf
        subst hpk
        have hlk := (hM.alloc (.cells #[.int .i64 p.id, .int .i64 p.sec, .int .i64 p.off, .slice A1 (bytes p.data).length k1, .int .i64 p.kind, .slice A2 (ints p.needs).length k2, .int .i64 p.owner, .int .i64 p.child, .bool p.written] 30)).look Try.underlying84 (zero4 _) hkid
        rw [seen_get] at hlk
        have hx5a := (hX.alloc (.cells #[.int .i64 p.id, .int .i64 p.sec, .int .i64 p.off, .slice A1 (bytes p.data).length k1, .int .i64 p.kind, .slice A2 (ints p.needs).length k2, .int .i64 p.owner, .int .i64 p.child, .bool p.written] 30)).cell 0
        simp at hx5a
        by_cases hin : p.id ∈ seen
        · rw [decide_eq_true hin] at hlk
          have HN2 := Lib.hid (hN.out.1.skip (.inr hin))
          clear hl hf hM hX hbel hGr hbk hcs hfit hlc hpv hin
          unfold Pt.val at *
          go_wp2
          go_roundg ((x.l.length - seen.length) * 3000 + rest.length)
          case measure => rw [Hgk.out]; simp
          case rel => exact ⟨rest, seen, rfl, HTr.out.below ((Below.refl _ _).alloc (Nat.le_refl _) _), HM.out.alloc _, HX.out.alloc _, ⟨HN2.out, fun k hk => hN.out.2.1 k (List.mem_cons_of_mem _ hk), by have := hN.out.2.2; simp at this ⊢; omega⟩, HB.out.alloc HB.out.size _, by simp; omega⟩
        · rw [decide_eq_false hin] at hlk
          have HNV := Lib.hid (hN.out.1.visit HF.out.rise hf hin)
          have hsl2 := HNV.out.len
          have hxl := HF.out.len
          rw [List.length_append] at hsl2
          simp at hsl2
          obtain ⟨w6, hupd, hm6, hg6⟩ := (hM.alloc (.cells #[.int .i64 p.id, .int .i64 p.sec, .int .i64 p.off, .slice A1 (bytes p.data).length k1, .int .i64 p.kind, .slice A2 (ints p.needs).length k2, .int .i64 p.owner, .int .i64 p.child, .bool p.written] 30)).store Try.underlying84 (by unfold maxLen; omega) hkid (.bool true)
          rw [seen_on] at hm6
          have T6 : Turn (fun j => j = w.heap.size) (wr.alloc (.cells #[.int .i64 p.id, .int .i64 p.sec, .int .i64 p.off, .slice A1 (bytes p.data).length k1, .int .i64 p.kind, .slice A2 (ints p.needs).length k2, .int .i64 p.owner, .int .i64 p.child, .bool p.written] 30)) w6 := turn_of_grown hg6
          have hs6 := hg6.size
          simp at hs6
          obtain ⟨-, hnr⟩ := hpv.parts
          have HM6 := Lib.hid (show MapIs w6 w.heap.size (seen ++ [p.id]).length (seenF (seen ++ [p.id])) from by rw [List.length_append]; exact hm6)
          have HX6 := Lib.hid ((hX.alloc (.cells #[.int .i64 p.id, .int .i64 p.sec, .int .i64 p.off, .slice A1 (bytes p.data).length k1, .int .i64 p.kind, .slice A2 (ints p.needs).length k2, .int .i64 p.owner, .int .i64 p.child, .bool p.written] 30)).turn T6 (fun e => by omega))
          have hbx6 := (Blk.new wr 30 #[.int .i64 p.id, .int .i64 p.sec, .int .i64 p.off, .slice A1 (bytes p.data).length k1, .int .i64 p.kind, .slice A2 (ints p.needs).length k2, .int .i64 p.owner, .int .i64 p.child, .bool p.written]).turn T6 (fun e => by omega)
          have HBx6 := Lib.hid hbx6
          have hB6 : Below w.heap.size w w6 := (HB.out.alloc HB.out.size (.cells #[.int .i64 p.id, .int .i64 p.sec, .int .i64 p.off, .slice A1 (bytes p.data).length k1, .int .i64 p.kind, .slice A2 (ints p.needs).length k2, .int .i64 p.owner, .int .i64 p.child, .bool p.written] 30)).trans (T6.below (B := w.heap.size) (by simp; omega) (fun i hi e => by omega))
          have HB6 := Lib.hid hB6
          have hTr6 : Tail (w.heap.size + 2) w6 _ rest := (HTr.out.below ((Below.refl _ _).alloc (Nat.le_refl _) (.cells #[.int .i64 p.id, .int .i64 p.sec, .int .i64 p.off, .slice A1 (bytes p.data).length k1, .int .i64 p.kind, .slice A2 (ints p.needs).length k2, .int .i64 p.owner, .int .i64 p.child, .bool p.written] 30))).keep (fun j hj => T6.block j (by have := (HTr.out.own j hj).2; simp; omega) (fun e => by have := (HTr.out.own j hj).1; omega))
          have HTr6 := Lib.hid hTr6
          have HRow6 := Lib.hid (Row.of_arr (hnr.below hB6))
          have hpn := (HF.out.all p hpm).2.2.2
          have hbnd := hN.out.2.2
          rw [List.length_cons] at hbnd
          have HPt := Lib.hid hpv
          have d5 := hbx6.cell 5
          simp at d5
          have l6 : wr.heap.size < w6.heap.size := hbx6.lt
          clear hl hM hX hbel hGr hbk hcs hfit hlc hpv hm6 hg6 T6 hbx6 hB6 hTr6 hnr hf
          unfold Pt.val at hl1
          go_wp2_with (at_builtin; refine wpList_append_tail rfl (.tmp 43) (.tmp 45) rfl _ rest rfl HTr6.out _ p.needs rfl HRow6.out ?c1 ?c2 ?_)
          case c1 => omega
          case c2 => omega
          intro v7 w7 hT7 hg7 ho7
          have HT7 := Lib.hid hT7
          have hlt7 : ∀ j, (Value.slice (some ⟨g5, o2, none⟩) rest.length (cap - 1)).ownBlock = some j → w.heap.size + 2 ≤ j ∧ j < wr.heap.size := fun j hj => ⟨(HTr6.out.own j hj).1, (HTr.out.own j hj).2⟩
          have hap7 : ∀ j, v7.ownBlock = some j → w.heap.size + 2 ≤ j ∧ j < w7.heap.size ∧ j ≠ wr.heap.size := fun j hj => by
            have h1 := hT7.own j hj
            refine ⟨h1.1, h1.2, fun e => ?_⟩
            rcases ho7 with ho | ho
            · have := (hlt7 j (ho ▸ hj)).2; omega
            · rw [ho] at hj; injection hj with hj; omega
          have HAp7 := Lib.hid hap7
          have hs7 := hg7.size
          have HM7 := Lib.hid (HM6.out.keep (hg7.block w.heap.size (by omega) (fun e => by have := (hlt7 _ e.symm).1; omega)))
          have HX7 := Lib.hid (HX6.out.grown hg7 (fun e => by have := (hlt7 _ e.symm).1; omega))
          have hbx7 := HBx6.out.grown hg7 (fun e => by have := (hlt7 _ e.symm).2; omega)
          have HBx7 := Lib.hid hbx7
          have HB7 := Lib.hid (HB6.out.grown hg7 HB6.out.size (fun j hj => by have := (hlt7 j hj).1; omega))
          have d1 := hbx7.cell 1
          have d8 := hbx7.cell 8
          simp at d1 d8
          have l7 : wr.heap.size < w7.heap.size := hbx7.lt
          clear hT7 hg7 ho7 hlt7 hap7 hbx7 d5 HM6 HX6 HBx6 HB6 HRow6 HTr6 HTr HM HX
          cases hwr : p.written with
          | true =>
            rw [hwr] at d8
            have hdp : depsOf x p = p.needs := by unfold depsOf; rw [hwr]; simp
            rw [hdp] at HNV
            clear hdp
            go_wp2
            go_roundg ((x.l.length - (seen ++ [p.id]).length) * 3000 + (rest ++ p.needs).length)
            case measure => rw [Hgk.out]; simp; omega
            case rel => exact ⟨rest ++ p.needs, seen ++ [p.id], rfl, HT7.out, HM7.out, HX7.out, ⟨HNV.out, fun k hk => by
              rcases List.mem_append.1 hk with hk | hk
              · exact hN.out.2.1 k (List.mem_cons_of_mem _ hk)
              · exact (HF.out.all p hpm).1.2.2 k hk, by simp; omega⟩, HB7.out, by omega⟩
          | false =>
            rw [hwr] at d8
            have hdp : depsOf x p = p.needs ++ meetN (openL x p.sec) p := by unfold depsOf; rw [hwr]; simp
            rw [hdp] at HNV
            have hO := open_any g mb n x p.sec w7 (HG.out.below HB7.out) HF.out.rise (by omega)
            rw [ids_openL] at hO
            have HO := Lib.hid hO
            have HPx := Lib.hid fun (q : Pt) (h : q ∈ openL x p.sec) => (List.mem_filter.1 h).1
            have hOl : (openL x p.sec).length ≤ 1000 := by
              have := List.length_filter_le (openQ p.sec) x.l
              unfold openL
              omega
            generalize openL x p.sec = P at *
            clear hO hdp hwr
            go_wp2_with fail
            refine HO.out.mono ?_
            rintro e w8 ⟨r0, rfl, hr8, hb8⟩
            have hat := hr8.arr
            obtain ⟨A8, c8, rfl, h81, h82⟩ := hr8.arr.len
            have HA8 := Lib.hid (show ∀ (k : Nat) (q : Pt), P[k]? = some q → ∃ gb o cs, A8 = some ⟨gb, o, none⟩ ∧ w7.heap.size ≤ gb ∧ Blk w8 gb 3 cs ∧ cs[o + k]? = some (.int .i64 q.id) from fun k y hy => by
              have hy2 : (ints (P.map (·.id)))[k]? = some (.int .i64 y.id) := ints_at (by simp [hy])
              have hlo := hr8.own
              rcases hat with ⟨_, e⟩ | ⟨gb, o, c', cs, e1, _, _, hbk, hc⟩
              · rw [e] at hy2; cases hy2
              · injection e1 with e1
                exact ⟨gb, o, cs, e1, (hlo gb (by rw [e1]; rfl)).1, hbk, hc k _ hy2⟩)
            rw [ints_len, List.length_map] at h81 ⊢
            unfold maxLen at h82
            have hs8 := hb8.size
            have HT8 := Lib.hid (HT7.out.below hb8)
            have HM8 := Lib.hid (HM7.out.keep (hb8.block w.heap.size (by omega)))
            have HX8 := Lib.hid (HX7.out.below hb8 (by omega))
            have HBx8 := Lib.hid (HBx7.out.below hb8 l7)
            have HB8 := Lib.hid (HB7.out.trans (hb8.mono HB7.out.size))
            have HPt8 := Lib.hid (HPt.out)
            clear hr8 hb8 hat HO d1 d8 HT7 HM7 HX7 HBx7 HB7
            go_wp2_with fail
            generalize hb8e : wr.heap.size = b8 at *
            go_loopw [6, 54] (fun v i W => ∃ j : Nat, j ≤ P.length ∧ i = .int .i64 j ∧ Tail (w.heap.size + 2) W v (rest ++ p.needs ++ meetN (P.take j) p) ∧ Turn (fun k => v7.ownBlock = some k) w8 W ∧ Hid (∀ k, v.ownBlock = some k → v7.ownBlock = some k ∨ w8.heap.size ≤ k)) (fun _ i _ => P.length - (intOf i).toNat)
            case atStart => exact ⟨0, Nat.zero_le _, rfl, by
              have e : rest ++ p.needs ++ meetN (P.take 0) p = rest ++ p.needs := by unfold meetN; simp
              rw [e]
              exact HT8.out, Turn.refl _ _, fun k hk => .inl hk⟩
            case round =>
              clear hmm hmk hx5 hx5a hcid hsl hl1 hlk hupd hcg
              rename_i wo
              obtain ⟨j, hj, rfl, hTl, hTn, hOw⟩ := hrel
              have HTl := Lib.hid hTl
              have HTn := Lib.hid hTn
              have hszn := hTn.size
              have hmeet : (meetN (P.take j) p).length ≤ 1000 := by
                unfold meetN
                rw [List.length_map]
                have := List.length_filter_le (meetsQ p) (P.take j)
                rw [List.length_take] at this
                omega
              have hBw : Below w.heap.size w wr := HB8.out.trans (hTn.below (B := w.heap.size) HB8.out.size (fun i hi e => by have := (HAp7.out _ e).1; omega))
              have HBw := Lib.hid hBw
              have hbxw := HBx8.out.turn hTn (fun e => (HAp7.out _ e).2.2 rfl)
              have HMw := Lib.hid (HM8.out.turn hTn (fun e => by have := (HAp7.out _ e).1; omega))
              have HXw := Lib.hid (HX8.out.turn hTn (fun e => by have := (HAp7.out _ e).1; omega))
              by_cases hlt : j < P.length
              · obtain ⟨r, hr⟩ : ∃ r, P[j]? = some r := ⟨_, List.getElem?_eq_getElem hlt⟩
                obtain ⟨gb, o, cs, rfl, hgb, hbk, hcs⟩ := HA8.out j r hr
                have hc1 : wr.cell? ⟨gb, o + j, none⟩ = some (.int .i64 r.id) := ((hbk.turn hTn (fun e => by have := (HAp7.out _ e).2.1; omega)).cell (o + j)).trans hcs
                have hrx := HPx.out r (List.mem_of_getElem? hr)
                have hidr := (HF.out.all r hrx).1.2.1
                have hkr : (key r.id).wf = true := key_wf (by omega) (by omega)
                rcases HG.out.look hkr with ⟨r', R1, m1, R2, m2, hfr, hrv, hlr⟩ | ⟨hfr, hlr⟩
                case inr => rw [find_id HF.out.rise hrx] at hfr; cases hfr
                rw [find_id HF.out.rise hrx] at hfr
                obtain rfl : r = r' := Option.some.inj hfr
                have HON := Lib.hid (meetN_on (q := p) hr)
                have HS := Lib.hid fun (W : World) (h : Below wr.heap.size wr W) => show W.cell? ⟨g, 1, none⟩ = some (.map (some mb)) ∧ (W.cell? ⟨b8, 0, none⟩ = some (.int .i64 p.id) ∧ W.cell? ⟨b8, 1, none⟩ = some (.int .i64 p.sec) ∧ W.cell? ⟨b8, 2, none⟩ = some (.int .i64 p.off) ∧ W.cell? ⟨b8, 3, none⟩ = some (.slice A1 (bytes p.data).length k1) ∧ W.cell? ⟨b8, 4, none⟩ = some (.int .i64 p.kind) ∧ W.cell? ⟨b8, 5, none⟩ = some (.slice A2 (ints p.needs).length k2) ∧ W.cell? ⟨b8, 6, none⟩ = some (.int .i64 p.owner) ∧ W.cell? ⟨b8, 7, none⟩ = some (.int .i64 p.child) ∧ W.cell? ⟨b8, 8, none⟩ = some (.bool p.written)) ∧ (Instr.lookup 77 (.map (some mb)) (.int .i64 r.id) false).run Try.prog W = .ok (.agg #[.int .i64 r.id, .int .i64 r.sec, .int .i64 r.off, .slice R1 (bytes r.data).length m1, .int .i64 r.kind, .slice R2 (ints r.needs).length m2, .int .i64 r.owner, .int .i64 r.child, .bool r.written]) W from by
                  have hbW := hBw.trans (h.mono hBw.size)
                  have hx := (hbxw.below h hbxw.lt).cell
                  exact ⟨(HG.out.below hbW).c1, ⟨hx 0, hx 1, hx 2, hx 3, hx 4, hx 5, hx 6, hx 7, hx 8⟩, (hlr W hbW).1⟩
                have HMt := Lib.hid fun (W : World) (h : Below wr.heap.size wr W) => meet_any _ _ r p W (hrv.below (hBw.trans (h.mono hBw.size))) (HPt8.out.below (hBw.trans (h.mono hBw.size))) (HF.out.all r hrx).1.1 (HF.out.all p hpm).1.1
                have hd0 : Below wr.heap.size wr wr.drew := (Below.refl _ _).drew
                clear hTl hTn hr hbk hcs hfr hrv hlr hBw hbxw hgb
                unfold Pt.val at HMt
                by_cases hrl : r.id < p.id
                · have hrl2 : decide (r.id < p.id) = true := decide_eq_true hrl
                  go_wp2_with fail
                  go_region_held3 (fun W => W.cell? ⟨g, 1, none⟩ = some (.map (some mb)) ∧ (W.cell? ⟨b8, 0, none⟩ = some (.int .i64 p.id) ∧ W.cell? ⟨b8, 1, none⟩ = some (.int .i64 p.sec) ∧ W.cell? ⟨b8, 2, none⟩ = some (.int .i64 p.off) ∧ W.cell? ⟨b8, 3, none⟩ = some (.slice A1 (bytes p.data).length k1) ∧ W.cell? ⟨b8, 4, none⟩ = some (.int .i64 p.kind) ∧ W.cell? ⟨b8, 5, none⟩ = some (.slice A2 (ints p.needs).length k2) ∧ W.cell? ⟨b8, 6, none⟩ = some (.int .i64 p.owner) ∧ W.cell? ⟨b8, 7, none⟩ = some (.int .i64 p.child) ∧ W.cell? ⟨b8, 8, none⟩ = some (.bool p.written)) ∧ (Instr.lookup 77 (.map (some mb)) (.int .i64 r.id) false).run Try.prog W = .ok (.agg #[.int .i64 r.id, .int .i64 r.sec, .int .i64 r.off, .slice R1 (bytes r.data).length m1, .int .i64 r.kind, .slice R2 (ints r.needs).length m2, .int .i64 r.owner, .int .i64 r.child, .bool r.written]) W)
                    (first | exact HS.out _ hd0 | exact HS.out _ hb3)
                    (first | (go_at_call 56; refine (HMt.out _ hd0).mono ?_; rintro e w3 ⟨rfl, hb3'⟩; have hb3 := hd0.trans (hb3'.mono hd0.size)))
                  have HB3 := Lib.hid hb3
                  have hs3 := hb3.size
                  clear hb3 hb3'
                  cases hmt : meetB r p with
                  | true =>
                    have hmq : meetsQ p r = true := by unfold meetsQ; rw [hrl2, hmt]; rfl
                    have HN9 := Lib.hid (show meetN (P.take (j + 1)) p = meetN (P.take j) p ++ [r.id] from by rw [HON.out, if_pos hmq])
                    clear hmq hmt
                    go_wp2_with (at_builtin; refine wpList_append_tail rfl (.tmp 71) (.tmp 73) rfl _ _ rfl ((HTl.out.below HB3.out).below ((Below.refl _ _).alloc (Nat.le_refl _) _)) _ [r.id] rfl (Row.of_arr (Arr.one w3 3 (.int .i64 r.id))) ?c1 ?c2 ?_)
                    case c1 => simp; omega
                    case c2 => simp; omega
                    intro v9 w9 hT9 hg9 ho9
                    have HT9 := Lib.hid (show Tail (w.heap.size + 2) w9 v9 (rest ++ p.needs ++ meetN (P.take (j + 1)) p) from by rw [HN9.out]; simpa [List.append_assoc] using hT9)
                    have HTn9 := Lib.hid (((HTn.out.trans (Turn.of_below (S := fun _ => False) HB3.out) (fun i hi e => e.elim)).alloc (.cells #[.int .i64 r.id] 3)).grown hg9 (fun k hk hh => by
                      rcases hOw.out k hk with h | h
                      · exact h
                      · omega))
                    have HO9 := Lib.hid (show ∀ k, v9.ownBlock = some k → v7.ownBlock = some k ∨ w8.heap.size ≤ k from fun k hk => by
                      rcases ho9 with ho | ho
                      · exact hOw.out k (ho ▸ hk)
                      · rw [ho] at hk; injection hk with hk; first | omega | (simp at hk; omega))
                    clear hT9 hg9 ho9
                    go_wp2
                    go_roundw
                    case rel => exact ⟨j + 1, by omega, by go_num, HT9.out, HTn9.out, HO9.out⟩
                    case measure => simp [intOf]; omega
                  | false =>
                    have hmq : ¬ meetsQ p r = true := by unfold meetsQ; rw [hrl2, hmt]; simp
                    have HN9 := Lib.hid (show meetN (P.take (j + 1)) p = meetN (P.take j) p from by rw [HON.out, if_neg hmq, List.append_nil])
                    clear hmq hmt
                    go_wp2
                    go_roundw
                    case rel => exact ⟨j + 1, by omega, by go_num, by rw [HN9.out]; exact HTl.out.below HB3.out, HTn.out.trans (Turn.of_below (S := fun _ => False) HB3.out) (fun i hi e => e.elim), hOw⟩
                    case measure => simp [intOf]; omega
                · have hrl2 : decide (r.id < p.id) = false := decide_eq_false hrl
                  have hmq : ¬ meetsQ p r = true := by unfold meetsQ; rw [hrl2]; simp
                  have HN9 := Lib.hid (show meetN (P.take (j + 1)) p = meetN (P.take j) p from by rw [HON.out, if_neg hmq, List.append_nil])
                  clear hmq
                  have h0 := (HS.out _ hd0).2.1.1
                  go_wp2_with fail
                  go_region
                  all_goals
                    go_wp2
                    go_roundw
                    case rel => exact ⟨j + 1, by omega, by go_num, by rw [HN9.out]; exact HTl.out, HTn.out.drew, hOw⟩
                    case measure => simp [intOf]; omega
              · obtain rfl : j = P.length := by omega
                have HTe := Lib.hid (show Tail (w.heap.size + 2) wr u6 (rest ++ (p.needs ++ meetN P p)) from by have h := hTl; rw [List.take_length, List.append_assoc] at h; exact h)
                have HKe := Lib.hid (show ∀ k ∈ rest ++ (p.needs ++ meetN P p), (key k).wf = true from fun k hk => by
                  rcases List.mem_append.1 hk with hk | hk
                  · exact hN.out.2.1 k (List.mem_cons_of_mem _ hk)
                  · rcases List.mem_append.1 hk with hk | hk
                    · exact (HF.out.all p hpm).1.2.2 k hk
                    · unfold meetN at hk
                      obtain ⟨q, hq, rfl⟩ := List.mem_map.1 hk
                      have hqx := HPx.out q (List.mem_filter.1 hq).1
                      have := (HF.out.all q hqx).1.2.1
                      exact key_wf (by omega) (by omega))
                rw [List.take_length] at hmeet
                have hlen2 : (rest ++ (p.needs ++ meetN P p)).length ≤ ids.length + (seen ++ [p.id]).length * 2000 := by simp; omega
                clear hTl hTn hBw hbxw
                go_wp2
                go_roundg ((x.l.length - (seen ++ [p.id]).length) * 3000 + (rest ++ (p.needs ++ meetN P p)).length)
                case measure => rw [Hgk.out]; simp; omega
                case rel => exact ⟨rest ++ (p.needs ++ meetN P p), seen ++ [p.id], rfl, HTe.out, HMw.out, HXw.out, ⟨HNV.out, HKe.out, hlen2⟩, HBw.out, by omega⟩
      · have hl1 := (hl wr hbel).2
        unfold zeroV at hl1
        have HN2 := Lib.hid (hN.out.1.skip (.inl hf))
        clear hl hf hM hX hbel hGr hbk hcs hfit hlc
        go_wp2
        go_roundg ((x.l.length - seen.length) * 3000 + rest.length)
        case measure => rw [Hgk.out]; simp
        case rel => exact ⟨rest, seen, rfl, HTr.out.below ((Below.refl _ _).alloc (Nat.le_refl _) _), HM.out.alloc _, HX.out.alloc _, ⟨HN2.out, fun k hk => hN.out.2.1 k (List.mem_cons_of_mem _ hk), by have := hN.out.2.2; simp at this ⊢; omega⟩, HB.out.alloc HB.out.size _, by simp; omega⟩
end Go.Proofs.Ytmkfaibjjbgbbaa
