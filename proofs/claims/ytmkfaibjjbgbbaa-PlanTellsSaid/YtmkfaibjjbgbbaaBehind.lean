/- graph.behind; slices.Contains. -/
import Derived.Test.YtmkfaibjjbgbbaaReady
namespace Go.Proofs.Ytmkfaibjjbgbbaa
open Go.RowKit
set_option linter.unusedVariables false
attribute [local go_sem ↓] Go.wp_at_zero Go.wp_at_succ

theorem enters93 : ∀ args w, (callFunc 93 args).run Try.prog w = .ok (.enter 93 args) w := enters_of Try.func93 (by kernel_rfl) rfl

theorem contains_any (v : Value) (l : List Int) (y : Int) (w : World) (hv : Arr w 3 v (ints l)) : Calls Try.prog 58 #[v, .int .i64 y] w fun e w' => e = .returned (.bool (l.contains y)) ∧ w' = w := by
  rcases hv with ⟨rfl, e2⟩ | ⟨gb, o, c, cs, rfl, h1, h2, hb, hc⟩
  · obtain rfl : l = [] := List.eq_nil_of_map_eq_nil e2
    exact Try.slices_Contains_int_empty none 0 y w
  · rw [ints_len] at h1 ⊢
    unfold maxLen at h2
    have := Try.slices_Contains_int gb o l.length c l y w (Nat.le_refl _) (by omega) (fun j hj => by
      have hx : l[j]? = some (l[j]'hj) := List.getElem?_eq_getElem hj
      rw [hb.cell, hc j _ (ints_at hx), List.getD_eq_getElem?_getD, hx]
      rfl)
    rwa [List.take_length] at this

set_option maxHeartbeats 1000000 in
theorem behind_one (b3 b2 g mb n : Nat) (x : G) (k : Int) (p q : Pt) (A : Option Addr) (c : Nat) (B : Option Addr) (d : Nat) (w : World) (hb2 : w.cell? ⟨b2, 0, none⟩ = some (.pointer (some ⟨g, 0, none⟩)))
    (hb9 : Blk w b3 30 (q.cells (.slice A (bytes q.data).length c) (.slice B (ints q.needs).length d))) (hq : PtV w (q.val (.slice A (bytes q.data).length c) (.slice B (ints q.needs).length d)) q) (hG : Gr w g mb n x) (hk : (key k).wf = true) (hf : x.find k = some p) (sp : p.small) (sq : q.small) :
    Calls Try.prog 93 #[.int .i64 k, .pointer (some ⟨b3, 0, none⟩), .pointer (some ⟨b2, 0, none⟩)] w fun e w' => e = .returned (.bool (decide (k < q.id) && meetB p q)) ∧ Below w.heap.size w w' := by
  rcases hG.look hk with ⟨p', A1, k1, A2, k2, hf', hv, hl⟩ | ⟨hf', hl⟩
  case inr => rw [hf] at hf'; cases hf'
  rw [hf] at hf'
  obtain rfl : p = p' := Option.some.inj hf'
  have HS := Lib.hid fun (W : World) (h : Below w.heap.size w W) => show W.cell? ⟨b2, 0, none⟩ = some (.pointer (some ⟨g, 0, none⟩)) ∧ W.cell? ⟨g, 1, none⟩ = some (.map (some mb)) ∧
      (W.cell? ⟨b3, 0, none⟩ = some (.int .i64 q.id) ∧ W.cell? ⟨b3, 1, none⟩ = some (.int .i64 q.sec) ∧ W.cell? ⟨b3, 2, none⟩ = some (.int .i64 q.off) ∧ W.cell? ⟨b3, 3, none⟩ = some (.slice A (bytes q.data).length c) ∧ W.cell? ⟨b3, 4, none⟩ = some (.int .i64 q.kind) ∧
        W.cell? ⟨b3, 5, none⟩ = some (.slice B (ints q.needs).length d) ∧ W.cell? ⟨b3, 6, none⟩ = some (.int .i64 q.owner) ∧ W.cell? ⟨b3, 7, none⟩ = some (.int .i64 q.child) ∧ W.cell? ⟨b3, 8, none⟩ = some (.bool q.written)) ∧
      (Instr.lookup 77 (.map (some mb)) (.int .i64 k) false).run Try.prog W = .ok (p.val (.slice A1 (bytes p.data).length k1) (.slice A2 (ints p.needs).length k2)) W from by
    have hx := (hb9.below h hb9.lt).cell
    exact ⟨(h.cell (p := ⟨b2, 0, none⟩) (World.block_lt_of_cell? w _ hb2)).trans hb2, (hG.below h).c1, ⟨hx 0, hx 1, hx 2, hx 3, hx 4, hx 5, hx 6, hx 7, hx 8⟩, (hl W h).1⟩
  have HM := Lib.hid fun (W : World) (h : Below w.heap.size w W) => meet_any _ _ p q W (hv.below h) (hq.below h) sp sq
  have hd0 : Below w.heap.size w w.drew := (Below.refl _ _).drew
  clear hb2 hb9 hq hG hf sp sq hl hv hf'
  unfold Pt.val at *
  by_cases hlt : k < q.id
  · have HF := Lib.hid (show (decide (k < q.id) && meetB p q) = meetB p q by simp [hlt])
    go_enter Try.func93, Try.ntmps93
    go_wp2_with fail
    go_region_held3 (fun W => W.cell? ⟨b2, 0, none⟩ = some (.pointer (some ⟨g, 0, none⟩)) ∧ W.cell? ⟨g, 1, none⟩ = some (.map (some mb)) ∧
      (W.cell? ⟨b3, 0, none⟩ = some (.int .i64 q.id) ∧ W.cell? ⟨b3, 1, none⟩ = some (.int .i64 q.sec) ∧ W.cell? ⟨b3, 2, none⟩ = some (.int .i64 q.off) ∧ W.cell? ⟨b3, 3, none⟩ = some (.slice A (bytes q.data).length c) ∧ W.cell? ⟨b3, 4, none⟩ = some (.int .i64 q.kind) ∧
        W.cell? ⟨b3, 5, none⟩ = some (.slice B (ints q.needs).length d) ∧ W.cell? ⟨b3, 6, none⟩ = some (.int .i64 q.owner) ∧ W.cell? ⟨b3, 7, none⟩ = some (.int .i64 q.child) ∧ W.cell? ⟨b3, 8, none⟩ = some (.bool q.written)) ∧
      (Instr.lookup 77 (.map (some mb)) (.int .i64 k) false).run Try.prog W = .ok (.agg #[.int .i64 p.id, .int .i64 p.sec, .int .i64 p.off, .slice A1 (bytes p.data).length k1, .int .i64 p.kind, .slice A2 (ints p.needs).length k2, .int .i64 p.owner, .int .i64 p.child, .bool p.written]) W)
      (first | exact HS.out _ hd0 | exact HS.out _ hb3)
      (first | (go_at_call 56; refine (HM.out _ hd0).mono ?_; rintro e w3 ⟨rfl, hb3'⟩; have hb3 := hd0.trans (hb3'.mono hd0.size)))
    have HB := Lib.hid hb3
    clear hb3 hb3'
    go_wp2
    go_ret
    exact ⟨ret_bool HF.out.symm, HB.out⟩
  · have HF := Lib.hid (show (decide (k < q.id) && meetB p q) = false by simp [hlt])
    have hlt2 : decide (k < q.id) = false := decide_eq_false hlt
    have h0 := (HS.out _ hd0).2.2.1.1
    go_enter Try.func93, Try.ntmps93
    go_wp2_with fail
    go_region
    all_goals go_wp2
    all_goals go_ret
    all_goals exact ⟨ret_bool HF.out.symm, (Below.refl _ _).drew⟩

def behindB (x : G) (p : Pt) : Bool := (openL x p.sec).any fun q => decide (q.id < p.id) && meetB q p
def behK (x : G) (p : Pt) (k : Int) : Bool := match x.find k with | some q => decide (k < p.id) && meetB q p | none => false
theorem beh_any {x : G} (hx : x.l.Pairwise (fun p q => p.id < q.id)) {p : Pt} (no : List Pt) (h : ∀ q ∈ no, q ∈ x.l) : (no.map (·.id)).any (behK x p) = no.any fun q => decide (q.id < p.id) && meetB q p := by
  induction no with
  | nil => rfl
  | cons q no ih =>
    rw [List.map_cons, List.any_cons, List.any_cons, ih fun q hq => h q (List.mem_cons_of_mem _ hq)]
    congr 1
    unfold behK
    rw [find_id hx (h q (by simp))]

set_option maxHeartbeats 1000000 in
theorem behind_any (g mb n : Nat) (x : G) (p : Pt) (A1 : Option Addr) (k1 : Nat) (A2 : Option Addr) (k2 : Nat) (w : World) (hG : Gr w g mb n x) (hx : x.l.Pairwise (fun p q => p.id < q.id)) (hlen : x.l.length ≤ 100000) (hfit : ∀ p ∈ x.l, p.fit)
    (hp : PtV w (p.val (.slice A1 (bytes p.data).length k1) (.slice A2 (ints p.needs).length k2)) p) (sp : p.small) :
    Calls Try.prog 59 #[.pointer (some ⟨g, 0, none⟩), p.val (.slice A1 (bytes p.data).length k1) (.slice A2 (ints p.needs).length k2)] w fun e w' => e = .returned (.bool (behindB x p)) ∧ Below w.heap.size w w' := by
  have hm := hmf
  have hB1 := (Blk.new w 24 #[.pointer (some ⟨g, 0, none⟩)]).alloc (.cells (p.cells (.slice A1 (bytes p.data).length k1) (.slice A2 (ints p.needs).length k2)) 30)
  have hB2 : Blk ((w.alloc (.cells #[.pointer (some ⟨g, 0, none⟩)] 24)).alloc (.cells (p.cells (.slice A1 (bytes p.data).length k1) (.slice A2 (ints p.needs).length k2)) 30)) (w.heap.size + 1) 30 (p.cells (.slice A1 (bytes p.data).length k1) (.slice A2 (ints p.needs).length k2)) := by
    have := Blk.new (w.alloc (.cells #[.pointer (some ⟨g, 0, none⟩)] 24)) 30 (p.cells (.slice A1 (bytes p.data).length k1) (.slice A2 (ints p.needs).length k2))
    simpa using this
  have hbw : Below w.heap.size w ((w.alloc (.cells #[.pointer (some ⟨g, 0, none⟩)] 24)).alloc (.cells (p.cells (.slice A1 (bytes p.data).length k1) (.slice A2 (ints p.needs).length k2)) 30)) := ((Below.refl _ _).alloc (Nat.le_refl _) _).alloc (by simp) _
  have hsz : ((w.alloc (.cells #[.pointer (some ⟨g, 0, none⟩)] 24)).alloc (.cells (p.cells (.slice A1 (bytes p.data).length k1) (.slice A2 (ints p.needs).length k2)) 30)).heap.size = w.heap.size + 2 := by simp
  have hO := open_any g mb n x p.sec ((w.alloc (.cells #[.pointer (some ⟨g, 0, none⟩)] 24)).alloc (.cells (p.cells (.slice A1 (bytes p.data).length k1) (.slice A2 (ints p.needs).length k2)) 30)) ((hG.alloc _).alloc _) hx hlen
  rw [ids_openL, hsz] at hO
  have HO := Lib.hid hO
  have hmem : ∀ q ∈ openL x p.sec, q ∈ x.l := fun q hq => (List.mem_filter.1 hq).1
  have HBeh := Lib.hid (beh_any hx (openL x p.sec) hmem (p := p))
  have HT := Lib.hid fun (W : World) (hW : Below ((w.alloc (.cells #[.pointer (some ⟨g, 0, none⟩)] 24)).alloc (.cells (p.cells (.slice A1 (bytes p.data).length k1) (.slice A2 (ints p.needs).length k2)) 30)).heap.size ((w.alloc (.cells #[.pointer (some ⟨g, 0, none⟩)] 24)).alloc (.cells (p.cells (.slice A1 (bytes p.data).length k1) (.slice A2 (ints p.needs).length k2)) 30)) W) =>
    show Tells 93 #[.pointer (some ⟨w.heap.size + 1, 0, none⟩), .pointer (some ⟨w.heap.size, 0, none⟩)] (· ∈ (openL x p.sec).map (·.id)) (behK x p) W from fun W2 y hy hW2 => by
      obtain ⟨q, hq, rfl⟩ := List.mem_map.1 hy
      have hqx := hmem q hq
      obtain ⟨sq, hidq, _⟩ := hfit q hqx
      have hW3 := hbw.trans (hW.mono (by omega))
      have hW4 := hW3.trans (hW2.mono hW3.size)
      have := behind_one (w.heap.size + 1) w.heap.size g mb n x q.id q p _ _ _ _ W2 (((hB1.below hW hB1.lt).below hW2 (hB1.below hW hB1.lt).lt).cell 0) ((hB2.below hW hB2.lt).below hW2 (hB2.below hW hB2.lt).lt) (hp.below hW4) (hG.below hW4) (key_wf (by omega) (by omega)) (find_id hx hqx) sq sp
      unfold behK
      rw [find_id hx hqx]
      exact this
  have HBW := Lib.hid hbw
  have H1 := Lib.hid hB1
  have H2 := Lib.hid hB2
  have HG := Lib.hid hG
  clear hG hx hfit hp hB1 hB2 hbw hO hmem sp hsz
  unfold Pt.val Pt.cells at *
  unfold behindB
  go_enter Try.func59, Try.ntmps59
  go_wp2_with fail
  refine HO.out.mono ?_
  rintro e w1 ⟨r, rfl, hr, hb⟩
  have HB1 := Lib.hid hb
  have HR := Lib.hid hr.arr
  have HB2 := Lib.hid (HBW.out.trans (hb.mono (by first | omega | simp)))
  clear hr hb
  go_wp2_with fail
  refine (containsFunc_any r _ 93 _ (behK x p) w1 HR.out enters93 (HT.out w1 (by simpa using HB1.out))).mono ?_
  rintro e w2 ⟨rfl, hb2⟩
  rw [HBeh.out]
  have HB3 := Lib.hid (HB2.out.trans (hb2.mono HB2.out.size))
  clear hb2
  go_wp2_with fail
  go_ret
  exact ⟨rfl, HB3.out⟩
end Go.Proofs.Ytmkfaibjjbgbbaa
