/- behind of package scupperref14. -/
import Derived.Test.YtmkfaibjjbgbbaaRef
import Derived.Deep.RegionHeld3
import Derived.BigQuiet
namespace Go.Proofs.Ytmkfaibjjbgbbaa
open Go.RowKit
set_option linter.unusedVariables false
attribute [local go_sem ↓] Go.wp_at_zero Go.wp_at_succ

/-- One ahead of the place k that is not written meets the patch there. -/
def behR (l : List Pt) (k : Nat) (q : Pt) : Bool := (l.take k).any fun p => !p.written && meetR p q
theorem behR_on {l : List Pt} {k i : Nat} {p q : Pt} (h : l[i]? = some p) (h0 : behR l i q = false) (hp : (!p.written && meetR p q) = false) : behR l (i + 1) q = false := by
  unfold behR at *
  rw [List.take_add_one, h, List.any_append, h0]
  simpa using hp
theorem behR_hit {l : List Pt} {k i : Nat} {p q : Pt} (h : l[i]? = some p) (hik : i < k) (hp : (!p.written && meetR p q) = true) : behR l k q = true := by
  unfold behR
  rw [List.any_eq_true]
  refine ⟨p, ?_, hp⟩
  rw [List.mem_iff_getElem?]
  exact ⟨i, by rw [List.getElem?_take_of_lt hik]; exact h⟩

set_option maxHeartbeats 4000000 in
theorem rbehind_any (b : Nat) (x : G) (k : Nat) (q : Pt) (w : World) (h : RG w b x) (hk : x.l[k]? = some q) (hs : ∀ p ∈ x.l, p.small) (hxl : x.l.length ≤ 1000) :
    Calls Try.prog 98 #[.pointer (some ⟨b, 0, none⟩), .int .i64 k] w fun e w' => e = .returned (.bool (behR x.l k q)) ∧ Below w.heap.size w w' := by
  obtain ⟨v, hb, hl⟩ := h
  have hkl : k < x.l.length := by
    rcases Nat.lt_or_ge k x.l.length with h | h
    · exact h
    · rw [List.getElem?_eq_none h] at hk; cases hk
  obtain ⟨gq, cq, B1, n1, B2, n2, rfl, hqc, hqv, hgq⟩ := hl.at hk
  have HL := Lib.hid hl
  have HBk := Lib.hid hb
  have HQC := Lib.hid hqc
  have HQV := Lib.hid hqv
  have hsq := hs q (List.mem_of_getElem? hk)
  have HSm := Lib.hid hs
  have hcm : cq ≤ 9223372036854775807 ∧ x.l.length ≤ cq := by
    obtain ⟨A', c', e, h1, h2⟩ := hl.len
    injection e with _ _ e
    subst e
    exact ⟨by unfold maxLen at h2; omega, h1⟩
  clear hb hl hqc hqv hk hs
  go_enter Try.func98, Try.ntmps98
  go_wp2_with fail
  go_loopw [5] (fun i wr => ∃ j : Nat, j ≤ k ∧ i = .int .i64 j ∧ Below w.heap.size w wr ∧ Hid (behR x.l j q = false)) (fun i _ => k - (intOf i).toNat)
  case atStart => exact ⟨0, Nat.zero_le _, rfl, Below.refl _ _, by unfold Hid behR; rw [List.take_zero]; rfl⟩
  case round =>
    obtain ⟨j, hj, rfl, hbel, hT⟩ := hrel
    have HB := Lib.hid hbel
    have hsz := hbel.size
    by_cases hlt : j < k
    · obtain ⟨p, hp⟩ : ∃ p, x.l[j]? = some p := ⟨_, List.getElem?_eq_getElem (by omega)⟩
      obtain ⟨g, c, A1, k1, A2, k2, e, hpc, hpv, hgp⟩ := HL.out.at hp
      injection e with e1 e2 e3
      injection e1 with e1
      injection e1 with e1
      subst e1 e3
      have hsp := HSm.out p (List.mem_of_getElem? hp)
      have HP := Lib.hid hp
      have HS := Lib.hid fun (W : World) (h : Below wr.heap.size wr W) => show W.cell? ⟨b, 1, none⟩ = some (.slice (some ⟨gq, 0, none⟩) x.l.length cq) ∧
          (W.cell? ⟨gq, j * 9, none⟩ = some (.int .i64 p.id) ∧ W.cell? ⟨gq, j * 9 + 1, none⟩ = some (.int .i64 p.sec) ∧ W.cell? ⟨gq, j * 9 + 2, none⟩ = some (.int .i64 p.off) ∧ W.cell? ⟨gq, j * 9 + 3, none⟩ = some (.slice A1 (bytes p.data).length k1) ∧ W.cell? ⟨gq, j * 9 + 4, none⟩ = some (.int .i64 p.kind) ∧ W.cell? ⟨gq, j * 9 + 5, none⟩ = some (.slice A2 (ints p.needs).length k2) ∧ W.cell? ⟨gq, j * 9 + 6, none⟩ = some (.int .i64 p.owner) ∧ W.cell? ⟨gq, j * 9 + 7, none⟩ = some (.int .i64 p.child) ∧ W.cell? ⟨gq, j * 9 + 8, none⟩ = some (.bool p.written)) ∧
          (W.cell? ⟨gq, k * 9, none⟩ = some (.int .i64 q.id) ∧ W.cell? ⟨gq, k * 9 + 1, none⟩ = some (.int .i64 q.sec) ∧ W.cell? ⟨gq, k * 9 + 2, none⟩ = some (.int .i64 q.off) ∧ W.cell? ⟨gq, k * 9 + 3, none⟩ = some (.slice B1 (bytes q.data).length n1) ∧ W.cell? ⟨gq, k * 9 + 4, none⟩ = some (.int .i64 q.kind) ∧ W.cell? ⟨gq, k * 9 + 5, none⟩ = some (.slice B2 (ints q.needs).length n2) ∧ W.cell? ⟨gq, k * 9 + 6, none⟩ = some (.int .i64 q.owner) ∧ W.cell? ⟨gq, k * 9 + 7, none⟩ = some (.int .i64 q.child) ∧ W.cell? ⟨gq, k * 9 + 8, none⟩ = some (.bool q.written)) from by
        have hW := hbel.trans (h.mono hsz)
        have mv : ∀ (o : Nat) (u : Value), w.cell? ⟨gq, o, none⟩ = some u → W.cell? ⟨gq, o, none⟩ = some u := fun o u hu => (hW.cell (p := ⟨gq, o, none⟩) hgq).trans hu
        refine ⟨(hW.cell (p := ⟨b, 1, none⟩) HBk.out.lt).trans (HBk.out.cell 1), ⟨mv _ _ (hpc 0 _ rfl), mv _ _ (hpc 1 _ rfl), mv _ _ (hpc 2 _ rfl), mv _ _ (hpc 3 _ rfl), mv _ _ (hpc 4 _ rfl), mv _ _ (hpc 5 _ rfl), mv _ _ (hpc 6 _ rfl), mv _ _ (hpc 7 _ rfl), mv _ _ (hpc 8 _ rfl)⟩,
          ⟨mv _ _ (HQC.out 0 _ rfl), mv _ _ (HQC.out 1 _ rfl), mv _ _ (HQC.out 2 _ rfl), mv _ _ (HQC.out 3 _ rfl), mv _ _ (HQC.out 4 _ rfl), mv _ _ (HQC.out 5 _ rfl), mv _ _ (HQC.out 6 _ rfl), mv _ _ (HQC.out 7 _ rfl), mv _ _ (HQC.out 8 _ rfl)⟩⟩
      have HM := Lib.hid fun (W : World) (h : Below wr.heap.size wr W) => rmeet_any _ _ p q W (hpv.below (hbel.trans (h.mono hsz))) (HQV.out.below (hbel.trans (h.mono hsz))) hsp hsq
      have hd0 : Below wr.heap.size wr wr.drew := (Below.refl _ _).drew
      have ij0 : (0 : Int) ≤ (j : Int) := by omega
      have ij1 : (j : Int) < (x.l.length : Int) := by omega
      have ik0 : (0 : Int) ≤ (k : Int) := by omega
      have ik1 : (k : Int) < (x.l.length : Int) := by omega
      clear hbel hpc hpv hp e2
      unfold Pt.val at HM
      cases hw : p.written with
      | true =>
        have HN := Lib.hid (behR_on (k := k) HP.out hT.out (show (!p.written && meetR p q) = false by rw [hw]; rfl))
        obtain ⟨hc0, ⟨-, -, -, -, -, -, -, -, hc8⟩, -⟩ := HS.out wr (Below.refl _ _)
        rw [hw] at hc8
        clear hw
        go_wp2_with fail
        go_quiet (fail)
        go_wp2
        go_roundw
        case rel => exact ⟨j + 1, by omega, by go_num, (by have h := HB.out; exact ⟨h.os, h.tape, h.output, h.size, h.block⟩), HN.out⟩
        case measure => simp [intOf]; omega
      | false =>
        cases hm : meetR p q with
        | true =>
          have HN := Lib.hid (behR_hit (k := k) (q := q) HP.out hlt (show (!p.written && meetR p q) = true by rw [hw, hm]; rfl))
          rw [hm] at HM
          have HS2 := Lib.hid fun (W : World) (h : Below wr.heap.size wr W) => (show W.cell? ⟨b, 1, none⟩ = some (.slice (some ⟨gq, 0, none⟩) x.l.length cq) ∧
          (W.cell? ⟨gq, j * 9, none⟩ = some (.int .i64 p.id) ∧ W.cell? ⟨gq, j * 9 + 1, none⟩ = some (.int .i64 p.sec) ∧ W.cell? ⟨gq, j * 9 + 2, none⟩ = some (.int .i64 p.off) ∧ W.cell? ⟨gq, j * 9 + 3, none⟩ = some (.slice A1 (bytes p.data).length k1) ∧ W.cell? ⟨gq, j * 9 + 4, none⟩ = some (.int .i64 p.kind) ∧ W.cell? ⟨gq, j * 9 + 5, none⟩ = some (.slice A2 (ints p.needs).length k2) ∧ W.cell? ⟨gq, j * 9 + 6, none⟩ = some (.int .i64 p.owner) ∧ W.cell? ⟨gq, j * 9 + 7, none⟩ = some (.int .i64 p.child) ∧ W.cell? ⟨gq, j * 9 + 8, none⟩ = some (.bool false)) ∧
          (W.cell? ⟨gq, k * 9, none⟩ = some (.int .i64 q.id) ∧ W.cell? ⟨gq, k * 9 + 1, none⟩ = some (.int .i64 q.sec) ∧ W.cell? ⟨gq, k * 9 + 2, none⟩ = some (.int .i64 q.off) ∧ W.cell? ⟨gq, k * 9 + 3, none⟩ = some (.slice B1 (bytes q.data).length n1) ∧ W.cell? ⟨gq, k * 9 + 4, none⟩ = some (.int .i64 q.kind) ∧ W.cell? ⟨gq, k * 9 + 5, none⟩ = some (.slice B2 (ints q.needs).length n2) ∧ W.cell? ⟨gq, k * 9 + 6, none⟩ = some (.int .i64 q.owner) ∧ W.cell? ⟨gq, k * 9 + 7, none⟩ = some (.int .i64 q.child) ∧ W.cell? ⟨gq, k * 9 + 8, none⟩ = some (.bool q.written)) from by have h1 := HS.out W h; rw [hw] at h1; exact h1)
          rw [hw] at HM
          clear hw hm HS
          go_wp2_with fail
          go_region_held3 (fun W => W.cell? ⟨b, 1, none⟩ = some (.slice (some ⟨gq, 0, none⟩) x.l.length cq) ∧
          (W.cell? ⟨gq, j * 9, none⟩ = some (.int .i64 p.id) ∧ W.cell? ⟨gq, j * 9 + 1, none⟩ = some (.int .i64 p.sec) ∧ W.cell? ⟨gq, j * 9 + 2, none⟩ = some (.int .i64 p.off) ∧ W.cell? ⟨gq, j * 9 + 3, none⟩ = some (.slice A1 (bytes p.data).length k1) ∧ W.cell? ⟨gq, j * 9 + 4, none⟩ = some (.int .i64 p.kind) ∧ W.cell? ⟨gq, j * 9 + 5, none⟩ = some (.slice A2 (ints p.needs).length k2) ∧ W.cell? ⟨gq, j * 9 + 6, none⟩ = some (.int .i64 p.owner) ∧ W.cell? ⟨gq, j * 9 + 7, none⟩ = some (.int .i64 p.child) ∧ W.cell? ⟨gq, j * 9 + 8, none⟩ = some (.bool false)) ∧
          (W.cell? ⟨gq, k * 9, none⟩ = some (.int .i64 q.id) ∧ W.cell? ⟨gq, k * 9 + 1, none⟩ = some (.int .i64 q.sec) ∧ W.cell? ⟨gq, k * 9 + 2, none⟩ = some (.int .i64 q.off) ∧ W.cell? ⟨gq, k * 9 + 3, none⟩ = some (.slice B1 (bytes q.data).length n1) ∧ W.cell? ⟨gq, k * 9 + 4, none⟩ = some (.int .i64 q.kind) ∧ W.cell? ⟨gq, k * 9 + 5, none⟩ = some (.slice B2 (ints q.needs).length n2) ∧ W.cell? ⟨gq, k * 9 + 6, none⟩ = some (.int .i64 q.owner) ∧ W.cell? ⟨gq, k * 9 + 7, none⟩ = some (.int .i64 q.child) ∧ W.cell? ⟨gq, k * 9 + 8, none⟩ = some (.bool q.written)))
            (first | exact HS2.out _ hd0 | exact HS2.out _ hb3)
            (first | (go_at_call 100; refine (HM.out _ hd0).mono ?_; rintro e w3 ⟨rfl, hb3'⟩; have hb3 := hd0.trans (hb3'.mono hd0.size)))
          have HB3 := Lib.hid (HB.out.trans (hb3.mono hsz))
          clear hb3 hb3'
          go_wp2
          go_ret
          exact ⟨ret_bool HN.out.symm, HB3.out⟩
        | false =>
          have HN := Lib.hid (behR_on (k := k) HP.out hT.out (show (!p.written && meetR p q) = false by rw [hw, hm]; rfl))
          rw [hm] at HM
          have HS2 := Lib.hid fun (W : World) (h : Below wr.heap.size wr W) => (show W.cell? ⟨b, 1, none⟩ = some (.slice (some ⟨gq, 0, none⟩) x.l.length cq) ∧
          (W.cell? ⟨gq, j * 9, none⟩ = some (.int .i64 p.id) ∧ W.cell? ⟨gq, j * 9 + 1, none⟩ = some (.int .i64 p.sec) ∧ W.cell? ⟨gq, j * 9 + 2, none⟩ = some (.int .i64 p.off) ∧ W.cell? ⟨gq, j * 9 + 3, none⟩ = some (.slice A1 (bytes p.data).length k1) ∧ W.cell? ⟨gq, j * 9 + 4, none⟩ = some (.int .i64 p.kind) ∧ W.cell? ⟨gq, j * 9 + 5, none⟩ = some (.slice A2 (ints p.needs).length k2) ∧ W.cell? ⟨gq, j * 9 + 6, none⟩ = some (.int .i64 p.owner) ∧ W.cell? ⟨gq, j * 9 + 7, none⟩ = some (.int .i64 p.child) ∧ W.cell? ⟨gq, j * 9 + 8, none⟩ = some (.bool false)) ∧
          (W.cell? ⟨gq, k * 9, none⟩ = some (.int .i64 q.id) ∧ W.cell? ⟨gq, k * 9 + 1, none⟩ = some (.int .i64 q.sec) ∧ W.cell? ⟨gq, k * 9 + 2, none⟩ = some (.int .i64 q.off) ∧ W.cell? ⟨gq, k * 9 + 3, none⟩ = some (.slice B1 (bytes q.data).length n1) ∧ W.cell? ⟨gq, k * 9 + 4, none⟩ = some (.int .i64 q.kind) ∧ W.cell? ⟨gq, k * 9 + 5, none⟩ = some (.slice B2 (ints q.needs).length n2) ∧ W.cell? ⟨gq, k * 9 + 6, none⟩ = some (.int .i64 q.owner) ∧ W.cell? ⟨gq, k * 9 + 7, none⟩ = some (.int .i64 q.child) ∧ W.cell? ⟨gq, k * 9 + 8, none⟩ = some (.bool q.written)) from by have h1 := HS.out W h; rw [hw] at h1; exact h1)
          rw [hw] at HM
          clear hw hm HS
          go_wp2_with fail
          go_region_held3 (fun W => W.cell? ⟨b, 1, none⟩ = some (.slice (some ⟨gq, 0, none⟩) x.l.length cq) ∧
          (W.cell? ⟨gq, j * 9, none⟩ = some (.int .i64 p.id) ∧ W.cell? ⟨gq, j * 9 + 1, none⟩ = some (.int .i64 p.sec) ∧ W.cell? ⟨gq, j * 9 + 2, none⟩ = some (.int .i64 p.off) ∧ W.cell? ⟨gq, j * 9 + 3, none⟩ = some (.slice A1 (bytes p.data).length k1) ∧ W.cell? ⟨gq, j * 9 + 4, none⟩ = some (.int .i64 p.kind) ∧ W.cell? ⟨gq, j * 9 + 5, none⟩ = some (.slice A2 (ints p.needs).length k2) ∧ W.cell? ⟨gq, j * 9 + 6, none⟩ = some (.int .i64 p.owner) ∧ W.cell? ⟨gq, j * 9 + 7, none⟩ = some (.int .i64 p.child) ∧ W.cell? ⟨gq, j * 9 + 8, none⟩ = some (.bool false)) ∧
          (W.cell? ⟨gq, k * 9, none⟩ = some (.int .i64 q.id) ∧ W.cell? ⟨gq, k * 9 + 1, none⟩ = some (.int .i64 q.sec) ∧ W.cell? ⟨gq, k * 9 + 2, none⟩ = some (.int .i64 q.off) ∧ W.cell? ⟨gq, k * 9 + 3, none⟩ = some (.slice B1 (bytes q.data).length n1) ∧ W.cell? ⟨gq, k * 9 + 4, none⟩ = some (.int .i64 q.kind) ∧ W.cell? ⟨gq, k * 9 + 5, none⟩ = some (.slice B2 (ints q.needs).length n2) ∧ W.cell? ⟨gq, k * 9 + 6, none⟩ = some (.int .i64 q.owner) ∧ W.cell? ⟨gq, k * 9 + 7, none⟩ = some (.int .i64 q.child) ∧ W.cell? ⟨gq, k * 9 + 8, none⟩ = some (.bool q.written)))
            (first | exact HS2.out _ hd0 | exact HS2.out _ hb3)
            (first | (go_at_call 100; refine (HM.out _ hd0).mono ?_; rintro e w3 ⟨rfl, hb3'⟩; have hb3 := hd0.trans (hb3'.mono hd0.size)))
          have HB3 := Lib.hid (HB.out.trans (hb3.mono hsz))
          clear hb3 hb3'
          go_wp2
          go_roundw
          case rel => exact ⟨j + 1, by omega, by go_num, HB3.out, HN.out⟩
          case measure => simp [intOf]; omega
    · obtain rfl : j = k := by omega
      have HN := hT
      clear hbel
      go_wp2
      go_ret
      exact ⟨ret_bool HN.out.symm, HB.out⟩
end Go.Proofs.Ytmkfaibjjbgbbaa
