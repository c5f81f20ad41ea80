/- graph.settle, Settle, SettleAll. -/
import Derived.Test.YtmkfaibjjbgbbaaAsk
import Derived.Shelf.Abstract
namespace Go.Proofs.Ytmkfaibjjbgbbaa
open Go.RowKit
set_option linter.unusedVariables false

theorem enters94 : ∀ args w, (callFunc 94 args).run Try.prog w = .ok (.enter 94 args) w := enters_of Try.func94 (by kernel_rfl) rfl
theorem ask94 (b gf : Nat) (lb : Array Value) (x : G) (q : Pt → Bool) (w0 : World) (v : Value) (p : Pt) (W : World) (hb : W.cell? ⟨b, 0, none⟩ = some (.func (.func gf) #[] lb)) (hp : p ∈ x.l) (hv : PtV W v p)
    (eg : ∀ args w, (callFunc gf args).run Try.prog w = .ok (.enter gf args) w) (hq : TellsP gf lb x q w0) (hW : Below w0.heap.size w0 W) :
    Calls Try.prog 94 #[v, .pointer (some ⟨b, 0, none⟩)] W fun e w' => e = .returned (.bool (p.written && q p)) ∧ Below W.heap.size W w' := by
  have HV := Lib.hid hv
  obtain ⟨vd, vn, rfl, hd, hn⟩ := hv
  clear hd hn
  have hbl : b < W.heap.size := World.block_lt_of_cell? W _ hb
  unfold Pt.val at *
  have HK := Lib.hid (hq (W.alloc (.cells #[.int .i64 p.id, .int .i64 p.sec, .int .i64 p.off, vd, .int .i64 p.kind, vn, .int .i64 p.owner, .int .i64 p.child, .bool p.written] 30)) _ p hp (HV.out.alloc _) (hW.alloc hW.size _))
  clear hq hW
  cases hw : p.written with
  | true =>
    rw [hw] at HK
    go_enter Try.func94, Try.ntmps94
    go_wp2_with (go_at_fn gf; refine HK.out.mono ?_; rintro e w1 ⟨rfl, hb1⟩)
    go_ret
    exact ⟨ret_bool (show q p = (true && q p) from rfl), ((Below.refl _ _).alloc (Nat.le_refl _) _).trans (hb1.mono (by simp))⟩
  | false =>
    go_enter Try.func94, Try.ntmps94
    go_wp2
    go_ret
    exact ⟨rfl, (Below.refl _ _).alloc (Nat.le_refl _) _⟩

def settleG (x : G) (q : Pt → Bool) : G := ⟨x.last, x.l.filter fun p => !(p.written && q p)⟩
def stay (x : G) (L : List Int) : G := ⟨x.last, x.l.filter fun p => decide (p.id ∉ L)⟩
theorem find_stay (x : G) (L : List Int) (k : Int) : (stay x L).find k = if k ∈ L then none else x.find k := by
  unfold stay G.find
  rw [List.find?_filter]
  by_cases h : k ∈ L
  · rw [if_pos h, List.find?_eq_none]
    intro p hp
    simp
    intro h1 e
    rw [e] at h1
    exact h1 h
  · rw [if_neg h]
    congr 1
    funext p
    by_cases e : p.id = k
    · simp [e, h]
    · simp [e]
theorem stay_all {x : G} {q : Pt → Bool} (hx : x.l.Pairwise (fun p q => p.id < q.id)) : stay x (idsOf x fun p => p.written && q p) = settleG x q := by
  unfold stay settleG
  congr 1
  apply List.filter_congr
  intro p hp
  have h : p.id ∈ (idsOf x fun p => p.written && q p) ↔ (p.written && q p) = true := by
    rw [mem_ids]
    constructor
    · rintro ⟨p', h1, h2, e⟩
      rw [← id_inj hx h1 hp e]
      exact h2
    · intro h
      exact ⟨p, hp, h, rfl⟩
  cases hq : p.written && q p with
  | true => simp [h.2 hq]
  | false =>
    have : ¬ p.id ∈ (idsOf x fun p => p.written && q p) := fun e => by have := h.1 e; rw [hq] at this; cases this
    simp [this]
theorem stay_nil (x : G) : stay x [] = x := by
  unfold stay
  cases x
  congr 1
  exact List.filter_eq_self.2 fun _ _ => by simp

theorem holds_stay {w w' : World} {f : Int → Option Value} {x : G} {L : List Int} {k : Nat} {y : Int} (h : Holds w f (stay x (L.take k))) (hy : L[k]? = some y)
    (hb : ∀ g t cs, (t = 3 ∨ t = 5) → Blk w g t cs → Blk w' g t cs) : Holds w' (upd f y none) (stay x (L.take (k + 1))) := by
  have h' := h.move hb
  intro z
  rw [find_stay, List.take_add_one, hy]
  have hz := h' z
  rw [find_stay] at hz
  by_cases e : z = y
  · subst e
    rw [if_pos (by simp)]
    exact upd_same _ _ _
  · by_cases hm : z ∈ L.take k
    · rw [if_pos (by simp [hm])]
      rw [if_pos hm] at hz
      exact (upd_other _ _ e).trans hz
    · rw [if_neg (by simp [hm, e])]
      rw [if_neg hm] at hz
      cases hf : x.find z with
      | none => rw [hf] at hz; exact (upd_other _ _ e).trans hz
      | some p =>
        rw [hf] at hz
        obtain ⟨v, ev, hv⟩ := hz
        exact ⟨v, (upd_other _ _ e).trans ev, hv⟩

set_option maxHeartbeats 1000000 in
theorem settle_any (g mb n : Nat) (x : G) (gf : Nat) (lb : Array Value) (q : Pt → Bool) (w : World) (hG : Gr w g mb n x) (hx : x.l.Pairwise (fun p q => p.id < q.id)) (hlen : x.l.length ≤ 100000) (hid : ∀ p ∈ x.l, 0 ≤ p.id ∧ p.id ≤ 1000000)
    (eg : ∀ args w, (callFunc gf args).run Try.prog w = .ok (.enter gf args) w) (hq : TellsP gf lb x q w) :
    Calls Try.prog 60 #[.pointer (some ⟨g, 0, none⟩), .func (.func gf) #[] lb] w fun e w' => e = .returned (.int .i64 (idsOf x fun p => p.written && q p).length) ∧ Gr w' g mb n (settleG x q) ∧ Turn (fun j => j = mb) w w' := by
  have HG := Lib.hid hG
  have hm := hmf
  have ha : Below w.heap.size w (w.alloc (.cells #[.func (.func gf) #[] lb] 81)) := (Below.refl _ _).alloc (Nat.le_refl _) _
  have HK := Lib.hid (ids_any g mb n x 94 #[.pointer (some ⟨w.heap.size, 0, none⟩)] (fun p => p.written && q p) (w.alloc (.cells #[.func (.func gf) #[] lb] 81)) (hG.alloc _) hx hlen enters94
    (fun W v p hp hv hb => ask94 w.heap.size gf lb x q w v p W ((hb.cell (p := ⟨w.heap.size, 0, none⟩) (by simp)).trans (by simp [go_sem])) hp hv eg hq (ha.trans (hb.mono (by simp)))))
  have HS := Lib.hid (stay_all (q := q) hx)
  have HI := Lib.hid (fun (k : Nat) (y : Int) (h : (idsOf x fun p => p.written && q p)[k]? = some y) => show (key y).wf = true from by
    obtain ⟨p, hp, _, e⟩ := mem_ids.1 (List.mem_of_getElem? h)
    have := hid p hp
    exact key_wf (by omega) (by omega))
  have hLl : (idsOf x fun p => p.written && q p).length ≤ 1000000 := by
    unfold idsOf
    rw [List.length_map]
    have := List.length_filter_le (fun p : Pt => p.written && q p) x.l
    omega
  clear hG hx hq hid
  generalize (idsOf x fun p => p.written && q p) = L at *
  go_enter Try.func60, Try.ntmps60
  go_wp2_with fail
  refine HK.out.mono ?_
  rintro e w1 ⟨r, rfl, hr, hb⟩
  have hb1 : Below w.heap.size w w1 := ha.trans (hb.mono (by simp))
  have HB1 := Lib.hid hb1
  have hat := hr.arr
  obtain ⟨A, c, rfl, h1, h2⟩ := hr.arr.len
  have HA := Lib.hid (show ∀ (k : Nat) (y : Int), L[k]? = some y → ∃ gb o cs, A = some ⟨gb, o, none⟩ ∧ Blk w1 gb 3 cs ∧ cs[o + k]? = some (.int .i64 y) from fun k y hy => by
    rcases hat with ⟨_, e⟩ | ⟨gb, o, c', cs, e1, _, _, hbk, hc⟩
    · have := ints_at hy; rw [e] at this; cases this
    · injection e1 with e1
      exact ⟨gb, o, cs, e1, hbk, hc k _ (ints_at hy)⟩)
  rw [ints_len] at h1 ⊢
  unfold maxLen at h2
  obtain ⟨hg1, f1, hm1, hh1⟩ := HG.out.below hb1
  have HG1 := Lib.hid hg1
  have HM1 := Lib.hid hm1
  have HH1 := Lib.hid hh1
  have hne := HG.out.ne
  clear hr hb hb1 hg1 hm1 hh1 ha HK hat
  go_wp2_with fail
  go_loopw [13] (fun i wr => ∃ k : Nat, k ≤ L.length ∧ i = .int .i64 k ∧ Turn (fun j => j = mb) w1 wr ∧ ∃ f', MapIs wr mb n f' ∧ Hid (Holds wr f' (stay x (L.take k)))) (fun i _ => L.length - (intOf i).toNat)
  case atStart => exact ⟨0, Nat.zero_le _, rfl, Turn.refl _ _, f1, HM1.out, by unfold Hid; rw [List.take_zero, stay_nil]; exact HH1.out⟩
  case round =>
    obtain ⟨k, hk, rfl, hT, f', hmm, hH⟩ := hrel
    have HT := Lib.hid hT
    by_cases hlt : k < L.length
    · obtain ⟨y, hy⟩ : ∃ y, L[k]? = some y := ⟨_, List.getElem?_eq_getElem hlt⟩
      obtain ⟨gb, o, cs, rfl, hbk, hcs⟩ := HA.out k y hy
      have hc1 : wr.cell? ⟨gb, o + k, none⟩ = some (.int .i64 y) := ((hbk.turn hT (fun e => HM1.out.not_blk hbk e.symm)).cell (o + k)).trans hcs
      have hg := HG1.out.turn hT (fun e => hne e.symm)
      have hcg := hg.cell 1
      simp at hcg
      obtain ⟨w2, hrun, hm2, hg2⟩ := hmm.drop Try.underlying77 (HI.out k y hy) 0
      have HM2 := Lib.hid hm2
      have T2 := turn_of_grown hg2
      have HT2 := Lib.hid (hT.trans T2 (fun i hi e => e))
      have HH2 := Lib.hid (holds_stay hH.out hy (fun i t cs ht kk => kk.turn T2 (fun e => hmm.not_blk kk e.symm)))
      clear hT hbk hcs hg hm2 hg2 T2 hH hmm
      go_wp2
      go_roundw
      case rel => exact ⟨k + 1, by omega, by go_num, HT2.out, _, HM2.out, HH2.out⟩
      case measure => simp [intOf]; omega
    · obtain rfl : k = L.length := by omega
      have HR := Lib.hid (show Gr wr g mb n (settleG x q) from ⟨HG1.out.turn hT (fun e => hne e.symm), f', hmm, by have h := hH.out; rw [List.take_length, HS.out] at h; exact h⟩)
      have HF := Lib.hid ((Turn.of_below (S := fun j => j = mb) HB1.out).trans hT (fun i hi e => e))
      clear hT hmm hH
      go_wp2
      go_ret
      exact ⟨rfl, HR.out, HF.out⟩

theorem settleAll_any (g mb n : Nat) (x : G) (w : World) (hG : Gr w g mb n x) (hx : x.l.Pairwise (fun p q => p.id < q.id)) (hlen : x.l.length ≤ 100000) (hid : ∀ p ∈ x.l, 0 ≤ p.id ∧ p.id ≤ 1000000) :
    Calls Try.prog 19 #[.pointer (some ⟨g, 0, none⟩)] w fun e w' => e = .returned (.int .i64 (idsOf x fun p => p.written).length) ∧ Gr w' g mb n (settleG x fun _ => true) ∧ Turn (fun j => j = mb) w w' := by
  have HK := Lib.hid (settle_any g mb n x 61 #[] (fun _ => true) w hG hx hlen hid enters61 (fun W v p _ hv _ => ask61 v p W hv))
  clear hG hx hid
  go_enter Try.func19, Try.ntmps19
  go_wp2_with fail
  refine HK.out.mono ?_
  rintro e w1 ⟨rfl, hr, hb⟩
  have HR := Lib.hid hr
  have HB := Lib.hid hb
  clear hr hb
  go_wp2_with fail
  go_ret
  exact ⟨rfl, HR.out, HB.out⟩
theorem settleOf_any (g mb n : Nat) (x : G) (s : Int) (w : World) (hG : Gr w g mb n x) (hx : x.l.Pairwise (fun p q => p.id < q.id)) (hlen : x.l.length ≤ 100000) (hid : ∀ p ∈ x.l, 0 ≤ p.id ∧ p.id ≤ 1000000) :
    Calls Try.prog 25 #[.pointer (some ⟨g, 0, none⟩), .int .i64 s] w fun e w' => e = .returned (.int .i64 (idsOf x fun p => p.written && decide (p.sec = s)).length) ∧ Gr w' g mb n (settleG x fun p => decide (p.sec = s)) ∧ Turn (fun j => j = mb) w w' := by
  have HK := Lib.hid (settle_any g mb n x 74 #[.pointer (some ⟨w.heap.size, 0, none⟩)] (fun p => decide (p.sec = s)) (w.alloc (.cells #[.int .i64 s] 3)) (hG.alloc _) hx hlen hid enters74 (fun W v p _ hv hb => ask74 w.heap.size s v p W ((hb.cell (p := ⟨w.heap.size, 0, none⟩) (by simp)).trans (by simp [go_sem])) hv))
  have hm := hmf
  clear hG hx hid
  go_enter Try.func25, Try.ntmps25
  go_wp2_with fail
  refine HK.out.mono ?_
  rintro e w1 ⟨rfl, hr, hb⟩
  have HR := Lib.hid hr
  have HB := Lib.hid (((Turn.refl (fun j => j = mb) w).alloc (.cells #[.int .i64 s] 3)).trans hb (fun i hi e => e))
  clear hr hb
  go_wp2_with fail
  go_ret
  exact ⟨rfl, HR.out, HB.out⟩
theorem settle_nil (fv : Value) (gf : Nat) (lb : Array Value) (hf : fv = .func (.func gf) #[] lb) (w : World) : Calls Try.prog 60 #[.pointer none, fv] w fun e w' => e = .returned (.int .i64 0) ∧ Below w.heap.size w w' := by
  subst hf
  have hm := hmf
  have HK := fun (W : World) (fv : Value) => ids_nil fv W
  go_enter Try.func60, Try.ntmps60
  go_wp2_with fail
  refine (HK _ _).mono ?_
  rintro e w1 ⟨rfl, rfl⟩
  go_wp2_with fail
  refine wp_loop_rounds 1 ?_
  rw [rounds_succ]
  go_wp2
  go_ret
  exact ⟨rfl, (Below.refl _ _).alloc (Nat.le_refl _) _⟩
theorem settleAll_nil (w : World) : Calls Try.prog 19 #[.pointer none] w fun e w' => e = .returned (.int .i64 0) ∧ Below w.heap.size w w' := by
  have HK := fun (W : World) => settle_nil (.func (.func 61) #[] #[]) 61 #[] rfl W
  go_enter Try.func19, Try.ntmps19
  go_wp2_with fail
  refine (HK _).mono ?_
  rintro e w1 ⟨rfl, hb⟩
  have HB := Lib.hid hb
  clear hb
  go_wp2_with fail
  go_ret
  exact ⟨rfl, HB.out⟩
theorem settleOf_nil (s : Int) (w : World) : Calls Try.prog 25 #[.pointer none, .int .i64 s] w fun e w' => e = .returned (.int .i64 0) ∧ Below w.heap.size w w' := by
  have hm := hmf
  have HK := fun (W : World) => settle_nil (.func (.func 74) #[] #[.pointer (some ⟨w.heap.size, 0, none⟩)]) 74 #[.pointer (some ⟨w.heap.size, 0, none⟩)] rfl W
  go_enter Try.func25, Try.ntmps25
  go_wp2_with fail
  refine (HK _).mono ?_
  rintro e w1 ⟨rfl, hb⟩
  have HB := Lib.hid (((Below.refl w.heap.size w).alloc (Nat.le_refl _) _).trans (hb.mono (by simp)))
  clear hb
  go_wp2_with fail
  go_ret
  exact ⟨rfl, HB.out⟩
end Go.Proofs.Ytmkfaibjjbgbbaa
