/- graph.Ready. -/
import Derived.Test.YtmkfaibjjbgbbaaWaits
import Derived.Maps.AppendAt
namespace Go.Proofs.Ytmkfaibjjbgbbaa
open Go.RowKit
set_option linter.unusedVariables false
attribute [local go_sem ↓] Go.wp_at_zero Go.wp_at_succ

def Pt.cells (q : Pt) (vd vn : Value) : Array Value := #[.int .i64 q.id, .int .i64 q.sec, .int .i64 q.off, vd, .int .i64 q.kind, vn, .int .i64 q.owner, .int .i64 q.child, .bool q.written]
theorem enters55 : ∀ args w, (callFunc 55 args).run Try.prog w = .ok (.enter 55 args) w := enters_of Try.func55 (by kernel_rfl) rfl

set_option maxHeartbeats 1000000 in
theorem ready_one (b2 b9 g mb n : Nat) (x : G) (k : Int) (p q : Pt) (A : Option Addr) (c : Nat) (B : Option Addr) (d : Nat) (w : World) (hb2 : w.cell? ⟨b2, 0, none⟩ = some (.pointer (some ⟨g, 0, none⟩)))
    (hb9 : Blk w b9 30 (q.cells (.slice A (bytes q.data).length c) (.slice B (ints q.needs).length d))) (hq : PtV w (q.val (.slice A (bytes q.data).length c) (.slice B (ints q.needs).length d)) q) (hG : Gr w g mb n x) (hk : (key k).wf = true) (hf : x.find k = some p) (sp : p.small) (sq : q.small) :
    Calls Try.prog 55 #[.int .i64 k, .pointer (some ⟨b2, 0, none⟩), .pointer (some ⟨b9, 0, none⟩)] w fun e w' => e = .returned (.bool (meetB p q)) ∧ Below w.heap.size w w' := by
  rcases hG.look hk with ⟨p', A1, k1, A2, k2, hf', hv, hl⟩ | ⟨hf', hl⟩
  case inr => rw [hf] at hf'; cases hf'
  rw [hf] at hf'
  obtain rfl : p = p' := Option.some.inj hf'
  have HS := Lib.hid fun (W : World) (h : Below w.heap.size w W) => show W.cell? ⟨b2, 0, none⟩ = some (.pointer (some ⟨g, 0, none⟩)) ∧ W.cell? ⟨g, 1, none⟩ = some (.map (some mb)) ∧
      (W.cell? ⟨b9, 0, none⟩ = some (.int .i64 q.id) ∧ W.cell? ⟨b9, 1, none⟩ = some (.int .i64 q.sec) ∧ W.cell? ⟨b9, 2, none⟩ = some (.int .i64 q.off) ∧ W.cell? ⟨b9, 3, none⟩ = some (.slice A (bytes q.data).length c) ∧ W.cell? ⟨b9, 4, none⟩ = some (.int .i64 q.kind) ∧
        W.cell? ⟨b9, 5, none⟩ = some (.slice B (ints q.needs).length d) ∧ W.cell? ⟨b9, 6, none⟩ = some (.int .i64 q.owner) ∧ W.cell? ⟨b9, 7, none⟩ = some (.int .i64 q.child) ∧ W.cell? ⟨b9, 8, none⟩ = some (.bool q.written)) ∧
      (Instr.lookup 77 (.map (some mb)) (.int .i64 k) false).run Try.prog W = .ok (p.val (.slice A1 (bytes p.data).length k1) (.slice A2 (ints p.needs).length k2)) W from by
    have hx := (hb9.below h hb9.lt).cell
    exact ⟨(h.cell (p := ⟨b2, 0, none⟩) (World.block_lt_of_cell? w _ hb2)).trans hb2, (hG.below h).c1, ⟨hx 0, hx 1, hx 2, hx 3, hx 4, hx 5, hx 6, hx 7, hx 8⟩, (hl W h).1⟩
  have HM := Lib.hid fun (W : World) (h : Below w.heap.size w W) => meet_any _ _ p q W (hv.below h) (hq.below h) sp sq
  have hd0 : Below w.heap.size w w.drew := (Below.refl _ _).drew
  have hS0 := HS.out _ hd0
  clear hb2 hb9 hq hG hf sp sq hl hv hf' hS0
  unfold Pt.val at *
  go_enter Try.func55, Try.ntmps55
  go_wp2_with fail
  go_region_held3 (fun W => W.cell? ⟨b2, 0, none⟩ = some (.pointer (some ⟨g, 0, none⟩)) ∧ W.cell? ⟨g, 1, none⟩ = some (.map (some mb)) ∧
      (W.cell? ⟨b9, 0, none⟩ = some (.int .i64 q.id) ∧ W.cell? ⟨b9, 1, none⟩ = some (.int .i64 q.sec) ∧ W.cell? ⟨b9, 2, none⟩ = some (.int .i64 q.off) ∧ W.cell? ⟨b9, 3, none⟩ = some (.slice A (bytes q.data).length c) ∧ W.cell? ⟨b9, 4, none⟩ = some (.int .i64 q.kind) ∧
        W.cell? ⟨b9, 5, none⟩ = some (.slice B (ints q.needs).length d) ∧ W.cell? ⟨b9, 6, none⟩ = some (.int .i64 q.owner) ∧ W.cell? ⟨b9, 7, none⟩ = some (.int .i64 q.child) ∧ W.cell? ⟨b9, 8, none⟩ = some (.bool q.written)) ∧
      (Instr.lookup 77 (.map (some mb)) (.int .i64 k) false).run Try.prog W = .ok (.agg #[.int .i64 p.id, .int .i64 p.sec, .int .i64 p.off, .slice A1 (bytes p.data).length k1, .int .i64 p.kind, .slice A2 (ints p.needs).length k2, .int .i64 p.owner, .int .i64 p.child, .bool p.written]) W)
    (first | exact HS.out _ hd0 | exact HS.out _ hb3)
    (first | (go_at_call 56; refine (HM.out _ hd0).mono ?_; rintro e w3 ⟨rfl, hb3'⟩; have hb3 := hd0.trans (hb3'.mono hd0.size)))
  have HB := Lib.hid hb3
  clear hb3 hb3'
  go_wp2
  go_ret
  exact ⟨rfl, HB.out⟩

theorem find_id {x : G} (hx : x.l.Pairwise (fun p q => p.id < q.id)) {p : Pt} (hp : p ∈ x.l) : x.find p.id = some p := by
  cases hf : x.find p.id with
  | none => exact absurd rfl (find_none hf p hp)
  | some q =>
    obtain ⟨hq, e⟩ := find_mem hf
    rw [id_inj hx hq hp e]

/-- What Ready keeps: those that are ready, those that are not, of the patches up to here. -/
def rdyStep (x : G) (a : List Pt × List Pt) (p : Pt) : List Pt × List Pt := if a.2.any (fun q => meetB q p) || waitsB x p then (a.1, a.2 ++ [p]) else (a.1 ++ [p], a.2)
def rdy (x : G) (l : List Pt) : List Pt × List Pt := l.foldl (rdyStep x) ([], [])
def openL (x : G) (s : Int) : List Pt := x.l.filter (openQ s)
def readyG (x : G) (s : Int) : List Int := (rdy x (openL x s)).1.map (·.id)
theorem rdy_on {x : G} {l : List Pt} {k : Nat} {p : Pt} (h : l[k]? = some p) : rdy x (l.take (k + 1)) = rdyStep x (rdy x (l.take k)) p := by
  unfold rdy
  rw [List.take_add_one, h, List.foldl_append]
  rfl
theorem rdy_mem {x : G} : ∀ (l : List Pt) (a : List Pt × List Pt) (P : Pt → Prop), (∀ p ∈ a.1, P p) → (∀ p ∈ a.2, P p) → (∀ p ∈ l, P p) → (∀ p ∈ (l.foldl (rdyStep x) a).1, P p) ∧ (∀ p ∈ (l.foldl (rdyStep x) a).2, P p) := by
  intro l
  induction l with
  | nil => intro a P h1 h2 _; exact ⟨h1, h2⟩
  | cons p l ih =>
    intro a P h1 h2 h3
    rw [List.foldl_cons]
    apply ih
    · unfold rdyStep
      split
      · exact h1
      · intro q hq
        rcases List.mem_append.1 hq with hq | hq
        · exact h1 q hq
        · rw [List.mem_singleton.1 hq]; exact h3 p (by simp)
    · unfold rdyStep
      split
      · intro q hq
        rcases List.mem_append.1 hq with hq | hq
        · exact h2 q hq
        · rw [List.mem_singleton.1 hq]; exact h3 p (by simp)
      · exact h2
    · intro q hq; exact h3 q (List.mem_cons_of_mem _ hq)
theorem rdy_len {x : G} : ∀ (l : List Pt) (a : List Pt × List Pt), (l.foldl (rdyStep x) a).1.length + (l.foldl (rdyStep x) a).2.length = a.1.length + a.2.length + l.length := by
  intro l
  induction l with
  | nil => intro a; simp
  | cons p l ih =>
    intro a
    rw [List.foldl_cons, ih]
    unfold rdyStep
    split
    · simp; omega
    · simp; omega

/-- What Ready asks of those that were not ready. -/
def metK (x : G) (p : Pt) (k : Int) : Bool := match x.find k with | some q => meetB q p | none => false
theorem met_any {x : G} (hx : x.l.Pairwise (fun p q => p.id < q.id)) {p : Pt} (no : List Pt) (h : ∀ q ∈ no, q ∈ x.l) : (no.map (·.id)).any (metK x p) = no.any fun q => meetB q p := by
  induction no with
  | nil => rfl
  | cons q no ih =>
    rw [List.map_cons, List.any_cons, List.any_cons, ih fun q hq => h q (List.mem_cons_of_mem _ hq)]
    congr 1
    unfold metK
    rw [find_id hx (h q (by simp))]

theorem kept_apart {v u : Value} (h : ∀ j, v.ownBlock = some j → u.ownBlock = some j → False) : v.ownBlock = none ∨ v.ownBlock ≠ u.ownBlock := by
  cases hv : v.ownBlock with
  | none => exact .inl rfl
  | some j => exact .inr fun e => h j hv e.symm
theorem ids_openL (x : G) (s : Int) : idsOf x (openQ s) = (openL x s).map (·.id) := rfl
/-- What a graph's patches are fit for. -/
def Pt.fit (p : Pt) : Prop := p.small ∧ (0 ≤ p.id ∧ p.id ≤ 1000000) ∧ ∀ id ∈ p.needs, (key id).wf = true

set_option maxHeartbeats 2000000 in
theorem ready_any (g mb n : Nat) (x : G) (s : Int) (w : World) (hG : Gr w g mb n x) (hx : x.l.Pairwise (fun p q => p.id < q.id)) (hlen : x.l.length ≤ 100000) (hfit : ∀ p ∈ x.l, p.fit) :
    Calls Try.prog 17 #[.pointer (some ⟨g, 0, none⟩), .int .i64 s] w fun e w' => ∃ r, e = .returned r ∧ Built w.heap.size w' r (readyG x s) ∧ Below w.heap.size w w' := by
  obtain ⟨i0, hi0, hz0, hz1, hz2⟩ := info_parts info3
  have hm := hmf
  have HG := Lib.hid hG
  have HX := Lib.hid hx
  have HFit := Lib.hid hfit
  have ha : Below w.heap.size w (w.alloc (.cells #[.pointer (some ⟨g, 0, none⟩)] 24)) := (Below.refl _ _).alloc (Nat.le_refl _) _
  have HBX := Lib.hid (Blk.new w 24 #[.pointer (some ⟨g, 0, none⟩)])
  have HO := Lib.hid (open_any g mb n x s (w.alloc (.cells #[.pointer (some ⟨g, 0, none⟩)] 24)) (hG.alloc _) hx hlen)
  have hPl : (openL x s).length ≤ 100000 := by
    have := List.length_filter_le (openQ s) x.l
    unfold openL
    omega
  have HP := Lib.hid fun (p : Pt) (h : p ∈ openL x s) => (List.mem_filter.1 h).1
  have HF := Lib.hid (show readyG x s = (rdy x (openL x s)).1.map (·.id) from rfl)
  rw [ids_openL] at HO
  clear hG hx hfit
  generalize openL x s = P at *
  go_enter Try.func17, Try.ntmps17
  go_wp2_with fail
  refine HO.out.mono ?_
  rintro e w1 ⟨r, rfl, hr, hb⟩
  have hb1 : Below w.heap.size w w1 := ha.trans (hb.mono (by simp))
  have HB1 := Lib.hid hb1
  have hbx1 := HBX.out.below hb (by simp)
  have HX1 := Lib.hid hbx1
  have hat := hr.arr
  obtain ⟨A, c, rfl, h1, h2⟩ := hr.arr.len
  have HA := Lib.hid (show ∀ (k : Nat) (p : Pt), P[k]? = some p → ∃ gb o cs, A = some ⟨gb, o, none⟩ ∧ Blk w1 gb 3 cs ∧ cs[o + k]? = some (.int .i64 p.id) from fun k y hy => by
    have hy2 : (ints (P.map (·.id)))[k]? = some (.int .i64 y.id) := ints_at (by simp [hy])
    rcases hat with ⟨_, e⟩ | ⟨gb, o, c', cs, e1, _, _, hbk, hc⟩
    · rw [e] at hy2; cases hy2
    · injection e1 with e1
      exact ⟨gb, o, cs, e1, hbk, hc k _ hy2⟩)
  rw [ints_len, List.length_map] at h1 ⊢
  unfold maxLen at h2
  have hs1 : w.heap.size < w1.heap.size := hbx1.lt
  have cb := hbx1.cell 0
  simp at cb
  clear hr hb hb1 hbx1 hat ha HO HBX
  go_wp2_with fail
  go_loopw [5, 6, 15] (fun v u i wr => ∃ k : Nat, k ≤ P.length ∧ i = .int .i64 k ∧ Below w1.heap.size w1 wr ∧ Built w1.heap.size wr v ((rdy x (P.take k)).1.map (·.id)) ∧ Built w1.heap.size wr u ((rdy x (P.take k)).2.map (·.id)) ∧ ∀ j, v.ownBlock = some j → u.ownBlock = some j → False) (fun _ _ i _ => P.length - (intOf i).toNat)
  case atStart => exact ⟨0, Nat.zero_le _, rfl, Below.refl _ _, World.ownsRow_nil _ _ _ _, World.ownsRow_nil _ _ _ _, fun j e => (by cases e)⟩
  case round =>
    obtain ⟨k, hk, rfl, hbel, hv, hu, hap⟩ := hrel
    have HAp := Lib.hid hap
    have HV := Lib.hid hv
    have HU := Lib.hid hu
    have HB := Lib.hid hbel
    have hsz := hbel.size
    by_cases hlt : k < P.length
    · obtain ⟨p, hp⟩ : ∃ p, P[k]? = some p := ⟨_, List.getElem?_eq_getElem hlt⟩
      obtain ⟨gb, o, cs, rfl, hbk, hcs⟩ := HA.out k p hp
      have hc1 : wr.cell? ⟨gb, o + k, none⟩ = some (.int .i64 p.id) := ((hbk.below hbel hbk.lt).cell (o + k)).trans hcs
      have hpx := HP.out p (List.mem_of_getElem? hp)
      obtain ⟨sp, hid, hnd⟩ := HFit.out p hpx
      have hkw : (key p.id).wf = true := key_wf (by omega) (by omega)
      have hGr := (HG.out.below HB1.out).below hbel
      have hcg := hGr.c1
      have hcb : wr.cell? ⟨w.heap.size, 0, none⟩ = some (.pointer (some ⟨g, 0, none⟩)) := (hbel.cell (p := ⟨w.heap.size, 0, none⟩) hs1).trans cb
      rcases hGr.look hkw with ⟨p', A1, k1, A2, k2, hf', hpv, hl⟩ | ⟨hf', hl⟩
      case inr => rw [find_id HX.out hpx] at hf'; cases hf'
      rw [find_id HX.out hpx] at hf'
      obtain rfl : p = p' := Option.some.inj hf'
      have hl1 := (hl wr (Below.refl _ _)).1
      have HON := Lib.hid (rdy_on (x := x) hp)
      have hlens := rdy_len (x := x) (P.take k) ([], [])
      have hmem := rdy_mem (x := x) (P.take k) ([], []) (· ∈ x.l) (fun q hq => by cases hq) (fun q hq => by cases hq) (fun q hq => HP.out q (List.mem_of_mem_take hq))
      have HMet := Lib.hid (met_any HX.out (rdy x (P.take k)).2 hmem.2 (p := p))
      have HT := Lib.hid fun (W : World) (hW : Below wr.heap.size wr W) (h9 : Blk W wr.heap.size 30 (p.cells (.slice A1 (bytes p.data).length k1) (.slice A2 (ints p.needs).length k2))) =>
        show Tells 55 #[.pointer (some ⟨w.heap.size, 0, none⟩), .pointer (some ⟨wr.heap.size, 0, none⟩)] (· ∈ (rdy x (P.take k)).2.map (·.id)) (metK x p) W from fun W2 y hy hW2 => by
          obtain ⟨q, hq, rfl⟩ := List.mem_map.1 hy
          have hqx := hmem.2 q hq
          obtain ⟨sq, hidq, _⟩ := HFit.out q hqx
          have := ready_one w.heap.size wr.heap.size g mb n x q.id q p _ _ _ _ W2 ((hW2.cell (p := ⟨w.heap.size, 0, none⟩) (by have := hW.size; simp; omega)).trans ((hW.cell (p := ⟨w.heap.size, 0, none⟩) (by simp; omega)).trans hcb)) (h9.below hW2 h9.lt) ((hpv.below hW).below hW2) ((hGr.below hW).below hW2) (key_wf (by omega) (by omega)) (find_id HX.out hqx) sq sp
          unfold metK
          rw [find_id HX.out hqx]
          exact this
      have HW := Lib.hid fun (W : World) (hW : Below wr.heap.size wr W) => waits_any g mb n x _ p W (hGr.below hW) (hpv.below hW) hnd
      have HPV := Lib.hid hpv
      have hl5 : (rdy x (P.take k)).1.length ≤ 100000 ∧ (rdy x (P.take k)).2.length ≤ 100000 := by
        unfold rdy at *
        simp at hlens
        omega
      clear hbel hv hu hap hp hbk hcs hGr hl hpv hmem hf' hlens
      unfold Pt.val at *
      unfold Pt.cells at HT
      go_wp2_with fail
      refine (containsFunc_any _ _ 55 _ (metK x p) _ ((HU.out.arr).alloc _) enters55 (HT.out _ ((Below.refl _ _).alloc (Nat.le_refl _) _) (Blk.new _ _ _))).mono ?_
      rintro e w2 ⟨rfl, hb2⟩
      rw [HMet.out]
      have h9 := (Blk.new wr 30 #[.int .i64 p.id, .int .i64 p.sec, .int .i64 p.off, .slice A1 (bytes p.data).length k1, .int .i64 p.kind, .slice A2 (ints p.needs).length k2, .int .i64 p.owner, .int .i64 p.child, .bool p.written]).below hb2 (by simp)
      have hbk : Below wr.heap.size wr w2 := ((Below.refl wr.heap.size wr).alloc (Nat.le_refl _) _).trans (hb2.mono (by simp))
      have hcb2 : w2.cell? ⟨w.heap.size, 0, none⟩ = some (.pointer (some ⟨g, 0, none⟩)) := (hbk.cell (p := ⟨w.heap.size, 0, none⟩) (by simp; omega)).trans hcb
      have HB2 := Lib.hid hbk
      have HVk := Lib.hid (HV.out.below hbk)
      have HUk := Lib.hid (HU.out.below hbk)
      have HBk := Lib.hid (HB.out.trans (hbk.mono hsz))
      have hsk := hbk.size
      cases hh : (rdy x (P.take k)).2.any (fun q => meetB q p) with
      | true =>
        have HH := Lib.hid (show ((rdy x (P.take k)).2.any (fun q => meetB q p) || waitsB x p) = true by rw [hh]; rfl)
        clear hh h9 hb2 hbk hcb2
        go_wp2_with (at_builtin; refine wpList_append_own_at _ rfl (.tmp 34) (.tmp 36) 28 rfl w1.heap.size 3 i0 (.int .i64 0) 1 8 Try.underlying28 hi0 hz0 hz1 hz2 rfl (by decide) _ _ _ rfl (World.ownsRow.alloc HUk.out _) ⟨w2.heap.size, 0, none⟩ 1 1 [.int .i64 p.id] rfl rfl ?c1 ?c2 ?c3 ?c4 ?c5 ?_)
        case c1 => exact one_new _ _ _
        case c2 => simp [Value.oneCell']
        case c3 => simp only [maxLen, List.length_map]; omega
        case c4 => simp only [List.length_map]; omega
        case c5 => simp; omega
        intro v' w5 hown5 hg5 _ hat5
        have hr5 : rdy x (P.take (k + 1)) = ((rdy x (P.take k)).1, (rdy x (P.take k)).2 ++ [p]) := by
          rw [HON.out]
          unfold rdyStep
          rw [HH.out]
          rfl
        have HN5 := Lib.hid (show Built w1.heap.size w5 v' ((rdy x (P.take (k + 1))).2.map (·.id)) from by
          rw [hr5]
          simpa [Built, ints] using hown5)
        have HM5 := Lib.hid (show Built w1.heap.size w5 _ ((rdy x (P.take (k + 1))).1.map (·.id)) from by
          rw [hr5]
          exact World.ownsRow.kept (World.ownsRow.alloc HVk.out _) hg5 (kept_apart HAp.out))
        have HA5 := Lib.hid (show ∀ j, Value.ownBlock _ = some j → Value.ownBlock v' = some j → False from fun j e1 e2 => by
          rcases hat5 with h | h
          · exact HAp.out j e1 (h ▸ e2)
          · rw [h] at e2; injection e2 with e2; have := (HVk.out.own j e1).2; omega)
        have HB5 := Lib.hid ((HBk.out.alloc HBk.out.size _).grown hg5 (by simp; omega) (fun j hj => (HUk.out.own j hj).1))
        clear hown5 hg5 hr5 hat5
        go_wp2
        go_roundw
        case rel => exact ⟨k + 1, by omega, by go_num, HB5.out, HM5.out, HN5.out, HA5.out⟩
        case measure => simp [intOf]; omega
      | false =>
        have d := h9.cell
        have d0 := d 0
        have d1 := d 1
        have d2 := d 2
        have d3 := d 3
        have d4 := d 4
        have d5 := d 5
        have d6 := d 6
        have d7 := d 7
        have d8 := d 8
        simp at d0 d1 d2 d3 d4 d5 d6 d7 d8
        have HHd := Lib.hid hh
        clear hh h9 hb2 hbk d HVk HUk HBk hsk
        go_wp2_with fail
        refine (HW.out w2 HB2.out).mono ?_
        rintro e w3 ⟨rfl, hb3⟩
        have hbk : Below wr.heap.size wr w3 := HB2.out.trans (hb3.mono HB2.out.size)
        have HB3 := Lib.hid hbk
        have HVk := Lib.hid (HV.out.below hbk)
        have HUk := Lib.hid (HU.out.below hbk)
        have HBk := Lib.hid (HB.out.trans (hbk.mono hsz))
        have hsk := hbk.size
        cases hw : waitsB x p with
        | true =>
          have HH := Lib.hid (show ((rdy x (P.take k)).2.any (fun q => meetB q p) || waitsB x p) = true by rw [HHd.out, hw]; rfl)
          clear hw hb3 hbk d0 d1 d2 d3 d4 d5 d6 d7 d8 hcb2
          go_wp2_with (at_builtin; refine wpList_append_own_at _ rfl (.tmp 34) (.tmp 36) 28 rfl w1.heap.size 3 i0 (.int .i64 0) 1 8 Try.underlying28 hi0 hz0 hz1 hz2 rfl (by decide) _ _ _ rfl (World.ownsRow.alloc HUk.out _) ⟨w3.heap.size, 0, none⟩ 1 1 [.int .i64 p.id] rfl rfl ?c1 ?c2 ?c3 ?c4 ?c5 ?_)
          case c1 => exact one_new _ _ _
          case c2 => simp [Value.oneCell']
          case c3 => simp only [maxLen, List.length_map]; omega
          case c4 => simp only [List.length_map]; omega
          case c5 => simp; omega
          intro v' w5 hown5 hg5 _ hat5
          have hr5 : rdy x (P.take (k + 1)) = ((rdy x (P.take k)).1, (rdy x (P.take k)).2 ++ [p]) := by
            rw [HON.out]
            unfold rdyStep
            rw [HH.out]
            rfl
          have HN5 := Lib.hid (show Built w1.heap.size w5 v' ((rdy x (P.take (k + 1))).2.map (·.id)) from by
            rw [hr5]
            simpa [Built, ints] using hown5)
          have HM5 := Lib.hid (show Built w1.heap.size w5 _ ((rdy x (P.take (k + 1))).1.map (·.id)) from by
            rw [hr5]
            exact World.ownsRow.kept (World.ownsRow.alloc HVk.out _) hg5 (kept_apart HAp.out))
          have HA5 := Lib.hid (show ∀ j, Value.ownBlock _ = some j → Value.ownBlock v' = some j → False from fun j e1 e2 => by
            rcases hat5 with h | h
            · exact HAp.out j e1 (h ▸ e2)
            · rw [h] at e2; injection e2 with e2; have := (HVk.out.own j e1).2; omega)
          have HB5 := Lib.hid ((HBk.out.alloc HBk.out.size _).grown hg5 (by simp; omega) (fun j hj => (HUk.out.own j hj).1))
          clear hown5 hg5 hr5 hat5
          go_wp2
          go_roundw
          case rel => exact ⟨k + 1, by omega, by go_num, HB5.out, HM5.out, HN5.out, HA5.out⟩
          case measure => simp [intOf]; omega
        | false =>
          have HH := Lib.hid (show ((rdy x (P.take k)).2.any (fun q => meetB q p) || waitsB x p) = false by rw [HHd.out, hw]; rfl)
          clear hw hb3 hbk d0 d1 d2 d3 d4 d5 d6 d7 d8 hcb2
          go_wp2_with (at_builtin; refine wpList_append_own_at _ rfl (.tmp 38) (.tmp 40) 28 rfl w1.heap.size 3 i0 (.int .i64 0) 1 8 Try.underlying28 hi0 hz0 hz1 hz2 rfl (by decide) _ _ _ rfl (World.ownsRow.alloc HVk.out _) ⟨w3.heap.size, 0, none⟩ 1 1 [.int .i64 p.id] rfl rfl ?c1 ?c2 ?c3 ?c4 ?c5 ?_)
          case c1 => exact one_new _ _ _
          case c2 => simp [Value.oneCell']
          case c3 => simp only [maxLen, List.length_map]; omega
          case c4 => simp only [List.length_map]; omega
          case c5 => simp; omega
          intro v' w5 hown5 hg5 _ hat5
          have hr5 : rdy x (P.take (k + 1)) = ((rdy x (P.take k)).1 ++ [p], (rdy x (P.take k)).2) := by
            rw [HON.out]
            unfold rdyStep
            rw [HH.out]
            rfl
          have HN5 := Lib.hid (show Built w1.heap.size w5 v' ((rdy x (P.take (k + 1))).1.map (·.id)) from by
            rw [hr5]
            simpa [Built, ints] using hown5)
          have HM5 := Lib.hid (show Built w1.heap.size w5 _ ((rdy x (P.take (k + 1))).2.map (·.id)) from by
            rw [hr5]
            exact World.ownsRow.kept (World.ownsRow.alloc HUk.out _) hg5 (kept_apart fun j e1 e2 => HAp.out j e2 e1))
          have HA5 := Lib.hid (show ∀ j, Value.ownBlock v' = some j → Value.ownBlock _ = some j → False from fun j e1 e2 => by
            rcases hat5 with h | h
            · exact HAp.out j (h ▸ e1) e2
            · rw [h] at e1; injection e1 with e1; have := (HUk.out.own j e2).2; omega)
          have HB5 := Lib.hid ((HBk.out.alloc HBk.out.size _).grown hg5 (by simp; omega) (fun j hj => (HVk.out.own j hj).1))
          clear hown5 hg5 hr5 hat5
          go_wp2
          go_roundw
          case rel => exact ⟨k + 1, by omega, by go_num, HB5.out, HN5.out, HM5.out, HA5.out⟩
          case measure => simp [intOf]; omega
    · have HE := Lib.hid (show Built w.heap.size wr _ (readyG x s) from by
        obtain rfl : k = P.length := by omega
        rw [HF.out]
        have h := HV.out
        rw [List.take_length] at h
        exact h.mono (Nat.le_of_lt hs1))
      have HE2 := Lib.hid (HB1.out.trans (hbel.mono (Nat.le_of_lt hs1)))
      clear hbel hv hu hap
      go_wp2
      go_ret
      exact ⟨_, rfl, HE.out, HE2.out⟩
end Go.Proofs.Ytmkfaibjjbgbbaa
