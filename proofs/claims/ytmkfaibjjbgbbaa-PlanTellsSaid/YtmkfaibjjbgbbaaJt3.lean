/- Ready of package scupperref14. Of of package scupperref14 and of package graph; Get of package scupperref14. Settle, SettleAll of package scupperref14; a patch is the same as itself. -/
import Derived.Test.YtmkfaibjjbgbbaaJt1
import Derived.Test.YtmkfaibjjbgbbaaAllLaw
import Derived.Test.YtmkfaibjjbgbbaaRown
import Derived.Test.YtmkfaibjjbgbbaaGet
import Derived.Laws.BytesArg
namespace Go.Proofs.Ytmkfaibjjbgbbaa
open Go.RowKit
set_option linter.unusedVariables false
attribute [local go_sem ↓] Go.wp_at_zero Go.wp_at_succ

def rdyQ (x : G) (s : Int) (p : Pt) : Bool := decide (p.sec = s) && (readyG x p.sec).contains p.id
theorem ready_pick {x : G} (hx : Rise x.l) (s : Int) : idsOf x (rdyQ x s) = readyG x s := by
  have hO : Rise (openL x s) := hx.filter _
  obtain ⟨s1, s2, s3, s4⟩ := rdy_spec x _ hO
  unfold idsOf readyG
  congr 1
  refine List.Sublist.eq_of_length_le (rise_sub _ _ (hO.sublist s1) (hx.filter _) fun p hp => ?_) (rise_sub _ _ (hx.filter _) (hO.sublist s1) fun p hp => ?_).length_le
  · obtain ⟨hpx, hq⟩ := List.mem_filter.1 hp
    unfold rdyQ at hq
    rw [Bool.and_eq_true] at hq
    have hs : p.sec = s := by simpa using hq.1
    have hc := hq.2
    rw [List.contains_iff_mem, hs] at hc
    unfold readyG at hc
    obtain ⟨r, hr, e⟩ := List.mem_map.1 hc
    have hrx := (List.mem_filter.1 (s1.subset hr)).1
    rw [← id_inj hx hrx hpx e]
    exact hr
  · obtain ⟨hpx, hq⟩ := List.mem_filter.1 (s1.subset hp)
    have hq' : p.sec = s ∧ p.written = false := by simpa [openQ] using hq
    refine List.mem_filter.2 ⟨hpx, ?_⟩
    unfold rdyQ
    rw [hq'.1, Bool.and_eq_true]
    refine ⟨by simp, ?_⟩
    rw [List.contains_iff_mem]
    exact List.mem_map.2 ⟨p, hp, rfl⟩

set_option maxHeartbeats 2000000 in
theorem rready_any (b : Nat) (x : G) (s : Int) (w : World) (h : RG w b x) (hF : Fine x) :
    Calls Try.prog 63 #[.pointer (some ⟨b, 0, none⟩), .int .i64 s] w fun e w' => ∃ r, e = .returned r ∧ Built w.heap.size w' r (readyG x s) ∧ Below w.heap.size w w' := by
  have HG := Lib.hid h
  have hxl := hF.len
  have HR := Lib.hid (readies_any b x (w.alloc (.cells #[] 3)) (h.below ((Below.refl _ _).alloc (Nat.le_refl _) _)) (fun p hp => ⟨(hF.all p hp).1.1, (hF.all p hp).2.2.2⟩) hxl)
  obtain ⟨v, hb, hl⟩ := h
  obtain ⟨A, c, rfl, hc1, hc2⟩ := hl.len
  have HL := Lib.hid hl
  have HRise := Lib.hid hF.rise
  have hbc := hb.cell 1
  simp at hbc
  unfold maxLen at hc2
  have hbl : b < w.heap.size := hb.lt
  clear hb hl hF
  go_enter Try.func63, Try.ntmps63
  go_wp2_with fail
  refine HR.out.mono ?_
  rintro e w1 ⟨o1, rfl, ho1, hb1⟩
  have HO1 := Lib.hid ho1
  have HB1 := Lib.hid (show Below w.heap.size w w1 from ((Below.refl w.heap.size w).alloc (Nat.le_refl _) (.cells #[] 3)).trans (hb1.mono (by simp)))
  have HN1 := Lib.hid (show Built w.heap.size w1 (.slice (some ⟨w.heap.size, 0, none⟩) 0 0) [] from Built.below (World.ownsRow_made w #[] 0 (Nat.le_refl _) (Nat.zero_le _) rfl) hb1)
  have ho1l : w.heap.size + 1 ≤ o1 ∧ o1 < w1.heap.size := by
    have := World.ownsRow.lt ho1 o1 rfl
    simpa using this
  obtain ⟨ho1a, ho1b⟩ := ho1l
  clear ho1 hb1 HR
  go_wp2_with fail
  go_loopw [5, 7] (fun v i wr => ∃ k : Nat, k ≤ x.l.length ∧ i = .int .i64 k ∧ Built w.heap.size wr v (pick x.l (rdyQ x s) k) ∧ Below w.heap.size w wr ∧ Turn (fun j => j = w.heap.size) w1 wr ∧ Hid (∀ j, v.ownBlock = some j → j = w.heap.size ∨ w1.heap.size ≤ j)) (fun _ i _ => x.l.length - (intOf i).toNat)
  case atStart => exact ⟨0, Nat.zero_le _, rfl, HN1.out, HB1.out, Turn.refl _ _, fun j e => .inl (Option.some.inj e).symm⟩
  case round =>
    obtain ⟨k, hk, rfl, hO, hbel, hT, hOw⟩ := hrel
    have HO := Lib.hid hO
    have HB := Lib.hid hbel
    have HT := Lib.hid hT
    have hsz := hbel.size
    have hszT := hT.size
    have hbcw : wr.cell? ⟨b, 1, none⟩ = some (.slice A x.l.length c) := (hbel.cell (p := ⟨b, 1, none⟩) hbl).trans hbc
    by_cases hlt : k < x.l.length
    · obtain ⟨p, hp⟩ : ∃ p, x.l[k]? = some p := ⟨_, List.getElem?_eq_getElem hlt⟩
      obtain ⟨g, c', A1, k1, A2, k2, e, hpc, hpv, hgp⟩ := HL.out.at hp
      injection e with e1 e2 e3
      subst e1 e3
      clear e2
      have y0 : wr.cell? ⟨g, k * 9, none⟩ = some (.int .i64 p.id) := (hbel.cell (p := ⟨g, k * 9, none⟩) hgp).trans (hpc 0 _ rfl)
      have y1 : wr.cell? ⟨g, k * 9 + 1, none⟩ = some (.int .i64 p.sec) := (hbel.cell (p := ⟨g, k * 9 + 1, none⟩) hgp).trans (hpc 1 _ rfl)
      have hoc : wr.cell? ⟨o1, k, none⟩ = some (.bool ((readyG x p.sec).contains p.id)) := by
        have h1 : w1.cell? ⟨o1, k, none⟩ = some (.bool ((readyG x p.sec).contains p.id)) := (World.ownsRow.cellAt HO1.out k (by omega)).trans (by rw [List.getElem?_map, ready_ref HRise.out hp]; rfl)
        exact (World.cell?_of_block (a := ⟨o1, k, none⟩) (hT.block o1 ho1b (by omega))).trans h1
      have hpl := pick_len x.l (rdyQ x s) k
      have hk0 : (0 : Int) ≤ (k : Int) := by omega
      have hk1 : (k : Int) < (x.l.length : Int) := by omega
      by_cases hs : p.sec = s
      · have ht : (p.sec == s) = true := by simp [hs]
        cases hr : (readyG x p.sec).contains p.id with
        | true =>
          have HPk := Lib.hid (pick_on (q := rdyQ x s) hp (by unfold rdyQ; rw [hr]; simp [hs]))
          rw [hr] at hoc
          clear hO hbel hpc hpv hp hT hs hr
          go_wp2_with (at_builtin; refine wpList_append_int rfl (.tmp 36) (.tmp 45) rfl w.heap.size _ _ rfl (World.ownsRow.alloc HO.out _) p.id wr.heap.size 1 rfl ?c1 ?c2 ?c3 ?_)
          case c1 => exact (Blk.new wr 3 #[.int .i64 p.id]).cell 0
          case c2 => omega
          case c3 => simp; omega
          intro v' w5 hown5 hg5 hv5
          rw [← HPk.out] at hown5
          have HO5 := Lib.hid hown5
          have HB5 := Lib.hid ((HB.out.alloc HB.out.size (.cells #[.int .i64 p.id] 3)).grown hg5 (by have := HB.out.size; simp; omega) (fun j hj => (World.ownsRow.lt HO.out j hj).1))
          have HT5 := Lib.hid ((HT.out.alloc (.cells #[.int .i64 p.id] 3)).grown hg5 (fun j hj hl => (hOw.out j hj).resolve_right (by omega)))
          have HV5 := Lib.hid (show ∀ j, v'.ownBlock = some j → j = w.heap.size ∨ w1.heap.size ≤ j from fun j hj => by
            rcases hv5 with e | e
            · exact hOw.out j (by rw [← e]; exact hj)
            · rw [e] at hj
              have h7 := Option.some.inj hj
              have h8 : (wr.alloc (.cells #[.int .i64 p.id] 3)).heap.size = wr.heap.size + 1 := by simp
              right; omega)
          clear hown5 hg5 hv5
          go_wp2
          go_roundw
          case rel => exact ⟨k + 1, by omega, by go_num, HO5.out, HB5.out, HT5.out, HV5⟩
          case measure => simp [intOf]; omega
        | false =>
          have HPk := Lib.hid (pick_off (q := rdyQ x s) hp (by unfold rdyQ; rw [hr]; simp))
          rw [hr] at hoc
          rw [← HPk.out] at HO
          clear hO hbel hpc hpv hp hT hs hr
          go_wp2
          go_roundw
          case rel => exact ⟨k + 1, by omega, by go_num, HO.out, HB.out, HT.out, hOw⟩
          case measure => simp [intOf]; omega
      · have ht : (p.sec == s) = false := by simp [hs]
        have HPk := Lib.hid (pick_off (q := rdyQ x s) hp (by unfold rdyQ; simp [hs]))
        rw [← HPk.out] at HO
        clear hO hbel hpc hpv hp hT hs
        go_wp2
        go_roundw
        case rel => exact ⟨k + 1, by omega, by go_num, HO.out, HB.out, HT.out, hOw⟩
        case measure => simp [intOf]; omega
    · obtain rfl : k = x.l.length := by omega
      rw [pick_all, ready_pick HRise.out] at HO
      clear hO hbel hT
      go_wp2
      go_ret
      exact ⟨_, rfl, HO.out, HB.out⟩
end Go.Proofs.Ytmkfaibjjbgbbaa
namespace Go.Proofs.Ytmkfaibjjbgbbaa
open Go.RowKit
set_option linter.unusedVariables false
attribute [local go_sem ↓] Go.wp_at_zero Go.wp_at_succ

/-- What a list of patches of the call's own is made of. -/
def Own30 (B : Nat) (w : World) (v : Value) (L : List (Value × Value × Pt)) : Prop := w.ownsRow B 30 9 v L.length (ptCells L) ∧ ∀ e ∈ L, Arr w 5 e.1 (bytes e.2.2.data) ∧ Arr w 3 e.2.1 (ints e.2.2.needs)
theorem Own30.list {B : Nat} {w : World} {v : Value} {L : List (Value × Value × Pt)} (h : Own30 B w v L) : RL w v (L.map (·.2.2)) := RL.of_own h.1 rfl h.2
theorem Own30.below {B : Nat} {w w' : World} {v : Value} {L : List (Value × Value × Pt)} (h : Own30 B w v L) (hb : Below w.heap.size w w') : Own30 B w' v L :=
  ⟨owns_keep h.1 fun g hg => hb.block g (World.ownsRow.lt h.1 g hg).2, fun e he => ⟨(h.2 e he).1.below hb, (h.2 e he).2.below hb⟩⟩
theorem own_type30 {B n : Nat} {w : World} {v : Value} {xs : List Value} (h : w.ownsRow B 30 9 v n xs) : ∀ j, v.ownBlock = some j → ∃ cs, Blk w j 30 cs := by
  intro j hj
  rcases h.2 with ⟨hv, h0⟩ | ⟨g, cap, cur, hv, hb, hg, _⟩
  · rw [hv] at hj; cases hj
  · rw [hv] at hj
    obtain rfl : g = j := Option.some.inj hj
    exact ⟨cur, hg⟩
/-- What the row's block turns leaves the patches' slices as they were. -/
theorem Own30.grown {B : Nat} {w w' : World} {v v' : Value} {L : List (Value × Value × Pt)} {e : Value × Value × Pt} (h : Own30 B w v L) (hg : w.grownBy w' v.ownBlock) (he : Arr w 5 e.1 (bytes e.2.2.data) ∧ Arr w 3 e.2.1 (ints e.2.2.needs))
    (ho : w'.ownsRow B 30 9 v' (L ++ [e]).length (ptCells (L ++ [e]))) : Own30 B w' v' (L ++ [e]) := by
  refine ⟨ho, fun q hq => ?_⟩
  have mv : ∀ g t cs, t ≠ 30 → Blk w g t cs → Blk w' g t cs := fun g t cs ht k => k.grown hg fun e => by
    obtain ⟨cs', h'⟩ := own_type30 h.1 g e.symm
    exact k.ne_ h' ht rfl
  have key : Arr w 5 q.1 (bytes q.2.2.data) ∧ Arr w 3 q.2.1 (ints q.2.2.needs) := by
    rcases List.mem_append.1 hq with h1 | h1
    · exact h.2 q h1
    · rw [List.mem_singleton.1 h1]; exact he
  exact ⟨key.1.move fun g cs k => mv g 5 cs (by decide) k, key.2.move fun g cs k => mv g 3 cs (by decide) k⟩

set_option maxHeartbeats 4000000 in
set_option maxRecDepth 100000 in
theorem rof_any (b : Nat) (x : G) (s : Int) (w : World) (h : RG w b x) (hF : Fine x) :
    Calls Try.prog 71 #[.pointer (some ⟨b, 0, none⟩), .int .i64 s] w fun e w' => ∃ r, e = .returned r ∧ RL w' r (openL x s) ∧ Below w.heap.size w w' := by
  have HG := Lib.hid h
  have hxl := hF.len
  have HFn := Lib.hid hF
  obtain ⟨v, hb, hl⟩ := h
  obtain ⟨A, c, rfl, hc1, hc2⟩ := hl.len
  have HL := Lib.hid hl
  have hbc := hb.cell 1
  simp at hbc
  unfold maxLen at hc2
  have hbl : b < w.heap.size := hb.lt
  clear hb hl hF
  go_enter Try.func71, Try.ntmps71
  go_wp2_with fail
  go_loopw [5, 6] (fun v i wr => ∃ (k : Nat) (L : List (Value × Value × Pt)), k ≤ x.l.length ∧ i = .int .i64 k ∧ Hid (L.map (·.2.2) = (x.l.take k).filter (openQ s)) ∧ Own30 w.heap.size wr v L ∧ Below w.heap.size w wr) (fun _ i _ => x.l.length - (intOf i).toNat)
  case atStart => exact ⟨0, [], Nat.zero_le _, rfl, by unfold Hid; simp, ⟨World.ownsRow_made w #[] 0 (Nat.le_refl _) (Nat.zero_le _) rfl, fun e he => by cases he⟩, (Below.refl _ _).alloc (Nat.le_refl _) _⟩
  case round =>
    obtain ⟨k, L, hk, rfl, hL, hO, hbel⟩ := hrel
    have HO := Lib.hid hO
    have HB := Lib.hid hbel
    have hsz := hbel.size
    have hLl : L.length ≤ x.l.length := by
      have h1 := congrArg List.length hL.out
      rw [List.length_map] at h1
      rw [h1]
      exact Nat.le_trans (List.length_filter_le _ _) (by rw [List.length_take]; exact Nat.min_le_right _ _)
    have hbcw : wr.cell? ⟨b, 1, none⟩ = some (.slice A x.l.length c) := (hbel.cell (p := ⟨b, 1, none⟩) hbl).trans hbc
    by_cases hlt : k < x.l.length
    · obtain ⟨p, hp⟩ : ∃ p, x.l[k]? = some p := ⟨_, List.getElem?_eq_getElem hlt⟩
      obtain ⟨g, c', A1, k1, A2, k2, e, hpc, hpv, hgp⟩ := HL.out.at hp
      injection e with e1 e2 e3
      subst e1 e3
      clear e2
      have mv : ∀ (j : Nat) (u : Value), (p.cells (.slice A1 (bytes p.data).length k1) (.slice A2 (ints p.needs).length k2))[j]? = some u → wr.cell? ⟨g, k * 9 + j, none⟩ = some u := fun j u hu => (hbel.cell (p := ⟨g, k * 9 + j, none⟩) hgp).trans (hpc j u hu)
      have y0 : wr.cell? ⟨g, k * 9, none⟩ = some (.int .i64 p.id) := mv 0 _ rfl
      have y1 : wr.cell? ⟨g, k * 9 + 1, none⟩ = some (.int .i64 p.sec) := mv 1 _ rfl
      have y2 : wr.cell? ⟨g, k * 9 + 2, none⟩ = some (.int .i64 p.off) := mv 2 _ rfl
      have y3 : wr.cell? ⟨g, k * 9 + 3, none⟩ = some (.slice A1 (bytes p.data).length k1) := mv 3 _ rfl
      have y4 : wr.cell? ⟨g, k * 9 + 4, none⟩ = some (.int .i64 p.kind) := mv 4 _ rfl
      have y5 : wr.cell? ⟨g, k * 9 + 5, none⟩ = some (.slice A2 (ints p.needs).length k2) := mv 5 _ rfl
      have y6 : wr.cell? ⟨g, k * 9 + 6, none⟩ = some (.int .i64 p.owner) := mv 6 _ rfl
      have y7 : wr.cell? ⟨g, k * 9 + 7, none⟩ = some (.int .i64 p.child) := mv 7 _ rfl
      have y8 : wr.cell? ⟨g, k * 9 + 8, none⟩ = some (.bool p.written) := mv 8 _ rfl
      have hk0 : (0 : Int) ≤ (k : Int) := by omega
      have hk1 : (k : Int) < (x.l.length : Int) := by omega
      have hpx := HFn.out.all p (List.mem_of_getElem? hp)
      have HOwn := Lib.hid (rown_any _ p wr (hpv.below hbel) (by have := hpx.1.1.2.2; omega) (by have := hpx.2.2.2; omega))
      unfold Pt.val at HOwn
      by_cases hs : p.sec = s
      · have ht : (p.sec == s) = true := by simp [hs]
        cases hw : p.written with
        | true =>
          have HLn := Lib.hid (show L.map (·.2.2) = (x.l.take (k + 1)).filter (openQ s) from by rw [keep_off hp (by simp [openQ, hw]), hL.out])
          rw [hw] at y8
          clear hO hbel mv hpc hpv hp hs hw HOwn hpx
          go_wp2
          go_roundw
          case rel => exact ⟨k + 1, L, by omega, by go_num, HLn, HO.out, HB.out⟩
          case measure => simp [intOf]; omega
        | false =>
          have HKp := Lib.hid (show L.map (·.2.2) ++ [p] = (x.l.take (k + 1)).filter (openQ s) from by rw [keep_on hp (by simp [openQ, hw, hs]), hL.out])
          have HPw := Lib.hid hw
          rw [hw] at y8 HOwn
          clear hO hbel mv hpc hpv hp hs hw hpx
          go_wp2_with fail
          refine HOwn.out.mono ?_
          rintro e w4 ⟨r, rfl, hr, hb4⟩
          obtain ⟨vd', vn', rfl, hd', hn'⟩ := hr
          obtain ⟨A3, c3, rfl, -, -⟩ := hd'.len
          obtain ⟨A4, c4, rfl, -, -⟩ := hn'.len
          have hs4 := hb4.size
          have HO4 := Lib.hid (HO.out.below hb4)
          have HB4 := Lib.hid (HB.out.trans (hb4.mono HB.out.size))
          have HD4 := Lib.hid hd'
          have HN4 := Lib.hid hn'
          have HPW := Lib.hid (show Value.bool p.written = .bool false from by rw [HPw.out])
          have HX := Lib.hid (Blk.new w4 30 (p.cells (.slice A3 (bytes p.data).length c3) (.slice A4 (ints p.needs).length c4)))
          clear hb4 hd' hn' HOwn y0 y1 y2 y3 y4 y5 y6 y7 y8 hbcw
          unfold Pt.val
          unfold Pt.cells at HX
          rw [HPW.out] at HX ⊢
          go_wp2_with (at_builtin; refine wpList_append_pt rfl (.tmp 38) (.tmp 47) rfl w.heap.size _ L rfl (World.ownsRow.alloc HO4.out.1 _) p A3 (bytes p.data).length c3 A4 (ints p.needs).length c4 w4.heap.size 1 rfl ?c1 ?c2 ?c3 ?_)
          case c1 => unfold Pt.cells; rw [HPW.out]; exact HX.out
          case c2 => omega
          case c3 => have := HB4.out.size; simp; omega
          intro v' w5 hown5 hg5
          have ha4 := (Below.refl w4.heap.size w4).alloc (Nat.le_refl _) (.cells #[.int .i64 p.id, .int .i64 p.sec, .int .i64 p.off, .slice A3 (bytes p.data).length c3, .int .i64 p.kind, .slice A4 (ints p.needs).length c4, .int .i64 p.owner, .int .i64 p.child, .bool false] 30)
          have HO5 := Lib.hid (Own30.grown (e := (Value.slice A3 (bytes p.data).length c3, Value.slice A4 (ints p.needs).length c4, p)) (HO4.out.below ha4) hg5 ⟨HD4.out.below ha4, HN4.out.below ha4⟩ (by rw [List.length_append]; exact hown5))
          have HB5 := Lib.hid ((HB4.out.alloc HB4.out.size _).grown hg5 (by have := HB4.out.size; simp; omega) (fun j hj => (World.ownsRow.lt HO4.out.1 j hj).1))
          have HLn := Lib.hid (show (L ++ [(Value.slice A3 (bytes p.data).length c3, Value.slice A4 (ints p.needs).length c4, p)]).map (·.2.2) = (x.l.take (k + 1)).filter (openQ s) from by rw [List.map_append]; exact HKp.out)
          clear hown5 hg5 ha4
          go_wp2
          go_roundw
          case rel => exact ⟨k + 1, _, by omega, by go_num, HLn, HO5.out, HB5.out⟩
          case measure => simp [intOf]; omega
      · have ht : (p.sec == s) = false := by simp [hs]
        have HLn := Lib.hid (show L.map (·.2.2) = (x.l.take (k + 1)).filter (openQ s) from by rw [keep_off hp (by simp [openQ, hs]), hL.out])
        clear hO hbel mv hpc hpv hp hs HOwn hpx
        go_wp2
        go_roundw
        case rel => exact ⟨k + 1, L, by omega, by go_num, HLn, HO.out, HB.out⟩
        case measure => simp [intOf]; omega
    · obtain rfl : k = x.l.length := by omega
      have HR := Lib.hid (show RL wr _ (openL x s) from by
        have h1 := hO.list
        rw [hL.out, List.take_length] at h1
        exact h1)
      clear hO hbel
      go_wp2
      go_ret
      exact ⟨_, rfl, HR.out, HB.out⟩

set_option maxHeartbeats 4000000 in
theorem gof_any (g mb n : Nat) (x : G) (s : Int) (w : World) (hG : Gr w g mb n x) (hF : Fine x) :
    Calls Try.prog 27 #[.pointer (some ⟨g, 0, none⟩), .int .i64 s] w fun e w' => ∃ r, e = .returned r ∧ RL w' r (openL x s) ∧ Below w.heap.size w w' := by
  have HG := Lib.hid hG
  have HFn := Lib.hid hF
  have hO := open_any g mb n x s w hG hF.rise (by have := hF.len; omega)
  rw [ids_openL] at hO
  have HO := Lib.hid hO
  have hPl : (openL x s).length ≤ 1000 := by
    have := List.length_filter_le (openQ s) x.l
    have := hF.len
    unfold openL
    omega
  have HP := Lib.hid fun (p : Pt) (h : p ∈ openL x s) => (List.mem_filter.1 h).1
  clear hG hF hO
  generalize openL x s = P at *
  go_enter Try.func27, Try.ntmps27
  go_wp2_with fail
  refine HO.out.mono ?_
  rintro e w1 ⟨r, rfl, hr, hb⟩
  have HB1 := Lib.hid hb
  have hat := hr.arr
  obtain ⟨A, c, rfl, h1, h2⟩ := hr.arr.len
  have HA := Lib.hid hat.at
  rw [ints_len, List.length_map] at h1 ⊢
  unfold maxLen at h2
  have hs1 := hb.size
  clear hr hb hat HO
  go_wp2_with fail
  go_loopw [5, 12] (fun v i wr => ∃ (k : Nat) (L : List (Value × Value × Pt)), k ≤ P.length ∧ i = .int .i64 k ∧ Hid (L.map (·.2.2) = P.take k) ∧ Own30 w1.heap.size wr v L ∧ Below w1.heap.size w1 wr) (fun _ i _ => P.length - (intOf i).toNat)
  case atStart => exact ⟨0, [], Nat.zero_le _, rfl, by unfold Hid; simp, ⟨World.ownsRow_nil _ _ _ _, fun e he => by cases he⟩, Below.refl _ _⟩
  case round =>
    obtain ⟨k, L, hk, rfl, hL, hO, hbel⟩ := hrel
    have HO := Lib.hid hO
    have HB := Lib.hid (HB1.out.trans (hbel.mono hs1))
    have HB0 := Lib.hid hbel
    have hsz := hbel.size
    have hLl : L.length ≤ P.length := by
      have h1 := congrArg List.length hL.out
      rw [List.length_map, List.length_take] at h1
      omega
    by_cases hlt : k < P.length
    · obtain ⟨p, hp⟩ : ∃ p, P[k]? = some p := ⟨_, List.getElem?_eq_getElem hlt⟩
      obtain ⟨gb, o, cs, rfl, hbk, hcs⟩ := HA.out k p.id (by simp [hp])
      have hc1 : wr.cell? ⟨gb, o + k, none⟩ = some (.int .i64 p.id) := ((hbk.below hbel hbk.lt).cell (o + k)).trans hcs
      have hpx := HP.out p (List.mem_of_getElem? hp)
      have hfa := HFn.out.all p hpx
      have hkw : (key p.id).wf = true := key_wf (by have := hfa.1.2.1; omega) (by have := hfa.1.2.1; omega)
      have hGr := HG.out.below (HB1.out.trans (hbel.mono hs1))
      have hcg := hGr.c1
      rcases hGr.look hkw with ⟨p', A1, k1, A2, k2, hf', hpv, hl⟩ | ⟨hf', hl⟩
      case inr => rw [find_id HFn.out.rise hpx] at hf'; cases hf'
      rw [find_id HFn.out.rise hpx] at hf'
      obtain rfl : p = p' := Option.some.inj hf'
      have hl1 := (hl wr (Below.refl _ _)).1
      have HOwn := Lib.hid (own_any _ p wr hpv (by have := hfa.1.1.2.2; omega) (by have := hfa.2.2.2; omega))
      have HKp := Lib.hid (show L.map (·.2.2) ++ [p] = P.take (k + 1) from by rw [List.take_add_one, hp, hL.out]; rfl)
      clear hO hbel hbk hcs hGr hl hpv hf' hkw hfa hp
      unfold Pt.val at *
      go_wp2_with fail
      refine HOwn.out.mono ?_
      rintro e w4 ⟨r, rfl, hr, hb4⟩
      obtain ⟨vd', vn', rfl, hd', hn'⟩ := hr
      obtain ⟨A3, c3, rfl, -, -⟩ := hd'.len
      obtain ⟨A4, c4, rfl, -, -⟩ := hn'.len
      have hs4 := hb4.size
      have HO4 := Lib.hid (HO.out.below hb4)
      have HB4 := Lib.hid (HB0.out.trans (hb4.mono HB0.out.size))
      have HD4 := Lib.hid hd'
      have HN4 := Lib.hid hn'
      have HX := Lib.hid (Blk.new w4 30 (p.cells (.slice A3 (bytes p.data).length c3) (.slice A4 (ints p.needs).length c4)))
      clear hb4 hd' hn' HOwn hc1 hcg hl1
      unfold Pt.val
      unfold Pt.cells at HX
      go_wp2_with (at_builtin; refine wpList_append_pt rfl (.tmp 16) (.tmp 24) rfl w1.heap.size _ L rfl (World.ownsRow.alloc HO4.out.1 _) p A3 (bytes p.data).length c3 A4 (ints p.needs).length c4 w4.heap.size 1 rfl ?c1 ?c2 ?c3 ?_)
      case c1 => unfold Pt.cells; exact HX.out
      case c2 => omega
      case c3 => have := HB4.out.size; simp; omega
      intro v' w5 hown5 hg5
      have ha4 := (Below.refl w4.heap.size w4).alloc (Nat.le_refl _) (.cells #[.int .i64 p.id, .int .i64 p.sec, .int .i64 p.off, .slice A3 (bytes p.data).length c3, .int .i64 p.kind, .slice A4 (ints p.needs).length c4, .int .i64 p.owner, .int .i64 p.child, .bool p.written] 30)
      have HO5 := Lib.hid (Own30.grown (e := (Value.slice A3 (bytes p.data).length c3, Value.slice A4 (ints p.needs).length c4, p)) (HO4.out.below ha4) hg5 ⟨HD4.out.below ha4, HN4.out.below ha4⟩ (by rw [List.length_append]; exact hown5))
      have HB5 := Lib.hid ((HB4.out.alloc HB4.out.size _).grown hg5 (by have := HB4.out.size; simp; omega) (fun j hj => (World.ownsRow.lt HO4.out.1 j hj).1))
      have HLn := Lib.hid (show (L ++ [(Value.slice A3 (bytes p.data).length c3, Value.slice A4 (ints p.needs).length c4, p)]).map (·.2.2) = P.take (k + 1) from by rw [List.map_append]; exact HKp.out)
      clear hown5 hg5 ha4
      go_wp2
      go_roundw
      case rel => exact ⟨k + 1, _, by omega, by go_num, HLn, HO5.out, HB5.out⟩
      case measure => simp [intOf]; omega
    · obtain rfl : k = P.length := by omega
      have HR := Lib.hid (show RL wr _ P from by
        have h1 := hO.list
        rw [hL.out, List.take_length] at h1
        exact h1)
      clear hO hbel
      go_wp2
      go_ret
      exact ⟨_, rfl, HR.out, HB.out⟩

theorem rget_none (b : Nat) (x : G) (id : Int) (w : World) (h : RG w b x) (hf : findI x.l id = -1) :
    Calls Try.prog 73 #[.pointer (some ⟨b, 0, none⟩), .int .i64 id] w fun e w' => e = .returned (.tuple #[zeroV, .int .i64 5]) ∧ Below w.heap.size w w' := by
  have hfd := rfind_any b x id (w.alloc (.cells #[.int .i64 0, .int .i64 0, .int .i64 0, .slice none 0 0, .int .i64 0, .slice none 0 0, .int .i64 0, .int .i64 0, .bool false] 30)) (h.below ((Below.refl _ _).alloc (Nat.le_refl _) _))
  rw [hf] at hfd
  have HFd := Lib.hid hfd
  clear hfd h hf
  go_enter Try.func73, Try.ntmps73
  go_wp2_with fail
  refine HFd.out.mono ?_
  rintro e w2 ⟨rfl, rfl⟩
  go_wp2
  exact bodyPost_ret (v := .tuple #[zeroV, .int .i64 5]) (by simp [results, Try.results73, go_sem, zeroV]) rfl ⟨rfl, (Below.refl _ _).alloc (Nat.le_refl _) _⟩

set_option maxHeartbeats 1000000 in
theorem rget_some (b : Nat) (x : G) (id : Int) (k : Nat) (p : Pt) (w : World) (h : RG w b x) (hf : findI x.l id = k) (hp : x.l[k]? = some p) (hl1 : p.data.length ≤ 1000) (hl2 : p.needs.length ≤ 1000) (hxl : x.l.length ≤ 1000) :
    Calls Try.prog 73 #[.pointer (some ⟨b, 0, none⟩), .int .i64 id] w fun e w' => ∃ r, e = .returned (.tuple #[r, .int .i64 0]) ∧ PtV w' r p ∧ Below w.heap.size w w' := by
  obtain ⟨w1, hw1⟩ : ∃ w1, w1 = w.alloc (.cells #[.int .i64 0, .int .i64 0, .int .i64 0, .slice none 0 0, .int .i64 0, .slice none 0 0, .int .i64 0, .int .i64 0, .bool false] 30) := ⟨_, rfl⟩
  have hb1 : Below w.heap.size w w1 := by rw [hw1]; exact (Below.refl _ _).alloc (Nat.le_refl _) _
  have hX1 : Blk w1 w.heap.size 30 #[.int .i64 0, .int .i64 0, .int .i64 0, .slice none 0 0, .int .i64 0, .slice none 0 0, .int .i64 0, .int .i64 0, .bool false] := by rw [hw1]; exact Blk.new _ _ _
  have hfd := rfind_any b x id w1 (h.below hb1)
  rw [hf] at hfd
  have HFd := Lib.hid hfd
  obtain ⟨v, hb, hl⟩ := h
  obtain ⟨g, c, A1, k1, A2, k2, rfl, hpc, hpv, hgp⟩ := hl.at hp
  have hkl := idx_lt hp
  have hcm : x.l.length ≤ c ∧ c ≤ 9223372036854775807 := by
    obtain ⟨A', c', e, h1, h2⟩ := hl.len
    injection e with _ _ e
    subst e
    exact ⟨h1, by unfold maxLen at h2; omega⟩
  obtain ⟨hcm1, hcm2⟩ := hcm
  have hbc : w1.cell? ⟨b, 1, none⟩ = some (.slice (some ⟨g, 0, none⟩) x.l.length c) := (hb1.cell (p := ⟨b, 1, none⟩) hb.lt).trans (hb.cell 1)
  have mv : ∀ (j : Nat) (u : Value), (p.cells (.slice A1 (bytes p.data).length k1) (.slice A2 (ints p.needs).length k2))[j]? = some u → w1.cell? ⟨g, k * 9 + j, none⟩ = some u := fun j u hu => (hb1.cell (p := ⟨g, k * 9 + j, none⟩) hgp).trans (hpc j u hu)
  have y0 : w1.cell? ⟨g, k * 9, none⟩ = some (.int .i64 p.id) := mv 0 _ rfl
  have y1 : w1.cell? ⟨g, k * 9 + 1, none⟩ = some (.int .i64 p.sec) := mv 1 _ rfl
  have y2 : w1.cell? ⟨g, k * 9 + 2, none⟩ = some (.int .i64 p.off) := mv 2 _ rfl
  have y3 : w1.cell? ⟨g, k * 9 + 3, none⟩ = some (.slice A1 (bytes p.data).length k1) := mv 3 _ rfl
  have y4 : w1.cell? ⟨g, k * 9 + 4, none⟩ = some (.int .i64 p.kind) := mv 4 _ rfl
  have y5 : w1.cell? ⟨g, k * 9 + 5, none⟩ = some (.slice A2 (ints p.needs).length k2) := mv 5 _ rfl
  have y6 : w1.cell? ⟨g, k * 9 + 6, none⟩ = some (.int .i64 p.owner) := mv 6 _ rfl
  have y7 : w1.cell? ⟨g, k * 9 + 7, none⟩ = some (.int .i64 p.child) := mv 7 _ rfl
  have y8 : w1.cell? ⟨g, k * 9 + 8, none⟩ = some (.bool p.written) := mv 8 _ rfl
  have HOwn := Lib.hid (rown_any _ p w1 (hpv.below hb1) hl1 hl2)
  unfold Pt.val at HOwn
  have HX1 := Lib.hid hX1
  have HB1 := Lib.hid hb1
  have hs1 : w.heap.size < w1.heap.size := hX1.lt
  clear hb hl hpc hpv mv hfd hX1 hb1 hp hf
  go_enter Try.func73, Try.ntmps73
  go_wp2_with fail
  rw [← hw1]
  refine HFd.out.mono ?_
  rintro e w2 ⟨rfl, hw2⟩
  subst hw2
  clear hw1
  go_wp2_with fail
  refine HOwn.out.mono ?_
  rintro e w3 ⟨r, rfl, ⟨vd', vn', rfl, hd', hn'⟩, hb3⟩
  obtain ⟨A3, c3, rfl, -, -⟩ := hd'.len
  obtain ⟨A4, c4, rfl, -, -⟩ := hn'.len
  have hR := HX1.out.below hb3 hs1
  have HR := Lib.hid hR
  have HD := Lib.hid hd'
  have HN := Lib.hid hn'
  have HB := Lib.hid (HB1.out.trans (hb3.mono HB1.out.size))
  have hl3 : w.heap.size < w3.heap.size := hR.lt
  have ec := hR.cell
  have a0 := ec 0
  have a1 := ec 1
  have a2 := ec 2
  have a3 := ec 3
  have a4 := ec 4
  have a5 := ec 5
  have a6 := ec 6
  have a7 := ec 7
  have a8 := ec 8
  simp at a0 a1 a2 a3 a4 a5 a6 a7 a8
  have e := hR.frozen
  have e0 := e 0
  have e1 := e 1
  have e2 := e 2
  have e3 := e 3
  have e4 := e 4
  have e5 := e 5
  have e6 := e 6
  have e7 := e 7
  have e8 := e 8
  clear hb3 hd' hn' hR ec e y0 y1 y2 y3 y4 y5 y6 y7 y8 hbc HOwn HFd
  unfold Pt.val
  go_wp2
  have F := (((((((((HR.out.set_ 0 (.int .i64 p.id)).set_ 1 (.int .i64 p.sec)).set_ 2 (.int .i64 p.off)).set_ 3 (.slice A3 (bytes p.data).length c3)).set_ 4 (.int .i64 p.kind)).set_ 5 (.slice A4 (ints p.needs).length c4)).set_ 6 (.int .i64 p.owner)).set_ 7 (.int .i64 p.child)).set_ 8 (.bool p.written))
  have T := ((((((((((Turn.refl (fun j => j = w.heap.size) w3).setCell (p := ⟨w.heap.size, 0, none⟩) (fun _ => rfl) (.int .i64 p.id)).setCell (p := ⟨w.heap.size, 1, none⟩) (fun _ => rfl) (.int .i64 p.sec)).setCell (p := ⟨w.heap.size, 2, none⟩) (fun _ => rfl) (.int .i64 p.off)).setCell (p := ⟨w.heap.size, 3, none⟩) (fun _ => rfl) (.slice A3 (bytes p.data).length c3)).setCell (p := ⟨w.heap.size, 4, none⟩) (fun _ => rfl) (.int .i64 p.kind)).setCell (p := ⟨w.heap.size, 5, none⟩) (fun _ => rfl) (.slice A4 (ints p.needs).length c4)).setCell (p := ⟨w.heap.size, 6, none⟩) (fun _ => rfl) (.int .i64 p.owner)).setCell (p := ⟨w.heap.size, 7, none⟩) (fun _ => rfl) (.int .i64 p.child)).setCell (p := ⟨w.heap.size, 8, none⟩) (fun _ => rfl) (.bool p.written))
  have hbl := HB.out.trans (T.below (B := w.heap.size) (by omega) (fun i hi e => by omega))
  have ha := HD.out.turn T fun g cs k e => k.ne_ HR.out (by decide) e
  have hn2 := HN.out.turn T fun g cs k e => k.ne_ HR.out (by decide) e
  have z0 := F.cell 0
  have z1 := F.cell 1
  have z2 := F.cell 2
  have z3 := F.cell 3
  have z4 := F.cell 4
  have z5 := F.cell 5
  have z6 := F.cell 6
  have z7 := F.cell 7
  have z8 := F.cell 8
  generalize (((((((((w3.setCell ⟨w.heap.size, 0, none⟩ (.int .i64 p.id)).setCell ⟨w.heap.size, 1, none⟩ (.int .i64 p.sec)).setCell ⟨w.heap.size, 2, none⟩ (.int .i64 p.off)).setCell ⟨w.heap.size, 3, none⟩ (.slice A3 (bytes p.data).length c3)).setCell ⟨w.heap.size, 4, none⟩ (.int .i64 p.kind)).setCell ⟨w.heap.size, 5, none⟩ (.slice A4 (ints p.needs).length c4)).setCell ⟨w.heap.size, 6, none⟩ (.int .i64 p.owner)).setCell ⟨w.heap.size, 7, none⟩ (.int .i64 p.child)).setCell ⟨w.heap.size, 8, none⟩ (.bool p.written)) = X at *
  simp at z0 z1 z2 z3 z4 z5 z6 z7 z8
  exact bodyPost_ret (v := .tuple #[p.val (.slice A3 (bytes p.data).length c3) (.slice A4 (ints p.needs).length c4), .int .i64 0]) (by simp [results, Try.results73, go_sem, Pt.val, z0, z1, z2, z3, z4, z5, z6, z7, z8]) rfl ⟨_, rfl, ⟨_, _, rfl, ha, hn2⟩, hbl⟩
end Go.Proofs.Ytmkfaibjjbgbbaa
namespace Go.Proofs.Ytmkfaibjjbgbbaa
open Go.RowKit
set_option linter.unusedVariables false

theorem below_drawnN (w : World) (n : Nat) : Below w.heap.size w (w.drewN n) := ⟨rfl, rfl, rfl, Nat.le_refl _, fun _ _ => rfl⟩
theorem sameInts_same (a b : Value) (l : List Int) (w : World) (ha : Arr w 3 a (ints l)) (hb : Arr w 3 b (ints l)) : Calls Try.prog 39 #[a, b] w fun e w' => e = .returned (.bool true) ∧ Below w.heap.size w w' :=
  (sameInts_any a b l l w ha hb).mono fun e w' ⟨h1, n, h2⟩ => ⟨by rw [h1]; simp, by rw [h2]; exact below_drawnN w n⟩
theorem bytes_str {w : World} {v : Value} {l : List Int} (h : Arr w 5 v (bytes l)) : (convert 27 9 v).run Try.prog w = .ok (.string (strOfNums l)) w := by
  rcases h with ⟨rfl, e⟩ | ⟨g, o, c, cs, rfl, h2, h3, h4, h5⟩
  · obtain rfl : l = [] := by
      cases l with
      | nil => rfl
      | cons a l => cases e
    exact run_convert_bytes_nil w 27 5 Try.underlying27 Try.underlying5 0 0 9 Try.underlying9
  · refine run_convert_bytes_arg w 27 5 Try.underlying27 Try.underlying5 g o _ c l (bytes_len l).symm (fun i hi => ?_) 9 Try.underlying9
    rw [bytes_len] at hi
    refine (h4.cell (o + i)).trans (h5 i _ ?_)
    simp [bytes, hi]

set_option maxHeartbeats 2000000 in
theorem same_any (v u : Value) (p : Pt) (w : World) (hp : PtV w v p) (hq : PtV w u p) : Calls Try.prog 72 #[v, u] w fun e w' => e = .returned (.bool true) ∧ Below w.heap.size w w' := by
  obtain ⟨vd, vn, rfl, hd, hn⟩ := hp
  obtain ⟨ud, un, rfl, kd, kn⟩ := hq
  obtain ⟨A, c, rfl, -, -⟩ := hd.len
  obtain ⟨B, d, rfl, -, -⟩ := hn.len
  obtain ⟨D, i, rfl, -, -⟩ := kd.len
  obtain ⟨E, j, rfl, -, -⟩ := kn.len
  have HD := Lib.hid hd
  have HN := Lib.hid hn
  have KD := Lib.hid kd
  have KN := Lib.hid kn
  clear hd hn kd kn
  unfold Pt.val
  go_enter Try.func72, Try.ntmps72
  go_upto_region 1 with (fail)
  obtain ⟨w2, hw2⟩ : ∃ w2, w2 = (w.alloc (.cells #[.int .i64 p.id, .int .i64 p.sec, .int .i64 p.off, .slice A (bytes p.data).length c, .int .i64 p.kind, .slice B (ints p.needs).length d, .int .i64 p.owner, .int .i64 p.child, .bool p.written] 30)).alloc (.cells #[.int .i64 p.id, .int .i64 p.sec, .int .i64 p.off, .slice D (bytes p.data).length i, .int .i64 p.kind, .slice E (ints p.needs).length j, .int .i64 p.owner, .int .i64 p.child, .bool p.written] 30) := ⟨_, rfl⟩
  rw [← hw2]
  have hX1 : Blk w2 w.heap.size 30 #[.int .i64 p.id, .int .i64 p.sec, .int .i64 p.off, .slice A (bytes p.data).length c, .int .i64 p.kind, .slice B (ints p.needs).length d, .int .i64 p.owner, .int .i64 p.child, .bool p.written] := by rw [hw2]; exact (Blk.new _ _ _).alloc _
  have hX2 : Blk w2 (w.heap.size + 1) 30 #[.int .i64 p.id, .int .i64 p.sec, .int .i64 p.off, .slice D (bytes p.data).length i, .int .i64 p.kind, .slice E (ints p.needs).length j, .int .i64 p.owner, .int .i64 p.child, .bool p.written] := by
    rw [hw2]
    have := Blk.new (w.alloc (.cells #[.int .i64 p.id, .int .i64 p.sec, .int .i64 p.off, .slice A (bytes p.data).length c, .int .i64 p.kind, .slice B (ints p.needs).length d, .int .i64 p.owner, .int .i64 p.child, .bool p.written] 30)) 30 #[.int .i64 p.id, .int .i64 p.sec, .int .i64 p.off, .slice D (bytes p.data).length i, .int .i64 p.kind, .slice E (ints p.needs).length j, .int .i64 p.owner, .int .i64 p.child, .bool p.written]
    simpa using this
  have hb2 : Below w.heap.size w w2 := by rw [hw2]; exact ((Below.refl _ _).alloc (Nat.le_refl _) _).alloc (by simp) _
  have hv1 := bytes_str (HD.out.below hb2)
  have hv2 := bytes_str (KD.out.below hb2)
  have HSm := Lib.hid (sameInts_same _ _ _ w2 (HN.out.below hb2) (KN.out.below hb2))
  have HX1 := Lib.hid hX1
  have HX2 := Lib.hid hX2
  have HB2 := Lib.hid hb2
  clear hw2
  have c := hX1.cell
  have c0 := c 0
  have c1 := c 1
  have c2 := c 2
  have c3 := c 3
  have c4 := c 4
  have c5 := c 5
  have c6 := c 6
  have c7 := c 7
  have c8 := c 8
  simp at c0 c1 c2 c3 c4 c5 c6 c7 c8
  have d := hX2.cell
  have d0 := d 0
  have d1 := d 1
  have d2 := d 2
  have d3 := d 3
  have d4 := d 4
  have d5 := d 5
  have d6 := d 6
  have d7 := d 7
  have d8 := d 8
  simp at d0 d1 d2 d3 d4 d5 d6 d7 d8
  clear c d hX1 hX2 hb2
  go_wp2_with fail
  refine HSm.out.mono ?_
  rintro e w3 ⟨rfl, hb3⟩
  have x6 := (HX1.out.below hb3 HX1.out.lt).cell 6
  have x7 := (HX1.out.below hb3 HX1.out.lt).cell 7
  have x8 := (HX1.out.below hb3 HX1.out.lt).cell 8
  have y6 := (HX2.out.below hb3 HX2.out.lt).cell 6
  have y7 := (HX2.out.below hb3 HX2.out.lt).cell 7
  have y8 := (HX2.out.below hb3 HX2.out.lt).cell 8
  simp at x6 x7 x8 y6 y7 y8
  have HB3 := Lib.hid (HB2.out.trans (hb3.mono HB2.out.size))
  clear hb3 hv1 hv2 HSm c0 c1 c2 c3 c4 c5 c6 c7 c8 d0 d1 d2 d3 d4 d5 d6 d7 d8
  go_wp2
  go_ret
  exact ⟨by first | rfl | simp, HB3.out⟩

/-- Settle: of a sector that can't be, nothing. -/
def setOf (x : G) (s : Int) : G := if s < 0 then x else settleG x (setQ s)
theorem rsettleAll_any (b : Nat) (x : G) (w : World) (h : RG w b x) (hxl : x.l.length ≤ 1000) :
    Calls Try.prog 66 #[.pointer (some ⟨b, 0, none⟩)] w fun e w' => e = .returned (.int .i64 (x.l.length - (settleG x (setQ (-1))).l.length : Int)) ∧ RG w' b (settleG x (setQ (-1))) ∧ Turn (fun j => j = b) w w' := by
  have HK := Lib.hid (rsettle_any b x (-1) w h hxl)
  clear h
  go_enter Try.func66, Try.ntmps66
  go_wp2_with fail
  refine HK.out.mono ?_
  rintro e w1 ⟨rfl, hg, ht⟩
  have HG := Lib.hid hg
  have HT := Lib.hid ht
  clear hg ht HK
  go_wp2_with fail
  go_ret
  exact ⟨rfl, HG.out, HT.out⟩
theorem rsettleOf_any (b : Nat) (x : G) (s : Int) (w : World) (h : RG w b x) (hxl : x.l.length ≤ 1000) :
    Calls Try.prog 65 #[.pointer (some ⟨b, 0, none⟩), .int .i64 s] w fun e w' => e = .returned (.int .i64 (x.l.length - (setOf x s).l.length : Int)) ∧ RG w' b (setOf x s) ∧ Turn (fun j => j = b) w w' := by
  by_cases hs : s < 0
  · have HF := Lib.hid (show setOf x s = x from by unfold setOf; rw [if_pos hs])
    have HG := Lib.hid h
    clear h
    go_enter Try.func65, Try.ntmps65
    go_wp2
    go_ret
    exact ⟨by rw [HF.out]; simp, by rw [HF.out]; exact HG.out, Turn.refl _ _⟩
  · have HF := Lib.hid (show setOf x s = settleG x (setQ s) from by unfold setOf; rw [if_neg hs])
    have hK := rsettle_any b x s w h hxl
    rw [← HF.out] at hK
    have HK := Lib.hid hK
    clear h hK
    go_enter Try.func65, Try.ntmps65
    go_wp2_with fail
    refine HK.out.mono ?_
    rintro e w1 ⟨rfl, hg, ht⟩
    have HG := Lib.hid hg
    have HT := Lib.hid ht
    clear hg ht HK HF
    go_wp2_with fail
    go_ret
    exact ⟨rfl, HG.out, HT.out⟩

/-! What package graph's Settle and SettleAll answer is the same. -/
theorem settle_count (x : G) (q : Pt → Bool) : ((idsOf x fun p => p.written && q p).length : Int) = (x.l.length : Int) - ((settleG x q).l.length : Int) := by
  have key : ∀ (f : Pt → Bool) (l : List Pt), (l.filter f).length + (l.filter fun p => !f p).length = l.length := by
    intro f l
    induction l with
    | nil => rfl
    | cons p l ih =>
      rw [List.filter_cons, List.filter_cons]
      cases f p with
      | true => simp only [if_true, Bool.not_true, Bool.false_eq_true, if_false, List.length_cons]; omega
      | false => simp only [if_true, Bool.not_false, Bool.false_eq_true, if_false, List.length_cons]; omega
  have h := key (fun p => p.written && q p) x.l
  have e1 : (idsOf x fun p => p.written && q p).length = (x.l.filter fun p => p.written && q p).length := by unfold idsOf; rw [List.length_map]
  have e2 : (settleG x q).l.length = (x.l.filter fun p => !(p.written && q p)).length := rfl
  omega
theorem settle_all_eq (x : G) : settleG x (setQ (-1)) = settleG x fun _ => true := by
  unfold settleG setQ
  simp
theorem settle_of_eq {x : G} (hx : ∀ p ∈ x.l, 0 ≤ p.sec) (s : Int) : setOf x s = settleG x fun p => decide (p.sec = s) := by
  unfold setOf settleG setQ
  by_cases hs : s < 0
  · rw [if_pos hs]
    have : x.l.filter (fun p => !(p.written && decide (p.sec = s))) = x.l := List.filter_eq_self.2 fun p hp => by
      have := hx p hp
      have h2 : ¬ p.sec = s := by omega
      simp [h2]
    rw [this]
  · rw [if_neg hs]
    simp [hs]
theorem Arr.two (w : World) (t : TypeId) (v u : Value) : Arr (w.alloc (.cells #[v, u] t)) t (.slice (some ⟨w.heap.size, 0, none⟩) 2 2) [v, u] := by
  refine .inr ⟨w.heap.size, 0, 2, #[v, u], rfl, Nat.le_refl _, by decide, Blk.new _ _ _, fun i u hu => ?_⟩
  rcases i with _ | _ | i
  · simpa using hu
  · simpa using hu
  · simp at hu
end Go.Proofs.Ytmkfaibjjbgbbaa
