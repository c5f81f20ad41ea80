/- Ready of package scupperref14. alike of package scupperlaw14. patch of package scupperlaw14. GraphGoes, the walk. -/
import Derived.Test.YtmkfaibjjbgbbaaRask
import Derived.Test.YtmkfaibjjbgbbaaJp1
import Derived.Test.YtmkfaibjjbgbbaaRend
import Derived.Test.YtmkfaibjjbgbbaaRneed
import Derived.Test.YtmkfaibjjbgbbaaCopy
import Derived.Deep.DeepCutAuto
import Derived.Test.YtmkfaibjjbgbbaaFew
import Derived.Deep.AppendLies
import Derived.Laws.OwnMore
import Derived.Test.YtmkfaibjjbgbbaaGoes
namespace Go.Proofs.Ytmkfaibjjbgbbaa
open Go.RowKit
set_option linter.unusedVariables false
attribute [local go_sem ↓] Go.wp_at_zero Go.wp_at_succ

def rdyQ (x : G) (s : Int) (p : Pt) : Bool := decide (p.sec = s) && (readyG x p.sec).contains p.id
theorem ready_pick {x : G} (hx : Rise x.l) (s : Int) : idsOf x (rdyQ x s) = readyG x s := by
  have hO : Rise (openL x s) := hx.filter _
  obtain ⟨s1, s2, s3, s4⟩ := rdy_spec x _ hO
  unfold idsOf readyG
  congr 1
  refine List.Sublist.eq_of_length_le (rise_sub _ _ (hO.sublist s1) (hx.filter _) fun p hp => ?_) (rise_sub _ _ (hx.filter _) (hO.sublist s1) fun p hp => ?_).length_le
  · obtain ⟨hpx, hq⟩ := List.mem_filter.1 hp
    unfold rdyQ at hq
    rw [Bool.and_eq_true] at hq
    have hs : p.sec = s := by simpa using hq.1
    have hc := hq.2
    rw [List.contains_iff_mem, hs] at hc
    unfold readyG at hc
    obtain ⟨r, hr, e⟩ := List.mem_map.1 hc
    have hrx := (List.mem_filter.1 (s1.subset hr)).1
    rw [← id_inj hx hrx hpx e]
    exact hr
  · obtain ⟨hpx, hq⟩ := List.mem_filter.1 (s1.subset hp)
    have hq' : p.sec = s ∧ p.written = false := by simpa [openQ] using hq
    refine List.mem_filter.2 ⟨hpx, ?_⟩
    unfold rdyQ
    rw [hq'.1, Bool.and_eq_true]
    refine ⟨by simp, ?_⟩
    rw [List.contains_iff_mem]
    exact List.mem_map.2 ⟨p, hp, rfl⟩

set_option maxHeartbeats 2000000 in
theorem rready_any (b : Nat) (x : G) (s : Int) (w : World) (h : RG w b x) (hF : Fine x) :
    Calls Try.prog 63 #[.pointer (some ⟨b, 0, none⟩), .int .i64 s] w fun e w' => ∃ r, e = .returned r ∧ Built w.heap.size w' r (readyG x s) ∧ Below w.heap.size w w' := by
  have HG := Lib.hid h
  have hxl := hF.len
  have HR := Lib.hid (readies_any b x (w.alloc (.cells #[] 3)) (h.below ((Below.refl _ _).alloc (Nat.le_refl _) _)) (fun p hp => ⟨(hF.all p hp).1.1, (hF.all p hp).2.2.2⟩) hxl)
  obtain ⟨v, hb, hl⟩ := h
  obtain ⟨A, c, rfl, hc1, hc2⟩ := hl.len
  have HL := Lib.hid hl
  have HRise := Lib.hid hF.rise
  have hbc := hb.cell 1
  simp at hbc
  unfold maxLen at hc2
  have hbl : b < w.heap.size := hb.lt
  clear hb hl hF
  go_enter Try.func63, Try.ntmps63
  go_wp2_with fail
  refine HR.out.mono ?_
  rintro e w1 ⟨o1, rfl, ho1, hb1⟩
  have HO1 := Lib.hid ho1
  have HB1 := Lib.hid (show Below w.heap.size w w1 from ((Below.refl w.heap.size w).alloc (Nat.le_refl _) (.cells #[] 3)).trans (hb1.mono (by simp)))
  have HN1 := Lib.hid (show Built w.heap.size w1 (.slice (some ⟨w.heap.size, 0, none⟩) 0 0) [] from Built.below (World.ownsRow_made w #[] 0 (Nat.le_refl _) (Nat.zero_le _) rfl) hb1)
  have ho1l : w.heap.size + 1 ≤ o1 ∧ o1 < w1.heap.size := by
    have := World.ownsRow.lt ho1 o1 rfl
    simpa using this
  obtain ⟨ho1a, ho1b⟩ := ho1l
  clear ho1 hb1 HR
  go_wp2_with fail
  go_loopw [5, 7] (fun v i wr => ∃ k : Nat, k ≤ x.l.length ∧ i = .int .i64 k ∧ Built w.heap.size wr v (pick x.l (rdyQ x s) k) ∧ Below w.heap.size w wr ∧ Turn (fun j => j = w.heap.size) w1 wr ∧ Hid (∀ j, v.ownBlock = some j → j = w.heap.size ∨ w1.heap.size ≤ j)) (fun _ i _ => x.l.length - (intOf i).toNat)
  case atStart => exact ⟨0, Nat.zero_le _, rfl, HN1.out, HB1.out, Turn.refl _ _, fun j e => .inl (Option.some.inj e).symm⟩
  case round =>
    obtain ⟨k, hk, rfl, hO, hbel, hT, hOw⟩ := hrel
    have HO := Lib.hid hO
    have HB := Lib.hid hbel
    have HT := Lib.hid hT
    have hsz := hbel.size
    have hszT := hT.size
    have hbcw : wr.cell? ⟨b, 1, none⟩ = some (.slice A x.l.length c) := (hbel.cell (p := ⟨b, 1, none⟩) hbl).trans hbc
    by_cases hlt : k < x.l.length
    · obtain ⟨p, hp⟩ : ∃ p, x.l[k]? = some p := ⟨_, List.getElem?_eq_getElem hlt⟩
      obtain ⟨g, c', A1, k1, A2, k2, e, hpc, hpv, hgp⟩ := HL.out.at hp
      injection e with e1 e2 e3
      subst e1 e3
      clear e2
      have y0 : wr.cell? ⟨g, k * 9, none⟩ = some (.int .i64 p.id) := (hbel.cell (p := ⟨g, k * 9, none⟩) hgp).trans (hpc 0 _ rfl)
      have y1 : wr.cell? ⟨g, k * 9 + 1, none⟩ = some (.int .i64 p.sec) := (hbel.cell (p := ⟨g, k * 9 + 1, none⟩) hgp).trans (hpc 1 _ rfl)
      have hoc : wr.cell? ⟨o1, k, none⟩ = some (.bool ((readyG x p.sec).contains p.id)) := by
        have h1 : w1.cell? ⟨o1, k, none⟩ = some (.bool ((readyG x p.sec).contains p.id)) := (World.ownsRow.cellAt HO1.out k (by omega)).trans (by rw [List.getElem?_map, ready_ref HRise.out hp]; rfl)
        exact (World.cell?_of_block (a := ⟨o1, k, none⟩) (hT.block o1 ho1b (by omega))).trans h1
      have hpl := pick_len x.l (rdyQ x s) k
      have hk0 : (0 : Int) ≤ (k : Int) := by omega
      have hk1 : (k : Int) < (x.l.length : Int) := by omega
      by_cases hs : p.sec = s
      · have ht : (p.sec == s) = true := by simp [hs]
        cases hr : (readyG x p.sec).contains p.id with
        | true =>
          have HPk := Lib.hid (pick_on (q := rdyQ x s) hp (by unfold rdyQ; rw [hr]; simp [hs]))
          rw [hr] at hoc
          clear hO hbel hpc hpv hp hT hs hr
          go_wp2_with (at_builtin; refine wpList_append_int rfl (.tmp 36) (.tmp 45) rfl w.heap.size _ _ rfl (World.ownsRow.alloc HO.out _) p.id wr.heap.size 1 rfl ?c1 ?c2 ?c3 ?_)
          case c1 => exact (Blk.new wr 3 #[.int .i64 p.id]).cell 0
          case c2 => omega
          case c3 => simp; omega
          intro v' w5 hown5 hg5 hv5
          rw [← HPk.out] at hown5
          have HO5 := Lib.hid hown5
          have HB5 := Lib.hid ((HB.out.alloc HB.out.size (.cells #[.int .i64 p.id] 3)).grown hg5 (by have := HB.out.size; simp; omega) (fun j hj => (World.ownsRow.lt HO.out j hj).1))
          have HT5 := Lib.hid ((HT.out.alloc (.cells #[.int .i64 p.id] 3)).grown hg5 (fun j hj hl => (hOw.out j hj).resolve_right (by omega)))
          have HV5 := Lib.hid (show ∀ j, v'.ownBlock = some j → j = w.heap.size ∨ w1.heap.size ≤ j from fun j hj => by
            rcases hv5 with e | e
            · exact hOw.out j (by rw [← e]; exact hj)
            · rw [e] at hj
              have h7 := Option.some.inj hj
              have h8 : (wr.alloc (.cells #[.int .i64 p.id] 3)).heap.size = wr.heap.size + 1 := by simp
              right; omega)
          clear hown5 hg5 hv5
          go_wp2
          go_roundw
          case rel => exact ⟨k + 1, by omega, by go_num, HO5.out, HB5.out, HT5.out, HV5⟩
          case measure => simp [intOf]; omega
        | false =>
          have HPk := Lib.hid (pick_off (q := rdyQ x s) hp (by unfold rdyQ; rw [hr]; simp))
          rw [hr] at hoc
          rw [← HPk.out] at HO
          clear hO hbel hpc hpv hp hT hs hr
          go_wp2
          go_roundw
          case rel => exact ⟨k + 1, by omega, by go_num, HO.out, HB.out, HT.out, hOw⟩
          case measure => simp [intOf]; omega
      · have ht : (p.sec == s) = false := by simp [hs]
        have HPk := Lib.hid (pick_off (q := rdyQ x s) hp (by unfold rdyQ; simp [hs]))
        rw [← HPk.out] at HO
        clear hO hbel hpc hpv hp hT hs
        go_wp2
        go_roundw
        case rel => exact ⟨k + 1, by omega, by go_num, HO.out, HB.out, HT.out, hOw⟩
        case measure => simp [intOf]; omega
    · obtain rfl : k = x.l.length := by omega
      rw [pick_all, ready_pick HRise.out] at HO
      clear hO hbel hT
      go_wp2
      go_ret
      exact ⟨_, rfl, HO.out, HB.out⟩
end Go.Proofs.Ytmkfaibjjbgbbaa
namespace Go.Proofs.Ytmkfaibjjbgbbaa
open Go.RowKit
set_option linter.unusedVariables false
attribute [local go_sem ↓] Go.wp_at_zero Go.wp_at_succ

theorem RG.drew {w : World} {b : Nat} {x : G} (h : RG w b x) : RG w.drew b x := h
theorem RG.alloc {w : World} {b : Nat} {x : G} (h : RG w b x) (o : Obj) : RG (w.alloc o) b x := h.below ((Below.refl _ _).alloc (Nat.le_refl _) o)
theorem RG.c0 {w : World} {b : Nat} {x : G} (h : RG w b x) : w.cell? ⟨b, 0, none⟩ = some (.int .i64 x.last) := by obtain ⟨lv, h1, -⟩ := h; exact h1.cell 0
theorem Arr.two' (w : World) (o : Obj) (t : TypeId) (v u : Value) : Arr ((w.alloc o).alloc (.cells #[v, u] t)) t (.slice (some ⟨w.heap.size + 1, 0, none⟩) 2 2) [v, u] := by
  have h := Arr.two (w.alloc o) t v u
  rwa [show (w.alloc o).heap.size = w.heap.size + 1 by simp] at h
theorem zero_pt (w : World) : PtV w zeroV ⟨0, 0, 0, [], 0, [], 0, 0, false⟩ := ⟨_, _, rfl, Arr.nil _ _, Arr.nil _ _⟩

set_option maxHeartbeats 8000000 in
set_option maxRecDepth 100000 in
theorem alike_any (g mb nn b : Nat) (x : G) (n : Int) (w0 : World) (hG : Gr w0 g mb nn x) (hR : RG w0 b x) (hF : Fine x) (hk : (key n).wf = true) (hkl : (key x.last).wf = true) :
    Calls Try.prog 23 #[.pointer (some ⟨g, 0, none⟩), .pointer (some ⟨b, 0, none⟩), .int .i64 n] w0 fun e w' => e = .returned (.bool true) ∧ Below w0.heap.size w0 w' := by
  have HFn := Lib.hid hF
  have HG0 := Lib.hid hG
  have HR0 := Lib.hid hR
  have HB0 := Lib.hid (Below.refl w0.heap.size w0)
  have hxl := hF.len
  have HK := Lib.hid hk
  have HKl := Lib.hid hkl
  clear hG hR hF hk hkl
  go_enter Try.func23, Try.ntmps23
  have HKs := Lib.hid (show ∀ k ∈ [n, x.last], (key k).wf = true from fun k h => by
    rcases List.mem_cons.1 h with h | h
    · exact h ▸ HK.out
    · rw [List.mem_singleton.1 h]; exact HKl.out)
  go_upto_region 1 with (fail)
  go_cut [87] (fun s87 wx => s87 = .bool false ∧ Below w0.heap.size w0 wx)
  case first =>
    obtain ⟨wz, hwz⟩ : ∃ wz, wz = w0 := ⟨_, rfl⟩
    have HG := Lib.hid HG0.out
    have HR := Lib.hid HR0.out
    have HB := Lib.hid HB0.out
    rw [← hwz] at HG HR ⊢
    have HB : Hid (Below w0.heap.size w0 wz) := Lib.hid (by rw [hwz]; exact HB.out)
    have hb0 := HR.out.c0
    clear hwz HG0 HR0 HB0
    simp only [List.append_eq, List.cons_append, List.nil_append]
    go_region_held3 (fun W => W.cell? ⟨b, 0, none⟩ = some (.int .i64 x.last)) (first | exact HR.out.c0 | exact HR.out.drew.c0 | exact (HR.out.alloc _).c0 | exact ((HR.out.alloc _).alloc _).c0)
      (first
        | (go_at_call 15; refine (alls_any g mb nn x _ (by first | exact HG.out | exact HG.out.drew | exact HG.out.alloc _ | exact (HG.out.alloc _).alloc _) HFn.out.rise (by omega)).mono ?_; rintro e wy ⟨r1, rfl, hr, hb⟩; have hk : Below wz.heap.size wz wy := (by first | exact hb | exact ((Below.refl _ _).alloc (Nat.le_refl _) _).trans (hb.mono (by simp)) | exact (((Below.refl _ _).alloc (Nat.le_refl _) _).alloc (by simp) _).trans (hb.mono (by simp; omega)) | exact ⟨hb.os, hb.tape, hb.output, hb.size, hb.block⟩); have HA1 := Lib.hid hr.arr; replace HG := Lib.hid (HG.out.below hk); replace HR := Lib.hid (HR.out.below hk); replace HB := Lib.hid (HB.out.trans (hk.mono HB.out.size)); clear hr hb hk; rename World => wz)
        | (go_at_call 40; refine (rall_any b x _ (by first | exact HR.out | exact HR.out.drew | exact HR.out.alloc _ | exact (HR.out.alloc _).alloc _) hxl).mono ?_; rintro e wy ⟨r2, rfl, hr, hb⟩; have hk : Below wz.heap.size wz wy := (by first | exact hb | exact ((Below.refl _ _).alloc (Nat.le_refl _) _).trans (hb.mono (by simp)) | exact (((Below.refl _ _).alloc (Nat.le_refl _) _).alloc (by simp) _).trans (hb.mono (by simp; omega)) | exact ⟨hb.os, hb.tape, hb.output, hb.size, hb.block⟩); have HA2 := Lib.hid hr.arr; replace HA1 := Lib.hid (HA1.out.below hk); replace HG := Lib.hid (HG.out.below hk); replace HR := Lib.hid (HR.out.below hk); replace HB := Lib.hid (HB.out.trans (hk.mono HB.out.size)); clear hr hb hk; rename World => wz)
        | (go_at_call 26; refine (written_any g mb nn x _ (by first | exact HG.out | exact HG.out.drew | exact HG.out.alloc _ | exact (HG.out.alloc _).alloc _) HFn.out.rise (by omega)).mono ?_; rintro e wy ⟨r1, rfl, hr, hb⟩; have hk : Below wz.heap.size wz wy := (by first | exact hb | exact ((Below.refl _ _).alloc (Nat.le_refl _) _).trans (hb.mono (by simp)) | exact (((Below.refl _ _).alloc (Nat.le_refl _) _).alloc (by simp) _).trans (hb.mono (by simp; omega)) | exact ⟨hb.os, hb.tape, hb.output, hb.size, hb.block⟩); have HA1 := Lib.hid hr.arr; replace HG := Lib.hid (HG.out.below hk); replace HR := Lib.hid (HR.out.below hk); replace HB := Lib.hid (HB.out.trans (hk.mono HB.out.size)); clear hr hb hk; rename World => wz)
        | (go_at_call 43; refine (rwritten_any b x _ (by first | exact HR.out | exact HR.out.drew | exact HR.out.alloc _ | exact (HR.out.alloc _).alloc _) hxl).mono ?_; rintro e wy ⟨r2, rfl, hr, hb⟩; have hk : Below wz.heap.size wz wy := (by first | exact hb | exact ((Below.refl _ _).alloc (Nat.le_refl _) _).trans (hb.mono (by simp)) | exact (((Below.refl _ _).alloc (Nat.le_refl _) _).alloc (by simp) _).trans (hb.mono (by simp; omega)) | exact ⟨hb.os, hb.tape, hb.output, hb.size, hb.block⟩); have HA2 := Lib.hid hr.arr; replace HA1 := Lib.hid (HA1.out.below hk); replace HG := Lib.hid (HG.out.below hk); replace HR := Lib.hid (HR.out.below hk); replace HB := Lib.hid (HB.out.trans (hk.mono HB.out.size)); clear hr hb hk; rename World => wz)
        | (go_at_call 16; refine (sectors_any g mb nn x _ (by first | exact HG.out | exact HG.out.drew | exact HG.out.alloc _ | exact (HG.out.alloc _).alloc _) HFn.out.rise (by omega) (fun p hp => (HFn.out.all p hp).1) (fun p hp => (HFn.out.all p hp).2.1)).mono ?_; rintro e wy ⟨r1, rfl, hr, hb⟩; have hk : Below wz.heap.size wz wy := (by first | exact hb | exact ((Below.refl _ _).alloc (Nat.le_refl _) _).trans (hb.mono (by simp)) | exact (((Below.refl _ _).alloc (Nat.le_refl _) _).alloc (by simp) _).trans (hb.mono (by simp; omega)) | exact ⟨hb.os, hb.tape, hb.output, hb.size, hb.block⟩); have HA1 := Lib.hid hr.arr; replace HG := Lib.hid (HG.out.below hk); replace HR := Lib.hid (HR.out.below hk); replace HB := Lib.hid (HB.out.trans (hk.mono HB.out.size)); clear hr hb hk; rename World => wz)
        | (go_at_call 67; refine (rsectors_any b x _ (by first | exact HR.out | exact HR.out.drew | exact HR.out.alloc _ | exact (HR.out.alloc _).alloc _) hxl).mono ?_; rintro e wy ⟨r2, rfl, hr, hb⟩; have hk : Below wz.heap.size wz wy := (by first | exact hb | exact ((Below.refl _ _).alloc (Nat.le_refl _) _).trans (hb.mono (by simp)) | exact (((Below.refl _ _).alloc (Nat.le_refl _) _).alloc (by simp) _).trans (hb.mono (by simp; omega)) | exact ⟨hb.os, hb.tape, hb.output, hb.size, hb.block⟩); have HA2 := Lib.hid hr.arr; replace HA1 := Lib.hid (HA1.out.below hk); replace HG := Lib.hid (HG.out.below hk); replace HR := Lib.hid (HR.out.below hk); replace HB := Lib.hid (HB.out.trans (hk.mono HB.out.size)); clear hr hb hk; rename World => wz)
        | (go_at_call 28; refine (by_any g mb nn x n _ (by first | exact HG.out | exact HG.out.drew | exact HG.out.alloc _ | exact (HG.out.alloc _).alloc _) HFn.out.rise (by omega)).mono ?_; rintro e wy ⟨r1, rfl, hr, hb⟩; have hk : Below wz.heap.size wz wy := (by first | exact hb | exact ((Below.refl _ _).alloc (Nat.le_refl _) _).trans (hb.mono (by simp)) | exact (((Below.refl _ _).alloc (Nat.le_refl _) _).alloc (by simp) _).trans (hb.mono (by simp; omega)) | exact ⟨hb.os, hb.tape, hb.output, hb.size, hb.block⟩); have HA1 := Lib.hid hr.arr; replace HG := Lib.hid (HG.out.below hk); replace HR := Lib.hid (HR.out.below hk); replace HB := Lib.hid (HB.out.trans (hk.mono HB.out.size)); clear hr hb hk; rename World => wz)
        | (go_at_call 68; refine (rby_any b x n _ (by first | exact HR.out | exact HR.out.drew | exact HR.out.alloc _ | exact (HR.out.alloc _).alloc _) hxl).mono ?_; rintro e wy ⟨r2, rfl, hr, hb⟩; have hk : Below wz.heap.size wz wy := (by first | exact hb | exact ((Below.refl _ _).alloc (Nat.le_refl _) _).trans (hb.mono (by simp)) | exact (((Below.refl _ _).alloc (Nat.le_refl _) _).alloc (by simp) _).trans (hb.mono (by simp; omega)) | exact ⟨hb.os, hb.tape, hb.output, hb.size, hb.block⟩); have HA2 := Lib.hid hr.arr; replace HA1 := Lib.hid (HA1.out.below hk); replace HG := Lib.hid (HG.out.below hk); replace HR := Lib.hid (HR.out.below hk); replace HB := Lib.hid (HB.out.trans (hk.mono HB.out.size)); clear hr hb hk; rename World => wz)
        | (go_at_call 29; refine (about_any g mb nn x n _ (by first | exact HG.out | exact HG.out.drew | exact HG.out.alloc _ | exact (HG.out.alloc _).alloc _) HFn.out.rise (by omega)).mono ?_; rintro e wy ⟨r1, rfl, hr, hb⟩; have hk : Below wz.heap.size wz wy := (by first | exact hb | exact ((Below.refl _ _).alloc (Nat.le_refl _) _).trans (hb.mono (by simp)) | exact (((Below.refl _ _).alloc (Nat.le_refl _) _).alloc (by simp) _).trans (hb.mono (by simp; omega)) | exact ⟨hb.os, hb.tape, hb.output, hb.size, hb.block⟩); have HA1 := Lib.hid hr.arr; replace HG := Lib.hid (HG.out.below hk); replace HR := Lib.hid (HR.out.below hk); replace HB := Lib.hid (HB.out.trans (hk.mono HB.out.size)); clear hr hb hk; rename World => wz)
        | (go_at_call 69; refine (rabout_any b x n _ (by first | exact HR.out | exact HR.out.drew | exact HR.out.alloc _ | exact (HR.out.alloc _).alloc _) hxl).mono ?_; rintro e wy ⟨r2, rfl, hr, hb⟩; have hk : Below wz.heap.size wz wy := (by first | exact hb | exact ((Below.refl _ _).alloc (Nat.le_refl _) _).trans (hb.mono (by simp)) | exact (((Below.refl _ _).alloc (Nat.le_refl _) _).alloc (by simp) _).trans (hb.mono (by simp; omega)) | exact ⟨hb.os, hb.tape, hb.output, hb.size, hb.block⟩); have HA2 := Lib.hid hr.arr; replace HA1 := Lib.hid (HA1.out.below hk); replace HG := Lib.hid (HG.out.below hk); replace HR := Lib.hid (HR.out.below hk); replace HB := Lib.hid (HB.out.trans (hk.mono HB.out.size)); clear hr hb hk; rename World => wz)
        | (go_at_call 17; refine (ready_any g mb nn x n _ (by first | exact HG.out | exact HG.out.drew | exact HG.out.alloc _ | exact (HG.out.alloc _).alloc _) HFn.out.rise (by omega) (fun p hp => (HFn.out.all p hp).1)).mono ?_; rintro e wy ⟨r1, rfl, hr, hb⟩; have hk : Below wz.heap.size wz wy := (by first | exact hb | exact ((Below.refl _ _).alloc (Nat.le_refl _) _).trans (hb.mono (by simp)) | exact (((Below.refl _ _).alloc (Nat.le_refl _) _).alloc (by simp) _).trans (hb.mono (by simp; omega)) | exact ⟨hb.os, hb.tape, hb.output, hb.size, hb.block⟩); have HA1 := Lib.hid hr.arr; replace HG := Lib.hid (HG.out.below hk); replace HR := Lib.hid (HR.out.below hk); replace HB := Lib.hid (HB.out.trans (hk.mono HB.out.size)); clear hr hb hk; rename World => wz)
        | (go_at_call 63; refine (rready_any b x n _ (by first | exact HR.out | exact HR.out.drew | exact HR.out.alloc _ | exact (HR.out.alloc _).alloc _) HFn.out).mono ?_; rintro e wy ⟨r2, rfl, hr, hb⟩; have hk : Below wz.heap.size wz wy := (by first | exact hb | exact ((Below.refl _ _).alloc (Nat.le_refl _) _).trans (hb.mono (by simp)) | exact (((Below.refl _ _).alloc (Nat.le_refl _) _).alloc (by simp) _).trans (hb.mono (by simp; omega)) | exact ⟨hb.os, hb.tape, hb.output, hb.size, hb.block⟩); have HA2 := Lib.hid hr.arr; replace HA1 := Lib.hid (HA1.out.below hk); replace HG := Lib.hid (HG.out.below hk); replace HR := Lib.hid (HR.out.below hk); replace HB := Lib.hid (HB.out.trans (hk.mono HB.out.size)); clear hr hb hk; rename World => wz)
        | (go_at_call 39; refine (sameInts_same _ _ _ _ HA1.out HA2.out).mono ?_; rintro e wy ⟨rfl, hb⟩; have hk : Below wz.heap.size wz wy := (by first | exact hb | exact ((Below.refl _ _).alloc (Nat.le_refl _) _).trans (hb.mono (by simp)) | exact (((Below.refl _ _).alloc (Nat.le_refl _) _).alloc (by simp) _).trans (hb.mono (by simp; omega)) | exact ⟨hb.os, hb.tape, hb.output, hb.size, hb.block⟩); replace HG := Lib.hid (HG.out.below hk); replace HR := Lib.hid (HR.out.below hk); replace HB := Lib.hid (HB.out.trans (hk.mono HB.out.size)); clear hb hk HA1 HA2; rename World => wz)
        | (go_at_call 30; refine (needed_any g mb nn x _ [n, x.last] _ (by first | exact HG.out | exact HG.out.drew | exact HG.out.alloc _ | exact (HG.out.alloc _).alloc _) HFn.out (by first | exact Arr.two _ 3 _ _ | exact (Arr.two _ 3 _ _).alloc _ | exact Arr.two' _ _ 3 _ _) (by simp) HKs.out).mono ?_; rintro e wy ⟨r1, rfl, hr, hb⟩; have hk : Below wz.heap.size wz wy := (by first | exact hb | exact ((Below.refl _ _).alloc (Nat.le_refl _) _).trans (hb.mono (by simp)) | exact (((Below.refl _ _).alloc (Nat.le_refl _) _).alloc (by simp) _).trans (hb.mono (by simp; omega)) | exact ⟨hb.os, hb.tape, hb.output, hb.size, hb.block⟩); have HA1 := Lib.hid hr.arr; (first | (have HAa := Lib.hid (((Arr.two wz 3 (.int .i64 n) (.int .i64 x.last)).alloc (.cells #[.int .i64 n, .int .i64 x.last] 3)).below hb); have HAb := Lib.hid ((Arr.two' wz (.cells #[.int .i64 n, .int .i64 x.last] 3) 3 (.int .i64 n) (.int .i64 x.last)).below hb)) | skip); replace HG := Lib.hid (HG.out.below hk); replace HR := Lib.hid (HR.out.below hk); replace HB := Lib.hid (HB.out.trans (hk.mono HB.out.size)); clear hr hb hk; rename World => wz)
        | (go_at_call 70; refine (rneeded_any b x _ [n, x.last] _ (by first | exact HR.out | exact HR.out.drew | exact HR.out.alloc _ | exact (HR.out.alloc _).alloc _) HFn.out (by first | exact HAa.out | exact HAb.out | exact Arr.two _ 3 _ _)).mono ?_; rintro e wy ⟨r2, rfl, hr, hb⟩; have hk : Below wz.heap.size wz wy := (by first | exact hb | exact ((Below.refl _ _).alloc (Nat.le_refl _) _).trans (hb.mono (by simp)) | exact (((Below.refl _ _).alloc (Nat.le_refl _) _).alloc (by simp) _).trans (hb.mono (by simp; omega)) | exact ⟨hb.os, hb.tape, hb.output, hb.size, hb.block⟩); have HA2 := Lib.hid hr.arr; replace HA1 := Lib.hid (HA1.out.below hk); replace HG := Lib.hid (HG.out.below hk); replace HR := Lib.hid (HR.out.below hk); replace HB := Lib.hid (HB.out.trans (hk.mono HB.out.size)); clear hr hb hk; rename World => wz))
    all_goals
      go_wp2_with fail
      go_meet
      exact ⟨rfl, HB.out⟩
  case rest =>
    obtain ⟨rfl, hb⟩ := hcut
    have HG1 := Lib.hid (HG0.out.below hb)
    have HR1 := Lib.hid (HR0.out.below hb)
    have HB1 := Lib.hid hb
    clear hb HG0 HR0 HB0
    obtain ⟨w1, hw1⟩ : ∃ w1, w1 = wc := ⟨_, rfl⟩
    subst hw1
    go_wp2_with fail
    refine (gof_any g mb nn x n _ HG1.out HFn.out).mono ?_
    rintro e w2 ⟨r1, rfl, hr, hb⟩
    have HL1 := Lib.hid hr
    have HG2 := Lib.hid (HG1.out.below hb)
    have HR2 := Lib.hid (HR1.out.below hb)
    have HB2 := Lib.hid (HB1.out.trans (hb.mono HB1.out.size))
    clear hr hb
    go_wp2_with fail
    refine (rof_any b x n _ HR2.out HFn.out).mono ?_
    rintro e w3 ⟨r2, rfl, hr, hb⟩
    have HL2 := Lib.hid hr
    have HL1 := Lib.hid (HL1.out.below hb)
    have HG3 := Lib.hid (HG2.out.below hb)
    have HR3 := Lib.hid (HR2.out.below hb)
    have HB3 := Lib.hid (HB2.out.trans (hb.mono HB2.out.size))
    clear hr hb
    obtain ⟨A1, c1, rfl, hc1, hc1m⟩ := HL1.out.len
    obtain ⟨A2, c2, rfl, hc2, hc2m⟩ := HL2.out.len
    have hPl : (openL x n).length ≤ 1000 := by
      have := List.length_filter_le (openQ n) x.l
      unfold openL
      omega
    have HP := Lib.hid fun (p : Pt) (h : p ∈ openL x n) => (List.mem_filter.1 h).1
    unfold maxLen at hc1m hc2m
    generalize openL x n = P at *
    have hne : ((P.length : Int) != (P.length : Int)) = false := by simp
    go_wp2_with fail
    clear hne
    go_loopw [9] (fun i wr => ∃ k : Nat, k ≤ P.length ∧ i = .int .i64 k ∧ Below w3.heap.size w3 wr) (fun i _ => P.length - (intOf i).toNat)
    case atStart => exact ⟨0, Nat.zero_le _, rfl, Below.refl _ _⟩
    case round =>
      obtain ⟨k, hk, rfl, hbel⟩ := hrel
      have HGk := Lib.hid (HG3.out.below hbel)
      have HRk := Lib.hid (HR3.out.below hbel)
      have HBk := Lib.hid (HB3.out.trans (hbel.mono HB3.out.size))
      have HB := Lib.hid hbel
      have hsz := hbel.size
      by_cases hlt : k < P.length
      · obtain ⟨p, hp⟩ : ∃ p, P[k]? = some p := ⟨_, List.getElem?_eq_getElem hlt⟩
        obtain ⟨g1, d1, B1, n1, B2, n2, e, hpc, hpv, hg1⟩ := HL1.out.at hp
        injection e with e1 e2 e3
        subst e1 e3
        clear e2
        obtain ⟨g2, d2, D1, m1, D2, m2, e, hqc, hqv, hg2⟩ := HL2.out.at hp
        injection e with e1 e2 e3
        subst e1 e3
        clear e2
        have hpx := HP.out p (List.mem_of_getElem? hp)
        have hpf := HFn.out.all p hpx
        have y0 : wr.cell? ⟨g1, k * 9, none⟩ = some (.int .i64 p.id) := (hbel.cell (p := ⟨g1, k * 9, none⟩) hg1).trans (hpc 0 _ rfl)
        have hk0 : (0 : Int) ≤ (k : Int) := by omega
        have hk1 : (k : Int) < (P.length : Int) := by omega
        have HGet := Lib.hid (get_some g mb nn x p.id p wr HGk.out (key_wf (by have := hpf.1.2.1; omega) (by have := hpf.1.2.1; omega)) (find_id HFn.out.rise hpx) (by have := hpf.1.1.2.2; omega) (by have := hpf.2.2.2; omega))
        have HPC := Lib.hid hpc
        have HQC := Lib.hid hqc
        have HPV := Lib.hid hpv
        have HQV := Lib.hid hqv
        clear hbel hp hpc hqc hpv hqv hpf
        go_wp2_with fail
        refine HGet.out.mono ?_
        rintro e v3 ⟨r, rfl, ⟨vd, vn, rfl, hd, hn⟩, hb3⟩
        obtain ⟨E1, q1, rfl, -, -⟩ := hd.len
        obtain ⟨E2, q2, rfl, -, -⟩ := hn.len
        have HGV := Lib.hid (show PtV v3 (p.val (.slice E1 (bytes p.data).length q1) (.slice E2 (ints p.needs).length q2)) p from ⟨_, _, rfl, hd, hn⟩)
        have HB3 := Lib.hid (HB.out.trans (hb3.mono hsz))
        have hs3 := hb3.size
        clear hb3 hd hn y0
        unfold Pt.val
        go_wp2_with fail
        obtain ⟨v4, hv4⟩ : ∃ v4, v4 = v3.alloc (.cells #[.int .i64 p.id, .int .i64 p.sec, .int .i64 p.off, .slice E1 (bytes p.data).length q1, .int .i64 p.kind, .slice E2 (ints p.needs).length q2, .int .i64 p.owner, .int .i64 p.child, .bool p.written] 30) := ⟨_, rfl⟩
        rw [← hv4]
        have hX4 : Blk v4 v3.heap.size 30 #[.int .i64 p.id, .int .i64 p.sec, .int .i64 p.off, .slice E1 (bytes p.data).length q1, .int .i64 p.kind, .slice E2 (ints p.needs).length q2, .int .i64 p.owner, .int .i64 p.child, .bool p.written] := by rw [hv4]; exact Blk.new _ _ _
        have HX4 := Lib.hid hX4
        have hb4 : Below v3.heap.size v3 v4 := by rw [hv4]; exact (Below.refl _ _).alloc (Nat.le_refl _) _
        have HB4 := Lib.hid (HB3.out.trans (hb4.mono HB3.out.size))
        have HGV4 := Lib.hid (HGV.out.below hb4)
        obtain ⟨b4, hb4e⟩ : ∃ b4, b4 = v3.heap.size := ⟨_, rfl⟩
        rw [← hb4e] at hX4 HX4 ⊢
        clear hv4 hb4 hb4e
        have hl4 : b4 < v4.heap.size := hX4.lt
        have HS := Lib.hid fun (W : World) (h : Below v4.heap.size v4 W) => show (W.cell? ⟨g1, k * 9, none⟩ = some (.int .i64 p.id) ∧ W.cell? ⟨g1, k * 9 + 1, none⟩ = some (.int .i64 p.sec) ∧ W.cell? ⟨g1, k * 9 + 2, none⟩ = some (.int .i64 p.off) ∧ W.cell? ⟨g1, k * 9 + 3, none⟩ = some (.slice B1 (bytes p.data).length n1) ∧ W.cell? ⟨g1, k * 9 + 4, none⟩ = some (.int .i64 p.kind) ∧ W.cell? ⟨g1, k * 9 + 5, none⟩ = some (.slice B2 (ints p.needs).length n2) ∧ W.cell? ⟨g1, k * 9 + 6, none⟩ = some (.int .i64 p.owner) ∧ W.cell? ⟨g1, k * 9 + 7, none⟩ = some (.int .i64 p.child) ∧ W.cell? ⟨g1, k * 9 + 8, none⟩ = some (.bool p.written)) ∧ (W.cell? ⟨g2, k * 9, none⟩ = some (.int .i64 p.id) ∧ W.cell? ⟨g2, k * 9 + 1, none⟩ = some (.int .i64 p.sec) ∧ W.cell? ⟨g2, k * 9 + 2, none⟩ = some (.int .i64 p.off) ∧ W.cell? ⟨g2, k * 9 + 3, none⟩ = some (.slice D1 (bytes p.data).length m1) ∧ W.cell? ⟨g2, k * 9 + 4, none⟩ = some (.int .i64 p.kind) ∧ W.cell? ⟨g2, k * 9 + 5, none⟩ = some (.slice D2 (ints p.needs).length m2) ∧ W.cell? ⟨g2, k * 9 + 6, none⟩ = some (.int .i64 p.owner) ∧ W.cell? ⟨g2, k * 9 + 7, none⟩ = some (.int .i64 p.child) ∧ W.cell? ⟨g2, k * 9 + 8, none⟩ = some (.bool p.written)) ∧ (W.cell? ⟨b4, 0, none⟩ = some (.int .i64 p.id) ∧ W.cell? ⟨b4, 1, none⟩ = some (.int .i64 p.sec) ∧ W.cell? ⟨b4, 2, none⟩ = some (.int .i64 p.off) ∧ W.cell? ⟨b4, 3, none⟩ = some (.slice E1 (bytes p.data).length q1) ∧ W.cell? ⟨b4, 4, none⟩ = some (.int .i64 p.kind) ∧ W.cell? ⟨b4, 5, none⟩ = some (.slice E2 (ints p.needs).length q2) ∧ W.cell? ⟨b4, 6, none⟩ = some (.int .i64 p.owner) ∧ W.cell? ⟨b4, 7, none⟩ = some (.int .i64 p.child) ∧ W.cell? ⟨b4, 8, none⟩ = some (.bool p.written)) from by
          have hWW := HB4.out.trans (h.mono HB4.out.size)
          have mv : ∀ (g o : Nat) (u : Value), g < w3.heap.size → w3.cell? ⟨g, o, none⟩ = some u → W.cell? ⟨g, o, none⟩ = some u := fun g o u hg hu => (hWW.cell (p := ⟨g, o, none⟩) hg).trans hu
          have bx := (HX4.out.below h hl4).cell
          exact ⟨⟨mv _ _ _ hg1 (HPC.out 0 _ rfl), mv _ _ _ hg1 (HPC.out 1 _ rfl), mv _ _ _ hg1 (HPC.out 2 _ rfl), mv _ _ _ hg1 (HPC.out 3 _ rfl), mv _ _ _ hg1 (HPC.out 4 _ rfl), mv _ _ _ hg1 (HPC.out 5 _ rfl), mv _ _ _ hg1 (HPC.out 6 _ rfl), mv _ _ _ hg1 (HPC.out 7 _ rfl), mv _ _ _ hg1 (HPC.out 8 _ rfl)⟩,
            ⟨mv _ _ _ hg2 (HQC.out 0 _ rfl), mv _ _ _ hg2 (HQC.out 1 _ rfl), mv _ _ _ hg2 (HQC.out 2 _ rfl), mv _ _ _ hg2 (HQC.out 3 _ rfl), mv _ _ _ hg2 (HQC.out 4 _ rfl), mv _ _ _ hg2 (HQC.out 5 _ rfl), mv _ _ _ hg2 (HQC.out 6 _ rfl), mv _ _ _ hg2 (HQC.out 7 _ rfl), mv _ _ _ hg2 (HQC.out 8 _ rfl)⟩,
            ⟨bx 0, bx 1, bx 2, bx 3, bx 4, bx 5, bx 6, bx 7, bx 8⟩⟩
        have hC1 := fun (W : World) (h : Below v4.heap.size v4 W) => same_any _ _ p W (HPV.out.below (HB4.out.trans (h.mono HB4.out.size))) (HQV.out.below (HB4.out.trans (h.mono HB4.out.size)))
        have hC2 := fun (W : World) (h : Below v4.heap.size v4 W) => same_any _ _ p W (HGV4.out.below h) (HQV.out.below (HB4.out.trans (h.mono HB4.out.size)))
        unfold Pt.val at hC1 hC2
        have HC1 := Lib.hid hC1
        have HC2 := Lib.hid hC2
        have hd0 : Below v4.heap.size v4 v4.drew := (Below.refl _ _).drew
        clear hX4 hC1 hC2 HGet
        go_region_held3 (fun W => (W.cell? ⟨g1, k * 9, none⟩ = some (.int .i64 p.id) ∧ W.cell? ⟨g1, k * 9 + 1, none⟩ = some (.int .i64 p.sec) ∧ W.cell? ⟨g1, k * 9 + 2, none⟩ = some (.int .i64 p.off) ∧ W.cell? ⟨g1, k * 9 + 3, none⟩ = some (.slice B1 (bytes p.data).length n1) ∧ W.cell? ⟨g1, k * 9 + 4, none⟩ = some (.int .i64 p.kind) ∧ W.cell? ⟨g1, k * 9 + 5, none⟩ = some (.slice B2 (ints p.needs).length n2) ∧ W.cell? ⟨g1, k * 9 + 6, none⟩ = some (.int .i64 p.owner) ∧ W.cell? ⟨g1, k * 9 + 7, none⟩ = some (.int .i64 p.child) ∧ W.cell? ⟨g1, k * 9 + 8, none⟩ = some (.bool p.written)) ∧ (W.cell? ⟨g2, k * 9, none⟩ = some (.int .i64 p.id) ∧ W.cell? ⟨g2, k * 9 + 1, none⟩ = some (.int .i64 p.sec) ∧ W.cell? ⟨g2, k * 9 + 2, none⟩ = some (.int .i64 p.off) ∧ W.cell? ⟨g2, k * 9 + 3, none⟩ = some (.slice D1 (bytes p.data).length m1) ∧ W.cell? ⟨g2, k * 9 + 4, none⟩ = some (.int .i64 p.kind) ∧ W.cell? ⟨g2, k * 9 + 5, none⟩ = some (.slice D2 (ints p.needs).length m2) ∧ W.cell? ⟨g2, k * 9 + 6, none⟩ = some (.int .i64 p.owner) ∧ W.cell? ⟨g2, k * 9 + 7, none⟩ = some (.int .i64 p.child) ∧ W.cell? ⟨g2, k * 9 + 8, none⟩ = some (.bool p.written)) ∧ (W.cell? ⟨b4, 0, none⟩ = some (.int .i64 p.id) ∧ W.cell? ⟨b4, 1, none⟩ = some (.int .i64 p.sec) ∧ W.cell? ⟨b4, 2, none⟩ = some (.int .i64 p.off) ∧ W.cell? ⟨b4, 3, none⟩ = some (.slice E1 (bytes p.data).length q1) ∧ W.cell? ⟨b4, 4, none⟩ = some (.int .i64 p.kind) ∧ W.cell? ⟨b4, 5, none⟩ = some (.slice E2 (ints p.needs).length q2) ∧ W.cell? ⟨b4, 6, none⟩ = some (.int .i64 p.owner) ∧ W.cell? ⟨b4, 7, none⟩ = some (.int .i64 p.child) ∧ W.cell? ⟨b4, 8, none⟩ = some (.bool p.written)))
          (first | exact HS.out _ hbe2 | exact HS.out _ hbe1 | exact HS.out _ hd0)
          (first | (go_at_call 72; refine (HC2.out _ hbe1).mono ?_; rintro e z2 ⟨rfl, hz2⟩; have hbe2 := hbe1.trans (hz2.mono hbe1.size)) | (go_at_call 72; refine (HC1.out _ hd0).mono ?_; rintro e z1 ⟨rfl, hz1⟩; have hbe1 := hd0.trans (hz1.mono hd0.size)))
        have HBn := Lib.hid (HB4.out.trans (hbe2.mono HB4.out.size))
        clear hbe1 hbe2 hz1 hz2
        go_wp2
        go_roundw
        case rel => exact ⟨k + 1, by omega, by go_num, HBn.out⟩
        case measure => simp [intOf]; omega
      · obtain rfl : k = P.length := by omega
        clear hbel
        have hfi := findI_ref x n
        go_wp2_with fail
        rcases hfi with ⟨hf1, hf2⟩ | ⟨kk, p, hf1, hf2, hf3, hf4⟩
        · have HGet := Lib.hid (get_none g mb nn x n wr HGk.out HK.out hf1)
          have HRf := Lib.hid hf2
          clear hf1 hf2
          refine HGet.out.mono ?_
          rintro e v3 ⟨rfl, hb3⟩
          have HR3 := Lib.hid (HRk.out.below hb3)
          have HB3 := Lib.hid (HBk.out.trans (hb3.mono HBk.out.size))
          clear hb3
          unfold zeroV
          go_wp2_with fail
          obtain ⟨v4, hv4⟩ : ∃ v4, v4 = v3.alloc (.cells #[.int .i64 0, .int .i64 0, .int .i64 0, .slice none 0 0, .int .i64 0, .slice none 0 0, .int .i64 0, .int .i64 0, .bool false] 30) := ⟨_, rfl⟩
          rw [← hv4]
          have HX4 := Lib.hid (show Blk v4 v3.heap.size 30 #[.int .i64 0, .int .i64 0, .int .i64 0, .slice none 0 0, .int .i64 0, .slice none 0 0, .int .i64 0, .int .i64 0, .bool false] from by rw [hv4]; exact Blk.new _ _ _)
          have hb4 : Below v3.heap.size v3 v4 := by rw [hv4]; exact (Below.refl _ _).alloc (Nat.le_refl _) _
          have HB4 := Lib.hid (HB3.out.trans (hb4.mono HB3.out.size))
          have HR4 := Lib.hid (HR3.out.below hb4)
          obtain ⟨b4, hb4e⟩ : ∃ b4, b4 = v3.heap.size := ⟨_, rfl⟩
          rw [← hb4e] at HX4 ⊢
          have hl4 : b4 < v4.heap.size := HX4.out.lt
          clear hv4 hb4 hb4e
          refine (rget_none b x n v4 HR4.out HRf.out).mono ?_
          rintro e v5 ⟨rfl, hb5⟩
          have HX5 := Lib.hid (HX4.out.below hb5 hl4)
          have HB5 := Lib.hid (HB4.out.trans (hb5.mono HB4.out.size))
          have hs5 := hb5.size
          clear hb5
          unfold zeroV
          go_upto_region 14 with (fail)
          obtain ⟨v6, hv6⟩ : ∃ v6, v6 = v5.alloc (.cells #[.int .i64 0, .int .i64 0, .int .i64 0, .slice none 0 0, .int .i64 0, .slice none 0 0, .int .i64 0, .int .i64 0, .bool false] 30) := ⟨_, rfl⟩
          rw [← hv6]
          have HX6 := Lib.hid (show Blk v6 v5.heap.size 30 #[.int .i64 0, .int .i64 0, .int .i64 0, .slice none 0 0, .int .i64 0, .slice none 0 0, .int .i64 0, .int .i64 0, .bool false] from by rw [hv6]; exact Blk.new _ _ _)
          have HY6 := Lib.hid (show Blk v6 b4 30 #[.int .i64 0, .int .i64 0, .int .i64 0, .slice none 0 0, .int .i64 0, .slice none 0 0, .int .i64 0, .int .i64 0, .bool false] from by rw [hv6]; exact HX5.out.alloc _)
          have HB6 := Lib.hid (show Below w0.heap.size w0 v6 from by rw [hv6]; exact HB5.out.alloc HB5.out.size _)
          have hc := HX6.out.cell
          have hd := HY6.out.cell
          have s0 := hc 0
          have s1 := hc 1
          have s2 := hc 2
          have s3 := hc 3
          have s4 := hc 4
          have s5 := hc 5
          have s6 := hc 6
          have s7 := hc 7
          have s8 := hc 8
          have z0 := hd 0
          have z1 := hd 1
          have z2 := hd 2
          have z3 := hd 3
          have z4 := hd 4
          have z5 := hd 5
          have z6 := hd 6
          have z7 := hd 7
          have z8 := hd 8
          simp at s0 s1 s2 s3 s4 s5 s6 s7 s8 z0 z1 z2 z3 z4 z5 z6 z7 z8
          have HSm := Lib.hid (same_any zeroV zeroV _ v6 (zero_pt v6) (zero_pt v6))
          unfold zeroV at HSm
          clear hv6 hc hd
          go_wp2_with fail
          refine HSm.out.mono ?_
          rintro e v7 ⟨rfl, hb7⟩
          have HB7 := Lib.hid (HB6.out.trans (hb7.mono HB6.out.size))
          clear hb7
          go_wp2
          go_ret
          exact ⟨by first | rfl | simp, HB7.out⟩
        · have hpf := HFn.out.all p (List.mem_of_getElem? hf2)
          have HGet := Lib.hid (get_some g mb nn x n p wr HGk.out HK.out hf1 (by have := hpf.1.1.2.2; omega) (by have := hpf.2.2.2; omega))
          have HRf := Lib.hid fun (W : World) (h : RG W b x) => rget_some b x n kk p W h hf4 hf2 (by have := hpf.1.1.2.2; omega) (by have := hpf.2.2.2; omega) hxl
          clear hf1 hf2 hf3 hf4 hpf
          refine HGet.out.mono ?_
          rintro e v3 ⟨r, rfl, ⟨vd, vn, rfl, hd, hn⟩, hb3⟩
          obtain ⟨E1, q1, rfl, -, -⟩ := hd.len
          obtain ⟨E2, q2, rfl, -, -⟩ := hn.len
          have HGV := Lib.hid (show PtV v3 (p.val (.slice E1 (bytes p.data).length q1) (.slice E2 (ints p.needs).length q2)) p from ⟨_, _, rfl, hd, hn⟩)
          have HR3 := Lib.hid (HRk.out.below hb3)
          have HB3 := Lib.hid (HBk.out.trans (hb3.mono HBk.out.size))
          clear hb3 hd hn HGet
          unfold Pt.val
          go_wp2_with fail
          obtain ⟨v4, hv4⟩ : ∃ v4, v4 = v3.alloc (.cells #[.int .i64 p.id, .int .i64 p.sec, .int .i64 p.off, .slice E1 (bytes p.data).length q1, .int .i64 p.kind, .slice E2 (ints p.needs).length q2, .int .i64 p.owner, .int .i64 p.child, .bool p.written] 30) := ⟨_, rfl⟩
          rw [← hv4]
          have HX4 := Lib.hid (show Blk v4 v3.heap.size 30 #[.int .i64 p.id, .int .i64 p.sec, .int .i64 p.off, .slice E1 (bytes p.data).length q1, .int .i64 p.kind, .slice E2 (ints p.needs).length q2, .int .i64 p.owner, .int .i64 p.child, .bool p.written] from by rw [hv4]; exact Blk.new _ _ _)
          have hb4 : Below v3.heap.size v3 v4 := by rw [hv4]; exact (Below.refl _ _).alloc (Nat.le_refl _) _
          have HB4 := Lib.hid (HB3.out.trans (hb4.mono HB3.out.size))
          have HR4 := Lib.hid (HR3.out.below hb4)
          have HGV4 := Lib.hid (HGV.out.below hb4)
          obtain ⟨b4, hb4e⟩ : ∃ b4, b4 = v3.heap.size := ⟨_, rfl⟩
          rw [← hb4e] at HX4 ⊢
          have hl4 : b4 < v4.heap.size := HX4.out.lt
          clear hv4 hb4 hb4e
          refine (HRf.out v4 HR4.out).mono ?_
          rintro e v5 ⟨r, rfl, ⟨vd, vn, rfl, hd, hn⟩, hb5⟩
          obtain ⟨F1, t1, rfl, -, -⟩ := hd.len
          obtain ⟨F2, t2, rfl, -, -⟩ := hn.len
          have HRV := Lib.hid (show PtV v5 (p.val (.slice F1 (bytes p.data).length t1) (.slice F2 (ints p.needs).length t2)) p from ⟨_, _, rfl, hd, hn⟩)
          have HX5 := Lib.hid (HX4.out.below hb5 hl4)
          have HGV5 := Lib.hid (HGV4.out.below hb5)
          have HB5 := Lib.hid (HB4.out.trans (hb5.mono HB4.out.size))
          have hs5 := hb5.size
          clear hb5 hd hn HRf
          unfold Pt.val
          go_upto_region 14 with (fail)
          obtain ⟨v6, hv6⟩ : ∃ v6, v6 = v5.alloc (.cells #[.int .i64 p.id, .int .i64 p.sec, .int .i64 p.off, .slice F1 (bytes p.data).length t1, .int .i64 p.kind, .slice F2 (ints p.needs).length t2, .int .i64 p.owner, .int .i64 p.child, .bool p.written] 30) := ⟨_, rfl⟩
          rw [← hv6]
          have HX6 := Lib.hid (show Blk v6 v5.heap.size 30 #[.int .i64 p.id, .int .i64 p.sec, .int .i64 p.off, .slice F1 (bytes p.data).length t1, .int .i64 p.kind, .slice F2 (ints p.needs).length t2, .int .i64 p.owner, .int .i64 p.child, .bool p.written] from by rw [hv6]; exact Blk.new _ _ _)
          have HY6 := Lib.hid (show Blk v6 b4 30 #[.int .i64 p.id, .int .i64 p.sec, .int .i64 p.off, .slice E1 (bytes p.data).length q1, .int .i64 p.kind, .slice E2 (ints p.needs).length q2, .int .i64 p.owner, .int .i64 p.child, .bool p.written] from by rw [hv6]; exact HX5.out.alloc _)
          have hb6 : Below v5.heap.size v5 v6 := by rw [hv6]; exact (Below.refl _ _).alloc (Nat.le_refl _) _
          have HB6 := Lib.hid (HB5.out.trans (hb6.mono HB5.out.size))
          have HSm := Lib.hid (same_any _ _ p v6 (HGV5.out.below hb6) (HRV.out.below hb6))
          unfold Pt.val at HSm
          have hc := HX6.out.cell
          have hd := HY6.out.cell
          have s0 := hc 0
          have s1 := hc 1
          have s2 := hc 2
          have s3 := hc 3
          have s4 := hc 4
          have s5 := hc 5
          have s6 := hc 6
          have s7 := hc 7
          have s8 := hc 8
          have z0 := hd 0
          have z1 := hd 1
          have z2 := hd 2
          have z3 := hd 3
          have z4 := hd 4
          have z5 := hd 5
          have z6 := hd 6
          have z7 := hd 7
          have z8 := hd 8
          simp at s0 s1 s2 s3 s4 s5 s6 s7 s8 z0 z1 z2 z3 z4 z5 z6 z7 z8
          clear hv6 hc hd hb6
          go_wp2_with fail
          refine HSm.out.mono ?_
          rintro e v7 ⟨rfl, hb7⟩
          have HB7 := Lib.hid (HB6.out.trans (hb7.mono HB6.out.size))
          clear hb7
          go_wp2
          go_ret
          exact ⟨by first | rfl | simp, HB7.out⟩
end Go.Proofs.Ytmkfaibjjbgbbaa
namespace Go.Proofs.Ytmkfaibjjbgbbaa
open Go.RowKit
set_option linter.unusedVariables false
attribute [local go_sem ↓] Go.wp_at_zero Go.wp_at_succ

def nearF (last k : Int) : Int := last - amongF k last
def Pt.near (p : Pt) (near : Bool) (last : Int) : Pt := if near = true ∧ 0 < last then { p.few with needs := p.few.needs.map (nearF last) } else p.few
def actV (d n : Int) (p : Pt) (vd vn : Value) (near : Bool) : Value :=
  .agg #[.int .i64 d, .int .i64 n, .int .i64 p.id, .int .i64 p.sec, .int .i64 p.off, vd, .int .i64 p.kind, vn, .int .i64 p.owner, .int .i64 p.child, .bool p.written, .bool near]

def mixF (f : Int → Int) (k : Nat) (l : List Int) : List Int := (l.take k).map f ++ l.drop k
theorem mix_zero (f : Int → Int) (l : List Int) : mixF f 0 l = l := by simp [mixF]
theorem mix_all (f : Int → Int) (l : List Int) : mixF f l.length l = l.map f := by simp [mixF]
theorem mix_len (f : Int → Int) (k : Nat) (l : List Int) : (mixF f k l).length = l.length := by simp [mixF]; omega
theorem mix_at (f : Int → Int) {k : Nat} {l : List Int} {x : Int} (h : l[k]? = some x) : (mixF f k l)[k]? = some x := by
  have hk : k < l.length := by
    rcases Nat.lt_or_ge k l.length with h1 | h1
    · exact h1
    · rw [List.getElem?_eq_none h1] at h; cases h
  unfold mixF
  rw [List.getElem?_append_right (by simp; omega)]
  simp
  rw [show min k l.length = k by omega]
  simpa using h
theorem mix_on (f : Int → Int) {k : Nat} {l : List Int} {x : Int} (h : l[k]? = some x) : (mixF f k l).set k (f x) = mixF f (k + 1) l := by
  have hk : k < l.length := by
    rcases Nat.lt_or_ge k l.length with h1 | h1
    · exact h1
    · rw [List.getElem?_eq_none h1] at h; cases h
  have hx : l[k] = x := by rw [List.getElem?_eq_getElem hk] at h; exact Option.some.inj h
  have e : k - ((l.take k).map f).length = 0 := by simp; omega
  have e2 : l.drop k = x :: l.drop (k + 1) := by rw [List.drop_eq_getElem_cons hk, hx]
  unfold mixF
  rw [List.set_append, if_neg (by simp; omega), e, e2, List.set_cons_zero, List.take_add_one, h, List.map_append, List.append_assoc]
  rfl

set_option maxHeartbeats 2000000 in
theorem patch_any (d n : Int) (near : Bool) (vd vn : Value) (p : Pt) (last : Int) (w : World) (hd : Row w vd (bytes p.data)) (hn : Row w vn (ints p.needs)) (hl : 0 ≤ last ∧ last ≤ 1000) :
    Calls Try.prog 14 #[actV d n p vd vn near, .int .i64 last] w fun e w' => ∃ ud un, e = .returned ((p.near near last).val ud un) ∧ w'.ownsRow w.heap.size 5 1 ud (p.near near last).data.length (bytes (p.near near last).data) ∧ Built w.heap.size w' un (p.near near last).needs ∧ Apart ud un ∧ Below w.heap.size w w' := by
  have HF := Lib.hid fun (W : World) (h : Below w.heap.size w W) => few_any vd vn p W (hd.below h) (hn.below h)
  have HAm := Lib.hid fun (k : Int) (W : World) (h : 0 < last) => among_any k last W (by omega) (by omega)
  clear hd hn
  have hq6 : p.few.needs.length ≤ 6 := by unfold Pt.few; simp; omega
  obtain ⟨pn, hpn⟩ : ∃ pn, pn = p.near near last := ⟨_, rfl⟩
  obtain ⟨q, hq⟩ : ∃ q, q = p.few := ⟨_, rfl⟩
  rw [← hpn]
  rw [← hq] at HF hq6
  have HN := Lib.hid (show pn = if near = true ∧ 0 < last then { q with needs := q.needs.map (nearF last) } else q from by rw [hpn, hq]; rfl)
  clear hpn hq
  obtain ⟨hl0, hl1⟩ := hl
  unfold actV Pt.val at *
  go_enter Try.func14, Try.ntmps14
  go_wp2_with fail
  refine (HF.out _ (((Below.refl _ _).alloc (Nat.le_refl _) _).alloc (by simp) _)).mono ?_
  rintro e w1 ⟨ud, un, rfl, hu, hun, hapr, hb⟩
  obtain ⟨A, m1, c1, rfl⟩ := owns_shape hu
  obtain ⟨B, m2, c2, rfl⟩ := owns_shape hun
  obtain rfl : m2 = q.needs.length := by
    obtain ⟨A', c', e, _⟩ := hun.arr.len
    injection e with _ e _
    rw [ints_len] at e
    exact e
  have hs1 := hb.size
  simp at hs1
  have HU := Lib.hid hu
  have HUN := Lib.hid hun
  have H4 := Lib.hid ((show Blk ((w.alloc (.cells #[.int .i64 d, .int .i64 n, .int .i64 p.id, .int .i64 p.sec, .int .i64 p.off, vd, .int .i64 p.kind, vn, .int .i64 p.owner, .int .i64 p.child, .bool p.written, .bool near] 32)).alloc (.cells #[.int .i64 0, .int .i64 0, .int .i64 0, .slice none 0 0, .int .i64 0, .slice none 0 0, .int .i64 0, .int .i64 0, .bool false] 30)) (w.heap.size + 1) 30 #[.int .i64 0, .int .i64 0, .int .i64 0, .slice none 0 0, .int .i64 0, .slice none 0 0, .int .i64 0, .int .i64 0, .bool false] from by
    have := Blk.new (w.alloc (.cells #[.int .i64 d, .int .i64 n, .int .i64 p.id, .int .i64 p.sec, .int .i64 p.off, vd, .int .i64 p.kind, vn, .int .i64 p.owner, .int .i64 p.child, .bool p.written, .bool near] 32)) 30 #[.int .i64 0, .int .i64 0, .int .i64 0, .slice none 0 0, .int .i64 0, .slice none 0 0, .int .i64 0, .int .i64 0, .bool false]
    simpa using this).below hb (by simp))
  have H2 := Lib.hid (((Blk.new w 32 #[.int .i64 d, .int .i64 n, .int .i64 p.id, .int .i64 p.sec, .int .i64 p.off, vd, .int .i64 p.kind, vn, .int .i64 p.owner, .int .i64 p.child, .bool p.written, .bool near]).alloc (.cells #[.int .i64 0, .int .i64 0, .int .i64 0, .slice none 0 0, .int .i64 0, .slice none 0 0, .int .i64 0, .int .i64 0, .bool false] 30)).below hb (by simp; omega))
  have HB1 := Lib.hid ((((Below.refl w.heap.size w).alloc (Nat.le_refl _) (.cells #[.int .i64 d, .int .i64 n, .int .i64 p.id, .int .i64 p.sec, .int .i64 p.off, vd, .int .i64 p.kind, vn, .int .i64 p.owner, .int .i64 p.child, .bool p.written, .bool near] 32)).alloc (by simp) (.cells #[.int .i64 0, .int .i64 0, .int .i64 0, .slice none 0 0, .int .i64 0, .slice none 0 0, .int .i64 0, .int .i64 0, .bool false] 30)).trans (hb.mono (by simp; omega)))
  clear hb hu hun
  go_wp2_with fail
  obtain ⟨w2, hw2⟩ : ∃ w2, w2 = w1.alloc (.cells #[.int .i64 q.id, .int .i64 q.sec, .int .i64 q.off, .slice A m1 c1, .int .i64 q.kind, .slice B q.needs.length c2, .int .i64 q.owner, .int .i64 q.child, .bool q.written] 30) := ⟨_, rfl⟩
  rw [← hw2]
  have H5 := Lib.hid (show Blk w2 w1.heap.size 30 #[.int .i64 q.id, .int .i64 q.sec, .int .i64 q.off, .slice A m1 c1, .int .i64 q.kind, .slice B q.needs.length c2, .int .i64 q.owner, .int .i64 q.child, .bool q.written] from by rw [hw2]; exact Blk.new _ _ _)
  have HB2 := Lib.hid (show Below w.heap.size w w2 from by rw [hw2]; exact HB1.out.alloc HB1.out.size _)
  have HU2 := Lib.hid (show w2.ownsRow (w.heap.size + 2) 5 1 (.slice A m1 c1) q.data.length (bytes q.data) from by rw [hw2]; exact World.ownsRow.alloc (owns_mono HU.out (by simp)) _)
  have hun2 : Built (w.heap.size + 2) w2 (.slice B q.needs.length c2) q.needs := by rw [hw2]; exact World.ownsRow.alloc (owns_mono HUN.out (by simp)) _
  have H4' := Lib.hid (show Blk w2 (w.heap.size + 1) 30 #[.int .i64 0, .int .i64 0, .int .i64 0, .slice none 0 0, .int .i64 0, .slice none 0 0, .int .i64 0, .int .i64 0, .bool false] from by rw [hw2]; exact H4.out.alloc _)
  have H2' := Lib.hid (show Blk w2 w.heap.size 32 #[.int .i64 d, .int .i64 n, .int .i64 p.id, .int .i64 p.sec, .int .i64 p.off, vd, .int .i64 p.kind, vn, .int .i64 p.owner, .int .i64 p.child, .bool p.written, .bool near] from by rw [hw2]; exact H2.out.alloc _)
  have hs2 : w2.heap.size = w1.heap.size + 1 := by rw [hw2]; simp
  have hap : ∀ j, (Value.slice B q.needs.length c2).ownBlock = some j → w.heap.size + 2 ≤ j ∧ j < w1.heap.size := fun j hj => by
    have h1 := hun2.own j hj
    have h2 := HUN.out.own j hj
    exact ⟨h1.1, h2.2⟩
  have HAp := Lib.hid hap
  have HAb := Lib.hid (show ∀ j, (Value.slice A m1 c1).ownBlock = some j → (Value.slice B q.needs.length c2).ownBlock = some j → False from hapr)
  clear hapr
  have HUN2 := Lib.hid hun2
  clear H4 H2 HU HUN HB1 hw2 hap hun2
  go_loopw [6] (fun i wr => ∃ k : Nat, k ≤ q.needs.length ∧ i = .int .i64 k ∧ Turn (fun j => (Value.slice B q.needs.length c2).ownBlock = some j) w2 wr ∧ Built (w.heap.size + 2) wr (.slice B q.needs.length c2) (mixF (nearF last) k q.needs) ∧ Hid (k = 0 ∨ (near = true ∧ 0 < last))) (fun i _ => q.needs.length - (intOf i).toNat)
  case atStart => exact ⟨0, Nat.zero_le _, rfl, Turn.refl _ _, by rw [mix_zero]; exact HUN2.out, .inl rfl⟩
  case round =>
    obtain ⟨k, hk, rfl, hT, hO, hC⟩ := hrel
    have HT := Lib.hid hT
    have HO := Lib.hid hO
    have n5 : ¬ (Value.slice B q.needs.length c2).ownBlock = some w1.heap.size := fun e => by have := (HAp.out _ e).2; omega
    have n4 : ¬ (Value.slice B q.needs.length c2).ownBlock = some (w.heap.size + 1) := fun e => by have := (HAp.out _ e).1; omega
    have n2 : ¬ (Value.slice B q.needs.length c2).ownBlock = some w.heap.size := fun e => by have := (HAp.out _ e).1; omega
    have hk5 := H5.out.turn hT n5
    have hk4 := H4'.out.turn hT n4
    have hk2 := H2'.out.turn hT n2
    have g11 := hk2.cell 11
    have g5 := hk5.cell 5
    simp at g5 g11
    have hsz := hT.size
    have l5 : w1.heap.size < wr.heap.size := by omega
    have l4 : w.heap.size + 1 < wr.heap.size := by omega
    have l2 : w.heap.size < wr.heap.size := by omega
    by_cases hc : k < q.needs.length ∧ near = true ∧ 0 < last
    · obtain ⟨hlt, rfl, hlast⟩ := hc
      obtain ⟨y, hy⟩ : ∃ y, q.needs[k]? = some y := ⟨_, List.getElem?_eq_getElem hlt⟩
      obtain ⟨g, c3, e, hgl, hgw⟩ := World.ownsRow.form hO (by rw [mix_len]; omega)
      injection e with eB e1 e2
      subst eB e2
      clear e1
      have hO' : wr.ownsRow (w.heap.size + 2) 3 1 (.slice (some ⟨g, 0, none⟩) q.needs.length c2) q.needs.length (ints (mixF (nearF last) k q.needs)) := by
        have h := hO
        unfold Built at h
        rw [mix_len] at h
        exact h
      have hcg : wr.cell? ⟨g, k, none⟩ = some (.int .i64 y) := (World.ownsRow.cellAt hO' k (by omega)).trans (ints_at (mix_at _ hy))
      have hfg := World.ownsRow.frozenAt hO' k
      obtain ⟨hst, hgr⟩ := World.ownsRow.stored hO' k (.int .i64 (nearF last y))
      have hbd := among_bd y last (by omega)
      have HBn := Lib.hid (show IntKind.i64.wrap (last - amongF y last) = nearF last y from IntWalk.i64_in _ (by omega) |>.trans rfl)
      have HST := Lib.hid (show Built (w.heap.size + 2) (wr.setCell ⟨g, k, none⟩ (.int .i64 (nearF last y))) (.slice (some ⟨g, 0, none⟩) q.needs.length c2) (mixF (nearF last) (k + 1) q.needs) from by
        unfold Built
        rw [mix_len, ← mix_on _ hy]
        have := hst
        unfold ints at this ⊢
        rwa [← List.map_set] at this)
      have HTT := Lib.hid ((HT.out.setCell (p := ⟨g, k, none⟩) (fun _ => rfl) (.int .i64 (nearF last y))))
      clear hk5 hk4 hk2 hT hO hO' hst hgr n5 n4 n2 hy
      have HMl := Lib.hid fun (W : World) => HAm.out y W hlast
      go_wp2_with fail
      go_region_with (go_at_call 12; refine (HMl.out _).mono ?_; rintro e wx ⟨rfl, rfl⟩)
      all_goals
        rw [HBn.out]
        go_wp2
        go_roundw
        case rel => exact ⟨k + 1, by omega, by go_num, HTT.out.drew, HST.out, by unfold Hid; exact .inr (by simpa using hlast)⟩
        case measure => simp [intOf]; omega
    · have HUk := Lib.hid (owns_keep HU2.out (fun j hj => HT.out.block j (World.ownsRow.lt HU2.out j hj).2 (fun e => HAb.out j hj e)))
      have HW2 := Lib.hid (HB2.out.trans (hT.below (B := w.heap.size) (by omega) (fun i hi e => by have := (HAp.out _ e).1; omega)))
      have HEnd := Lib.hid (show mixF (nearF last) k q.needs = pn.needs ∧ pn.id = q.id ∧ pn.sec = q.sec ∧ pn.off = q.off ∧ pn.data = q.data ∧ pn.kind = q.kind ∧ pn.owner = q.owner ∧ pn.child = q.child ∧ pn.written = q.written ∧ True from by
        rw [HN.out]
        by_cases hcc : near = true ∧ 0 < last
        · rw [if_pos hcc]
          have : k = q.needs.length := by
            rcases Nat.lt_or_ge k q.needs.length with h | h
            · exact absurd ⟨h, hcc⟩ hc
            · omega
          subst this
          exact ⟨mix_all _ _, rfl, rfl, rfl, rfl, rfl, rfl, rfl, rfl, trivial⟩
        · rw [if_neg hcc]
          obtain rfl : k = 0 := (hC.out).resolve_right hcc
          exact ⟨mix_zero _ _, rfl, rfl, rfl, rfl, rfl, rfl, rfl, rfl, trivial⟩)
      have e := hk4.frozen
      have e0 := e 0
      have e1 := e 1
      have e2 := e 2
      have e3 := e 3
      have e4 := e 4
      have e5 := e 5
      have e6 := e 6
      have e7 := e 7
      have e8 := e 8
      have h5c := hk5.cell
      have y0 := h5c 0
      have y1 := h5c 1
      have y2 := h5c 2
      have y3 := h5c 3
      have y4 := h5c 4
      have y6 := h5c 6
      have y7 := h5c 7
      have y8 := h5c 8
      simp at y0 y1 y2 y3 y4 y6 y7 y8
      have x := hk4.cell
      have x0 := x 0
      have x1 := x 1
      have x2 := x 2
      have x3 := x 3
      have x4 := x 4
      have x5 := x 5
      have x6 := x 6
      have x7 := x 7
      have x8 := x 8
      simp at x0 x1 x2 x3 x4 x5 x6 x7 x8
      clear e h5c x hk5 hk2 hT hO n5 n4 n2
      have hcases : (¬ k < q.needs.length) ∨ (k < q.needs.length ∧ near = false) ∨ (k < q.needs.length ∧ near = true ∧ ¬ 0 < last) := by
        by_cases h1 : k < q.needs.length
        · cases near with
          | false => exact .inr (.inl ⟨h1, rfl⟩)
          | true => exact .inr (.inr ⟨h1, rfl, fun h => hc ⟨h1, rfl, h⟩⟩)
        · exact .inl h1
      clear hc
      have HK4 := Lib.hid hk4
      clear hk4
      rcases hcases with hlt | ⟨hlt, rfl⟩ | ⟨hlt, rfl, hlast⟩
      · go_wp2
        have F := (((((((((HK4.out.set_ 0 (.int .i64 q.id)).set_ 1 (.int .i64 q.sec)).set_ 2 (.int .i64 q.off)).set_ 3 (.slice A m1 c1)).set_ 4 (.int .i64 q.kind)).set_ 5 (.slice B q.needs.length c2)).set_ 6 (.int .i64 q.owner)).set_ 7 (.int .i64 q.child)).set_ 8 (.bool q.written))
        have T := (((((((((Turn.refl (fun j => j = w.heap.size + 1) wr).setCell (p := ⟨w.heap.size + 1, 0, none⟩) (fun _ => rfl) (.int .i64 q.id)).setCell (p := ⟨w.heap.size + 1, 1, none⟩) (fun _ => rfl) (.int .i64 q.sec)).setCell (p := ⟨w.heap.size + 1, 2, none⟩) (fun _ => rfl) (.int .i64 q.off)).setCell (p := ⟨w.heap.size + 1, 3, none⟩) (fun _ => rfl) (.slice A m1 c1)).setCell (p := ⟨w.heap.size + 1, 4, none⟩) (fun _ => rfl) (.int .i64 q.kind)).setCell (p := ⟨w.heap.size + 1, 5, none⟩) (fun _ => rfl) (.slice B q.needs.length c2)).setCell (p := ⟨w.heap.size + 1, 6, none⟩) (fun _ => rfl) (.int .i64 q.owner)).setCell (p := ⟨w.heap.size + 1, 7, none⟩) (fun _ => rfl) (.int .i64 q.child)).setCell (p := ⟨w.heap.size + 1, 8, none⟩) (fun _ => rfl) (.bool q.written)
        have z0 := F.cell 0
        have z1 := F.cell 1
        have z2 := F.cell 2
        have z3 := F.cell 3
        have z4 := F.cell 4
        have z5 := F.cell 5
        have z6 := F.cell 6
        have z7 := F.cell 7
        have z8 := F.cell 8
        generalize ((((((((wr.setCell ⟨w.heap.size + 1, 0, none⟩ (.int .i64 q.id)).setCell ⟨w.heap.size + 1, 1, none⟩ (.int .i64 q.sec)).setCell ⟨w.heap.size + 1, 2, none⟩ (.int .i64 q.off)).setCell ⟨w.heap.size + 1, 3, none⟩ (.slice A m1 c1)).setCell ⟨w.heap.size + 1, 4, none⟩ (.int .i64 q.kind)).setCell ⟨w.heap.size + 1, 5, none⟩ (.slice B q.needs.length c2)).setCell ⟨w.heap.size + 1, 6, none⟩ (.int .i64 q.owner)).setCell ⟨w.heap.size + 1, 7, none⟩ (.int .i64 q.child)).setCell ⟨w.heap.size + 1, 8, none⟩ (.bool q.written) = X at *
        simp at z0 z1 z2 z3 z4 z5 z6 z7 z8
        have hbl := HW2.out.trans (T.below (B := w.heap.size) (by omega) (fun i hi e => by omega))
        have hA2 := owns_mono (owns_keep HUk.out (fun g hg => by
          have := World.ownsRow.lt HUk.out g hg
          exact T.block g this.2 (by omega))) (show w.heap.size ≤ w.heap.size + 2 by omega)
        have hB2 := Built.mono (owns_keep HO.out (fun g hg => by
          have := World.ownsRow.lt HO.out g hg
          exact T.block g this.2 (by omega))) (show w.heap.size ≤ w.heap.size + 2 by omega)
        obtain ⟨en, v0, v1, v2, v3, v4, v6, v7, v8, -⟩ := HEnd.out
        rw [en] at hB2
        rw [← v3] at hA2
        exact bodyPost_ret (v := pn.val (.slice A m1 c1) (.slice B q.needs.length c2)) (by simp [results, Try.results14, go_sem, Pt.val, v0, v1, v2, v4, v6, v7, v8, z0, z1, z2, z3, z4, z5, z6, z7, z8]) rfl ⟨_, _, rfl, hA2, hB2, HAb.out, hbl⟩
      · go_wp2
        have F := (((((((((HK4.out.set_ 0 (.int .i64 q.id)).set_ 1 (.int .i64 q.sec)).set_ 2 (.int .i64 q.off)).set_ 3 (.slice A m1 c1)).set_ 4 (.int .i64 q.kind)).set_ 5 (.slice B q.needs.length c2)).set_ 6 (.int .i64 q.owner)).set_ 7 (.int .i64 q.child)).set_ 8 (.bool q.written))
        have T := (((((((((Turn.refl (fun j => j = w.heap.size + 1) wr).setCell (p := ⟨w.heap.size + 1, 0, none⟩) (fun _ => rfl) (.int .i64 q.id)).setCell (p := ⟨w.heap.size + 1, 1, none⟩) (fun _ => rfl) (.int .i64 q.sec)).setCell (p := ⟨w.heap.size + 1, 2, none⟩) (fun _ => rfl) (.int .i64 q.off)).setCell (p := ⟨w.heap.size + 1, 3, none⟩) (fun _ => rfl) (.slice A m1 c1)).setCell (p := ⟨w.heap.size + 1, 4, none⟩) (fun _ => rfl) (.int .i64 q.kind)).setCell (p := ⟨w.heap.size + 1, 5, none⟩) (fun _ => rfl) (.slice B q.needs.length c2)).setCell (p := ⟨w.heap.size + 1, 6, none⟩) (fun _ => rfl) (.int .i64 q.owner)).setCell (p := ⟨w.heap.size + 1, 7, none⟩) (fun _ => rfl) (.int .i64 q.child)).setCell (p := ⟨w.heap.size + 1, 8, none⟩) (fun _ => rfl) (.bool q.written)
        have z0 := F.cell 0
        have z1 := F.cell 1
        have z2 := F.cell 2
        have z3 := F.cell 3
        have z4 := F.cell 4
        have z5 := F.cell 5
        have z6 := F.cell 6
        have z7 := F.cell 7
        have z8 := F.cell 8
        generalize ((((((((wr.setCell ⟨w.heap.size + 1, 0, none⟩ (.int .i64 q.id)).setCell ⟨w.heap.size + 1, 1, none⟩ (.int .i64 q.sec)).setCell ⟨w.heap.size + 1, 2, none⟩ (.int .i64 q.off)).setCell ⟨w.heap.size + 1, 3, none⟩ (.slice A m1 c1)).setCell ⟨w.heap.size + 1, 4, none⟩ (.int .i64 q.kind)).setCell ⟨w.heap.size + 1, 5, none⟩ (.slice B q.needs.length c2)).setCell ⟨w.heap.size + 1, 6, none⟩ (.int .i64 q.owner)).setCell ⟨w.heap.size + 1, 7, none⟩ (.int .i64 q.child)).setCell ⟨w.heap.size + 1, 8, none⟩ (.bool q.written) = X at *
        simp at z0 z1 z2 z3 z4 z5 z6 z7 z8
        have hbl := HW2.out.trans (T.below (B := w.heap.size) (by omega) (fun i hi e => by omega))
        have hA2 := owns_mono (owns_keep HUk.out (fun g hg => by
          have := World.ownsRow.lt HUk.out g hg
          exact T.block g this.2 (by omega))) (show w.heap.size ≤ w.heap.size + 2 by omega)
        have hB2 := Built.mono (owns_keep HO.out (fun g hg => by
          have := World.ownsRow.lt HO.out g hg
          exact T.block g this.2 (by omega))) (show w.heap.size ≤ w.heap.size + 2 by omega)
        obtain ⟨en, v0, v1, v2, v3, v4, v6, v7, v8, -⟩ := HEnd.out
        rw [en] at hB2
        rw [← v3] at hA2
        exact bodyPost_ret (v := pn.val (.slice A m1 c1) (.slice B q.needs.length c2)) (by simp [results, Try.results14, go_sem, Pt.val, v0, v1, v2, v4, v6, v7, v8, z0, z1, z2, z3, z4, z5, z6, z7, z8]) rfl ⟨_, _, rfl, hA2, hB2, HAb.out, hbl⟩
      · go_wp2
        have F := (((((((((HK4.out.set_ 0 (.int .i64 q.id)).set_ 1 (.int .i64 q.sec)).set_ 2 (.int .i64 q.off)).set_ 3 (.slice A m1 c1)).set_ 4 (.int .i64 q.kind)).set_ 5 (.slice B q.needs.length c2)).set_ 6 (.int .i64 q.owner)).set_ 7 (.int .i64 q.child)).set_ 8 (.bool q.written))
        have T := (((((((((Turn.refl (fun j => j = w.heap.size + 1) wr).setCell (p := ⟨w.heap.size + 1, 0, none⟩) (fun _ => rfl) (.int .i64 q.id)).setCell (p := ⟨w.heap.size + 1, 1, none⟩) (fun _ => rfl) (.int .i64 q.sec)).setCell (p := ⟨w.heap.size + 1, 2, none⟩) (fun _ => rfl) (.int .i64 q.off)).setCell (p := ⟨w.heap.size + 1, 3, none⟩) (fun _ => rfl) (.slice A m1 c1)).setCell (p := ⟨w.heap.size + 1, 4, none⟩) (fun _ => rfl) (.int .i64 q.kind)).setCell (p := ⟨w.heap.size + 1, 5, none⟩) (fun _ => rfl) (.slice B q.needs.length c2)).setCell (p := ⟨w.heap.size + 1, 6, none⟩) (fun _ => rfl) (.int .i64 q.owner)).setCell (p := ⟨w.heap.size + 1, 7, none⟩) (fun _ => rfl) (.int .i64 q.child)).setCell (p := ⟨w.heap.size + 1, 8, none⟩) (fun _ => rfl) (.bool q.written)
        have z0 := F.cell 0
        have z1 := F.cell 1
        have z2 := F.cell 2
        have z3 := F.cell 3
        have z4 := F.cell 4
        have z5 := F.cell 5
        have z6 := F.cell 6
        have z7 := F.cell 7
        have z8 := F.cell 8
        generalize ((((((((wr.setCell ⟨w.heap.size + 1, 0, none⟩ (.int .i64 q.id)).setCell ⟨w.heap.size + 1, 1, none⟩ (.int .i64 q.sec)).setCell ⟨w.heap.size + 1, 2, none⟩ (.int .i64 q.off)).setCell ⟨w.heap.size + 1, 3, none⟩ (.slice A m1 c1)).setCell ⟨w.heap.size + 1, 4, none⟩ (.int .i64 q.kind)).setCell ⟨w.heap.size + 1, 5, none⟩ (.slice B q.needs.length c2)).setCell ⟨w.heap.size + 1, 6, none⟩ (.int .i64 q.owner)).setCell ⟨w.heap.size + 1, 7, none⟩ (.int .i64 q.child)).setCell ⟨w.heap.size + 1, 8, none⟩ (.bool q.written) = X at *
        simp at z0 z1 z2 z3 z4 z5 z6 z7 z8
        have hbl := HW2.out.trans (T.below (B := w.heap.size) (by omega) (fun i hi e => by omega))
        have hA2 := owns_mono (owns_keep HUk.out (fun g hg => by
          have := World.ownsRow.lt HUk.out g hg
          exact T.block g this.2 (by omega))) (show w.heap.size ≤ w.heap.size + 2 by omega)
        have hB2 := Built.mono (owns_keep HO.out (fun g hg => by
          have := World.ownsRow.lt HO.out g hg
          exact T.block g this.2 (by omega))) (show w.heap.size ≤ w.heap.size + 2 by omega)
        obtain ⟨en, v0, v1, v2, v3, v4, v6, v7, v8, -⟩ := HEnd.out
        rw [en] at hB2
        rw [← v3] at hA2
        exact bodyPost_ret (v := pn.val (.slice A m1 c1) (.slice B q.needs.length c2)) (by simp [results, Try.results14, go_sem, Pt.val, v0, v1, v2, v4, v6, v7, v8, z0, z1, z2, z3, z4, z5, z6, z7, z8]) rfl ⟨_, _, rfl, hA2, hB2, HAb.out, hbl⟩
end Go.Proofs.Ytmkfaibjjbgbbaa
namespace Go.Proofs.Ytmkfaibjjbgbbaa
open Go.RowKit
set_option linter.unusedVariables false

/-- An act as it lies in a slice. -/
structure ActD where
  dn : Int
  nn : Int
  p : Pt
  vd : Value
  vn : Value
  near : Bool
def ActD.cells (a : ActD) : Array Value :=
  #[.int .i64 a.dn, .int .i64 a.nn, .int .i64 a.p.id, .int .i64 a.p.sec, .int .i64 a.p.off, a.vd, .int .i64 a.p.kind, a.vn, .int .i64 a.p.owner, .int .i64 a.p.child, .bool a.p.written, .bool a.near]
def ActsR (w : World) (A : Option Addr) (n : Nat) (l : List ActD) : Prop :=
  l.length = n ∧ ∀ (i : Nat) (a : ActD), l[i]? = some a → (∃ g o, A = some ⟨g, o, none⟩ ∧ g < w.heap.size ∧ ∀ (j : Nat) (u : Value), a.cells[j]? = some u → w.cell? ⟨g, o + i * 12 + j, none⟩ = some u) ∧ Row w a.vd (bytes a.p.data) ∧ Row w a.vn (ints a.p.needs)

theorem Mid.le {x y : G} {T : List Int} {c : Nat} (h : Mid x y T c) : c ≤ x.l.length := by
  rw [← h.len, ← h.cnt]
  exact List.length_filter_le _ _
theorem PtV.of_own {w : World} {b : Nat} {p : Pt} {ud un : Value} (h1 : w.ownsRow b 5 1 ud p.data.length (bytes p.data)) (h2 : Built b w un p.needs) : PtV w (p.val ud un) p := ⟨ud, un, rfl, Arr.of_own h1, h2.arr⟩
theorem near_len (p : Pt) (near : Bool) (last : Int) : (p.near near last).data.length ≤ 1000 ∧ (p.near near last).needs.length ≤ 1000 := by
  unfold Pt.near Pt.few
  split <;> simp <;> omega

set_option maxHeartbeats 4000000 in
set_option maxRecDepth 100000 in
theorem goes_any (A : Option Addr) (n c : Nat) (l : List ActD) (w : World) (hA : ActsR w A n l) (hn : n ≤ c) (hc : c ≤ 9223372036854775807) :
    Calls Try.prog 3 #[.slice A n c] w fun e w' => e = .returned (.bool true) ∧ Below w.heap.size w w' := by
  have HA := Lib.hid hA
  clear hA
  go_enter Try.func3, Try.ntmps3
  go_wp2_with fail
  refine (works_any w).mono ?_
  rintro e w0 ⟨rfl, hb0⟩
  have HB0 := Lib.hid hb0
  clear hb0
  go_wp2_with fail
  refine (new_any w0).mono ?_
  rintro e w1 ⟨g, mb, rfl, hG1, hb1, hgn, hmn⟩
  have hs0 := HB0.out.size
  have HB1 := Lib.hid (HB0.out.trans (hb1.mono hs0))
  have HG1 := Lib.hid hG1
  clear hG1 hb1
  go_wp2_with fail
  go_loopw [4, 5] (fun v i wr => ∃ k : Nat, k ≤ n ∧ k ≤ 50 ∧ i = .int .i64 k ∧ ∃ x : G, v = .int .i64 x.last ∧ Hid (Young x ∧ x.l.length ≤ k) ∧ x.last ≤ k ∧ Gr wr g mb k x ∧ Below w.heap.size w wr) (fun _ i _ => n - (intOf i).toNat)
  case atStart => exact ⟨0, Nat.zero_le _, by omega, rfl, G.none, rfl, ⟨Young.none, Nat.le_refl _⟩, by decide, HG1.out, HB1.out⟩
  case round =>
    obtain ⟨k, hk, hk50, rfl, x, rfl, hY, hlast, hG, hbel⟩ := hrel
    have HG := Lib.hid hG
    have HB := Lib.hid hbel
    have hsz := hbel.size
    have hl0 := hY.out.1.last.1
    by_cases hlt : k < n ∧ k < 50
    · obtain ⟨hlt, hlt50⟩ := hlt
      obtain ⟨a, ha⟩ : ∃ a, l[k]? = some a := ⟨_, List.getElem?_eq_getElem (by rw [HA.out.1]; exact hlt)⟩
      obtain ⟨⟨gb, o, eA, hgb, hcs⟩, hrd, hrn⟩ := HA.out.2 k a ha
      subst eA
      have HC := Lib.hid fun (j : Nat) (u : Value) (h : a.cells[j]? = some u) => (hbel.cell (p := ⟨gb, o + k * 12 + j, none⟩) hgb).trans (hcs j u h)
      have c0 : wr.cell? ⟨gb, o + k * 12, none⟩ = some (.int .i64 a.dn) := HC.out 0 _ rfl
      have c1 : wr.cell? ⟨gb, o + k * 12 + 1, none⟩ = some (.int .i64 a.nn) := HC.out 1 _ rfl
      have c2 : wr.cell? ⟨gb, o + k * 12 + 2, none⟩ = some (.int .i64 a.p.id) := HC.out 2 _ rfl
      have c3 : wr.cell? ⟨gb, o + k * 12 + 3, none⟩ = some (.int .i64 a.p.sec) := HC.out 3 _ rfl
      have c4 : wr.cell? ⟨gb, o + k * 12 + 4, none⟩ = some (.int .i64 a.p.off) := HC.out 4 _ rfl
      have c5 : wr.cell? ⟨gb, o + k * 12 + 5, none⟩ = some (a.vd) := HC.out 5 _ rfl
      have c6 : wr.cell? ⟨gb, o + k * 12 + 6, none⟩ = some (.int .i64 a.p.kind) := HC.out 6 _ rfl
      have c7 : wr.cell? ⟨gb, o + k * 12 + 7, none⟩ = some (a.vn) := HC.out 7 _ rfl
      have c8 : wr.cell? ⟨gb, o + k * 12 + 8, none⟩ = some (.int .i64 a.p.owner) := HC.out 8 _ rfl
      have c9 : wr.cell? ⟨gb, o + k * 12 + 9, none⟩ = some (.int .i64 a.p.child) := HC.out 9 _ rfl
      have c10 : wr.cell? ⟨gb, o + k * 12 + 10, none⟩ = some (.bool a.p.written) := HC.out 10 _ rfl
      have c11 : wr.cell? ⟨gb, o + k * 12 + 11, none⟩ = some (.bool a.near) := HC.out 11 _ rfl
      have i1 : (0 : Int) ≤ (k : Int) := by omega
      have i2 : (k : Int) < (n : Int) := by omega
      have HM := Lib.hid fun W => among_any a.dn 14 W (by omega) (by omega)
      have HPt := Lib.hid fun (W : World) (h : Below wr.heap.size wr W) => patch_any a.dn a.nn a.near a.vd a.vn a.p x.last W ((hrd.below hbel).below h) ((hrn.below hbel).below h) ⟨hl0, by omega⟩
      clear hG hbel ha hgb hcs hrd hrn HC
      generalize hM : amongF a.dn 14 = M at *
      unfold actV at HPt
      by_cases hm7 : M < 7
      · go_wp2_with (go_at_call 12; refine (HM.out _).mono ?_; rintro e w' ⟨rfl, rfl⟩)
        refine (HPt.out _ (Below.refl _ _)).mono ?_
        rintro e w2 ⟨ud, un, rfl, hu, hun, -, hb2⟩
        have HV2 := Lib.hid (PtV.of_own hu hun)
        have hs2 := hb2.size
        have HG2 := Lib.hid (HG.out.below hb2)
        have HB2 := Lib.hid (HB.out.trans (hb2.mono hsz))
        obtain ⟨hpl, hpn⟩ := near_len a.p a.near x.last
        have HY2 := Lib.hid (hY.out.1.add (a.p.near a.near x.last) (by omega))
        clear hu hun hb2 HPt HG HB c0 c1 c2 c3 c4 c5 c6 c7 c8 c9 c10 c11
        generalize a.p.near a.near x.last = p at *
        have HAdd := Lib.hid (add_any g mb k x _ p _ HG2.out HV2.out hpl hpn hl0 (by omega) (by omega) (fun q hq => (hY.out.1.all q hq).2.2.2.2))
        unfold Pt.val at HAdd
        go_wp2_with fail
        refine HAdd.out.mono ?_
        rintro e w3 ⟨rfl, hG3, hT3⟩
        have HG3 := Lib.hid hG3
        have HB3 := Lib.hid (below_turn HB2.out hT3 (fun i hi e => by omega))
        clear hG3 hT3 HG2 HB2 HAdd
        obtain ⟨y1, y2, y3, y4, y5⟩ := HY2.out
        have HY3 := Lib.hid (And.intro y1 (show (addG x p).2.2.l.length ≤ k + 1 from by have := hY.out.2; omega))
        generalize hr : addG x p = r at *
        obtain ⟨id, er, x'⟩ := r
        simp only at y1 y2 y3 y4 y5 HG3 HY3
        by_cases he : er = 0
        · have hid := y4 he
          subst he
          rw [hid]
          clear y1 y3 y4 y5 hr
          go_wp2
          go_roundw
          case rel => exact ⟨k + 1, by omega, by omega, by go_num, x', rfl, HY3.out, by omega, HG3.out, HB3.out⟩
          case measure => simp [intOf]; omega
        · have hx' := y5 he
          have he' : (er == 0) = false := by simp [he]
          rw [hx'] at HG3 HY3
          clear y1 y2 y3 y4 y5 hr hx'
          go_wp2
          go_roundw
          case rel => exact ⟨k + 1, by omega, by omega, by go_num, x, rfl, HY3.out, by omega, HG3.out, HB3.out⟩
          case measure => simp [intOf]; omega
      · go_wp2_with (go_at_call 12; refine (HM.out _).mono ?_; rintro e w' ⟨rfl, rfl⟩)
        go_roundw
        case rel => exact ⟨k + 1, by omega, by omega, by go_num, x, rfl, ⟨hY.out.1, by have := hY.out.2; omega⟩, by omega, HG.out.mono (by omega), HB.out⟩
        case measure => simp [intOf]; omega
    · have hcases : (¬ k < n) ∨ (k < n ∧ ¬ k < 50) := by
        by_cases h : k < n
        · exact .inr ⟨h, fun h2 => hlt ⟨h, h2⟩⟩
        · exact .inl h
      clear hlt
      have HY := Lib.hid (And.intro hY.out.1 (show x.l.length ≤ 50 from by have := hY.out.2; omega))
      have HG50 := Lib.hid (HG.out.mono (show k ≤ 50 by omega))
      clear hY hG hbel HG
      have hcut : True := trivial
      rcases hcases with hge | ⟨hlt, hge⟩
      all_goals
        go_wp2_with fail
        go_loopw [8] (fun i wr => ∃ k : Nat, k ≤ 50 ∧ i = .int .i64 k ∧ ∃ (x : G) (nb : Nat), Hid (Young x ∧ x.l.length + k ≤ 50) ∧ nb ≤ 50 + 50 * k ∧ Gr wr g mb nb x ∧ Below w.heap.size w wr) (fun i _ => 60 - (intOf i).toNat)
        case atStart => exact ⟨0, by omega, rfl, x, 50, HY.out, by omega, HG50.out, HB.out⟩
        case round =>
          clear HA HB0 HG1 HB1 HY HG50 HB hk hk50 hlast hsz hl0
          rename_i wz
          obtain ⟨k, hk, rfl, x, nb, hY, hnb, hG, hbel⟩ := hrel
          have HG := Lib.hid hG
          have HB := Lib.hid hbel
          have hsz := hbel.size
          have hk60 : k < 60 := by omega
          have HAll := Lib.hid (alls_any g mb nb x _ hG hY.out.1.rise (by have := hY.out.2; omega))
          have hAl : (idsOf x fun _ => true).length = x.l.length := by unfold idsOf; simp
          clear hG hbel
          go_wp2_with fail
          refine HAll.out.mono ?_
          rintro e w2 ⟨r, rfl, hr, hb⟩
          obtain ⟨A2, c2, rfl, h21, h22⟩ := hr.arr.len
          rw [ints_len, hAl] at h21 ⊢
          have HG2 := Lib.hid (HG.out.below hb)
          have HB2 := Lib.hid (HB.out.trans (hb.mono hsz))
          clear hr hb HAll HG HB hAl
          by_cases hpos : 0 < x.l.length
          · have HSec := Lib.hid (sectors_any g mb nb x w2 HG2.out hY.out.1.rise (by have := hY.out.2; omega) (fun p hp => (hY.out.1.all p hp).2.1) (fun p hp => (hY.out.1.all p hp).2.2.1))
            go_wp2_with fail
            refine HSec.out.mono ?_
            rintro e w3 ⟨r, rfl, hr, hb⟩
            have hat := hr.arr
            have hS : (secsG x).length ≤ 100000 := by
              unfold secsG
              rw [List.length_mergeSort]
              have h1 := secs_len (liveL x) []
              have h2 := List.length_filter_le (fun p : Pt => !p.written) x.l
              have h3 := hY.out.2
              unfold secsRaw
              unfold liveL at *
              simp at h1
              omega
            have HNd := Lib.hid (secsG_nodup x)
            have HMem := Lib.hid (fun p r (h : x.l = p :: r) => (mem_secsG (x := x) (b := p.sec)).2 ⟨p, by rw [h]; simp, (hY.out.1.all p (by rw [h]; simp)).1, rfl⟩)
            generalize secsG x = S at *
            obtain ⟨A3, c3, rfl, h31, h32⟩ := hr.arr.len
            have HA3 := Lib.hid hat.at
            rw [ints_len] at h31 ⊢
            unfold maxLen at h32
            have HG3 := Lib.hid (HG2.out.below hb)
            have hs2 := HB2.out.size
            have HB3 := Lib.hid (HB2.out.trans (hb.mono hs2))
            have hs3 := HB3.out.size
            clear hr hb hat HSec HG2 HB2
            go_wp2_with fail
            go_loopw [10, 11] (fun v i wr => ∃ q : Nat, q ≤ S.length ∧ i = .int .i64 q ∧ ∃ (y : G) (c : Nat), v = .int .i64 c ∧ Hid (Mid x y (S.take q) c) ∧ Gr wr g mb (nb + c) y ∧ Turn (fun j => j = mb) w3 wr) (fun _ i _ => S.length - (intOf i).toNat)
            case atStart => exact ⟨0, Nat.zero_le _, rfl, x, 0, rfl, Mid.start hY.out.1.rise (fun p hp => (hY.out.1.all p hp).1), HG3.out, Turn.refl _ _⟩
            case round =>
              rename_i wy
              obtain ⟨q, hq, rfl, y, cc, rfl, hM, hG, hT⟩ := hrel
              have HG := Lib.hid hG
              have HT := Lib.hid hT
              have hsz := hT.size
              have hc50 := hM.out.le
              have hx50 := hY.out.2
              by_cases hlt : q < S.length
              · obtain ⟨s, hs⟩ : ∃ s, S[q]? = some s := ⟨_, List.getElem?_eq_getElem hlt⟩
                obtain ⟨gb, o, cs, rfl, hbk, hcs⟩ := HA3.out q s hs
                have hc1 : wr.cell? ⟨gb, o + q, none⟩ = some (.int .i64 s) := ((hbk.turn hT (fun e => by
                  obtain ⟨_, f, hm, _⟩ := HG3.out
                  exact hm.not_blk hbk e.symm)).cell (o + q)).trans hcs
                have hfit := hM.out.fit (fun p hp => ⟨(hY.out.1.all p hp).2.1, (hY.out.1.all p hp).2.2.1⟩)
                have HR := Lib.hid (ready_any g mb (nb + cc) y s wr hG hM.out.rise (by rw [hM.out.len]; omega) (fun p hp => (hfit p hp).1))
                have hstep := hM.out.step (fun p hp => (hY.out.1.all p hp).2.2.2.1) (s := s) (by
                  intro hm
                  have hnd := HNd.out
                  have h1 := List.take_append_drop q S
                  rw [← h1, List.nodup_append] at hnd
                  refine hnd.2.2 s hm s ?_ rfl
                  rw [List.mem_iff_getElem?]
                  exact ⟨0, by rw [List.getElem?_drop]; simpa using hs⟩)
                have hids : ∀ id ∈ readyG y s, (key id).wf = true := fun id hid => by
                  unfold readyG at hid
                  obtain ⟨p, hp, rfl⟩ := List.mem_map.1 hid
                  have hmm := (rdy_mem (x := y) (openL y s) ([], []) (· ∈ y.l) (fun q h => by cases h) (fun q h => by cases h) (fun q h => (List.mem_filter.1 h).1)).1 p hp
                  have := (hfit p hmm).1.2.1
                  exact key_wf (by omega) (by omega)
                have HW := Lib.hid fun (v : Value) (W : World) (hGW : Gr W g mb (nb + cc) y) (hv : Arr W 3 v (ints (readyG y s))) =>
                  write_any g mb (nb + cc) y v (readyG y s) W hGW hM.out.rise (by rw [hM.out.len]; omega) (fun p hp => (hfit p hp).1) hv hids (by have := hstep.2.le; omega) (by omega)
                rw [← show S.take (q + 1) = S.take q ++ [s] by rw [List.take_add_one, hs]; rfl] at hstep
                have hle := hstep.2.le
                rw [hstep.1] at HW
                have HM2 := Lib.hid hstep.2
                clear hG hT hbk hcs hfit hstep hids hs
                generalize (writeG y (readyG y s)).2 = y2 at *
                generalize readyG y s = R at *
                go_wp2_with fail
                refine HR.out.mono ?_
                rintro e w5 ⟨r, rfl, hr, hb⟩
                obtain ⟨A5, c5, rfl, h51, h52⟩ := hr.arr.len
                rw [ints_len] at h51 ⊢
                have HA5 := Lib.hid hr.arr
                have HG5 := Lib.hid (HG.out.below hb)
                have HT5 := Lib.hid (HT.out.trans (Turn.of_below (S := fun _ => False) hb) (fun i hi e => e.elim))
                rw [ints_len] at HA5
                clear hr hb HR HG HT
                have ew : IntKind.i64.wrap ((cc : Int) + (R.length : Int)) = ((cc + R.length : Nat) : Int) := IntWalk.i64_in _ (by omega) |>.trans (by omega)
                go_wp2_with fail
                refine (HW.out _ _ HG5.out HA5.out).mono ?_
                rintro e w6 ⟨rfl, hG6, hT6⟩
                rw [Nat.add_assoc] at hG6
                have HG6 := Lib.hid hG6
                have HT6 := Lib.hid (HT5.out.trans hT6 (fun i hi e => e))
                clear hG6 hT6 HW HA5 HG5 HT5
                go_wp2
                go_roundw
                case rel => exact ⟨q + 1, by omega, by go_num, y2, cc + R.length, by first | rfl | (rw [ew]), HM2.out, HG6.out, HT6.out⟩
                case measure => simp [intOf]; omega
              · obtain rfl : q = S.length := by omega
                have hM' := hM.out
                rw [List.take_length] at hM'
                have hc1 : 1 ≤ cc := by
                  cases hxl : x.l with
                  | nil => rw [hxl] at hpos; simp at hpos
                  | cons p r => exact hM'.some p r hxl (HMem.out p r hxl)
                have hcne : ¬ (cc : Int) = 0 := by omega
                have HSt := Lib.hid (settleAll_any g mb (nb + cc) y wr hG hM'.rise (by rw [hM'.len]; omega) (fun p hp => (hM'.fit (fun p hp => ⟨(hY.out.1.all p hp).2.1, (hY.out.1.all p hp).2.2.1⟩) p hp).1.2.1))
                rw [hM'.ids] at HSt
                obtain ⟨z1, z2, z3⟩ := hM'.settle
                have HY2 := Lib.hid (show Young (settleG y fun _ => true) ∧ (settleG y fun _ => true).l.length + (k + 1) ≤ 50 from ⟨hY.out.1.sub z1 z2, by omega⟩)
                generalize (settleG y fun _ => true) = x2 at *
                have hself : ((cc : Int) != (cc : Int)) = false := by simp
                clear hG hT hM' z1 z2 z3
                go_wp2_with fail
                refine HSt.out.mono ?_
                rintro e w5 ⟨rfl, hG5, hT5⟩
                have HG5 := Lib.hid hG5
                have hn2 : mb ≥ w.heap.size := by omega
                have HB5 := Lib.hid (below_turn HB3.out (HT.out.trans hT5 (fun i hi e => e)) (fun i hi e => by omega))
                clear hG5 hT5 HSt
                go_wp2
                go_roundw
                case rel => exact ⟨k + 1, by omega, by go_num, x2, nb + cc, HY2.out, by omega, HG5.out, HB5.out⟩
                case measure => simp [intOf]; omega
          · have hz : x.l.length = 0 := by omega
            have HAll2 := Lib.hid (alls_any g mb nb x _ HG2.out hY.out.1.rise (by have := hY.out.2; omega))
            have hAl : (idsOf x fun _ => true).length = 0 := by
              unfold idsOf
              rw [List.length_map]
              have := List.length_filter_le (fun _ : Pt => true) x.l
              omega
            go_wp2_with fail
            refine HAll2.out.mono ?_
            rintro e w3 ⟨r, rfl, hr, hb⟩
            obtain ⟨A3, c3, rfl, h31, h32⟩ := hr.arr.len
            rw [ints_len, hAl] at h31 ⊢
            have HB3 := Lib.hid (HB2.out.trans (hb.mono HB2.out.size))
            clear hr hb
            go_wp2
            go_ret
            exact ⟨rfl, HB3.out⟩
end Go.Proofs.Ytmkfaibjjbgbbaa
