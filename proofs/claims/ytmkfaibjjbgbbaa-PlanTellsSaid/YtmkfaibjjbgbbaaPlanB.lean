/- plan.Next, plan.Carry. -/
import Derived.Test.YtmkfaibjjbgbbaaPlanA
import Derived.Deep.AppendLies
namespace Go.Proofs.Ytmkfaibjjbgbbaa
open Go.RowKit
set_option linter.unusedVariables false
attribute [local go_sem ↓] Go.wp_at_zero Go.wp_at_succ

def planNext (x : G) (ids : List Int) : Option (List Int × Bool) :=
  if neededG x ids = [] then none else some (planSecs x (neededG x ids), decide ((planSecs x (neededG x ids)).length = 1) && aloneB x ((planSecs x (neededG x ids)).headD 0))
/-- A batch as a value. -/
def batV (v : Value) (b : Bool) : Value := .agg #[v, .bool b]

theorem neededL_len (l : List Pt) (ids : List Int) : (neededL l ids).length ≤ l.length := by
  induction l with
  | nil => exact Nat.le_refl _
  | cons p l ih =>
    show (if _ then p :: neededL l ids else neededL l ids).length ≤ _
    split
    · simp; exact ih
    · simp; omega
theorem neededL_sub (l : List Pt) (ids : List Int) : (neededL l ids).Sublist l := by
  induction l with
  | nil => exact List.Sublist.refl _
  | cons p l ih =>
    show (if _ then p :: neededL l ids else neededL l ids).Sublist _
    split
    · exact ih.cons_cons p
    · exact ih.cons p

set_option maxHeartbeats 2000000 in
theorem next_some (g mb n : Nat) (x : G) (v : Value) (ids : List Int) (w : World) (hG : Gr w g mb n x) (hF : Fine x) (hv : Arr w 3 v (ints ids)) (hil : ids.length ≤ 1000) (hik : ∀ k ∈ ids, (key k).wf = true) :
    Calls Try.prog 37 #[.pointer (some ⟨g, 0, none⟩), v] w fun e w' => ∃ sv, e = .returned (.tuple #[batV sv ((planNext x ids).map (·.2) |>.getD false), .bool (planNext x ids).isSome]) ∧ Built w.heap.size w' sv ((planNext x ids).map (·.1) |>.getD []) ∧ Below w.heap.size w w' := by
  have hmm := @run_makeMap Try.prog
  have HG := Lib.hid hG
  have HF := Lib.hid hF
  have hN0 : (neededG x ids).length ≤ 1000 := by
    unfold neededG
    rw [List.length_map]
    exact Nat.le_trans (neededL_len _ _) hF.len
  have hNk : ∀ k ∈ neededG x ids, (key k).wf = true := fun k hk => by
    unfold neededG at hk
    obtain ⟨p, hp, rfl⟩ := List.mem_map.1 hk
    have := (hF.all p ((neededL_sub _ _).subset hp)).1.2.1
    exact key_wf (by omega) (by omega)
  have HNk := Lib.hid hNk
  have HPN := Lib.hid (show planNext x ids = if neededG x ids = [] then none else some (planSecs x (neededG x ids), decide ((planSecs x (neededG x ids)).length = 1) && aloneB x ((planSecs x (neededG x ids)).headD 0)) from rfl)
  have HNd := Lib.hid fun (W : World) (h : Below w.heap.size w W) => needed_any g mb n x v ids W (hG.below h) hF (hv.below h) hil hik
  generalize neededG x ids = N at *
  generalize planNext x ids = pn at *
  clear hG hF hv hik hNk
  go_enter Try.func37, Try.ntmps37
  go_wp2_with fail
  obtain ⟨w2, hw2⟩ : ∃ w2, w2 = (w.alloc (.cells #[.slice none 0 0, .bool false] 61)).alloc (.map #[] 0) := ⟨_, rfl⟩
  rw [← hw2]
  have hB2 : Below w.heap.size w w2 := by rw [hw2]; exact ((Below.refl _ _).alloc (Nat.le_refl _) _).alloc (by simp) _
  have HB2 := Lib.hid hB2
  have HR2 := Lib.hid (show Blk w2 w.heap.size 61 #[.slice none 0 0, .bool false] from by rw [hw2]; exact (Blk.new _ _ _).alloc _)
  have HM2 := Lib.hid (show MapIs w2 (w.heap.size + 1) 0 (seenF []) from by
    rw [hw2]
    have := MapIs.new (w.alloc (.cells #[.slice none 0 0, .bool false] 61))
    have e : seenF [] = fun _ => none := by funext k; simp [seenF]
    rw [e]
    simpa using this)
  have hs2 : w2.heap.size = w.heap.size + 2 := by rw [hw2]; simp
  clear hw2 hB2
  refine (HNd.out _ HB2.out).mono ?_
  rintro e w3 ⟨r, rfl, hr, hb⟩
  obtain ⟨A, c, rfl, h1, h2⟩ := hr.arr.len
  have hat : Arr w3 3 (.slice A (ints N).length c) (ints N) := hr.arr
  have HA := Lib.hid hat.at
  rw [ints_len] at h1 ⊢
  unfold maxLen at h2
  have hs3 := hb.size
  have HB3 := Lib.hid (HB2.out.trans (hb.mono (by omega)))
  have HR3 := Lib.hid (HR2.out.below hb (by omega))
  have HM3 := Lib.hid (HM2.out.keep (hb.block _ (by omega)))
  clear hr hb hat HB2 HR2 HM2 HNd
  go_wp2_with fail
  go_loopw [15] (fun i wr => ∃ k : Nat, k ≤ N.length ∧ i = .int .i64 k ∧ MapIs wr (w.heap.size + 1) k (seenF (N.take k)) ∧ Turn (fun j => j = w.heap.size + 1) w3 wr) (fun i _ => N.length - (intOf i).toNat)
  case atStart => exact ⟨0, Nat.zero_le _, rfl, HM3.out, Turn.refl _ _⟩
  case round =>
    obtain ⟨k, hk, rfl, hM, hT⟩ := hrel
    have HM := Lib.hid hM
    have HT := Lib.hid hT
    have hsz := hT.size
    by_cases hlt : k < N.length
    · obtain ⟨y, hy⟩ : ∃ y, N[k]? = some y := ⟨_, List.getElem?_eq_getElem hlt⟩
      obtain ⟨gb, o, cs, rfl, hbk, hcs⟩ := HA.out k y hy
      have hc1 : wr.cell? ⟨gb, o + k, none⟩ = some (.int .i64 y) := ((hbk.turn hT (fun e => by subst e; exact HM3.out.not_blk hbk rfl)).cell (o + k)).trans hcs
      obtain ⟨w4, hupd, hm4, hg4⟩ := hM.store Try.underlying84 (by unfold maxLen; omega) (HNk.out y (List.mem_of_getElem? hy)) (.bool true)
      rw [seen_on, show N.take k ++ [y] = N.take (k + 1) by rw [List.take_add_one, hy]; rfl] at hm4
      have HM4 := Lib.hid hm4
      have HT4 := Lib.hid (hT.trans (turn_of_grown hg4) (fun i hi e => e))
      clear hM hT hbk hcs hy hm4 hg4
      go_wp2
      go_roundw
      case rel => exact ⟨k + 1, by omega, by go_num, HM4.out, HT4.out⟩
      case measure => simp [intOf]; omega
    · obtain rfl : k = N.length := by omega
      rw [List.take_length] at hM
      have HM' := Lib.hid hM
      obtain ⟨m, hlen, hle, hpos⟩ := hM.len Try.underlying84
      have HBr := Lib.hid (HB3.out.trans (hT.below (B := w.heap.size) (by have := HB3.out.size; omega) (fun i hi e => by omega)))
      have HRr := Lib.hid (HR3.out.turn hT (fun e => by omega))
      have hl0 : w.heap.size < wr.heap.size := HRr.out.lt
      by_cases hN : N = []
      · obtain rfl : m = 0 := by subst hN; simpa using hle
        rw [if_pos hN] at HPN
        have f0 := HRr.out.frozen 0
        have f1 := HRr.out.frozen 1
        have c0 := HRr.out.cell 0
        have c1 := HRr.out.cell 1
        simp at c0 c1
        clear hM hT hle hpos hlt hN HM
        go_wp2
        have F := ((HRr.out.set_ 0 (.slice none 0 0)).set_ 1 (.bool false))
        have T := ((Turn.refl (fun j => j = w.heap.size) wr).setCell (p := ⟨w.heap.size, 0, none⟩) (fun _ => rfl) (.slice none 0 0)).setCell (p := ⟨w.heap.size, 1, none⟩) (fun _ => rfl) (.bool false)
        have hbl := HBr.out.trans (T.below (B := w.heap.size) (by omega) (fun i hi e => by omega))
        have z0 := F.cell 0
        have z1 := F.cell 1
        generalize (wr.setCell ⟨w.heap.size, 0, none⟩ (.slice none 0 0)).setCell ⟨w.heap.size, 1, none⟩ (.bool false) = X at *
        simp at z0 z1
        exact bodyPost_ret (v := .tuple #[batV (.slice none 0 0) false, .bool false]) (by simp [results, Try.results37, go_sem, batV, z0, z1]) rfl ⟨_, by rw [HPN.out]; rfl, by rw [HPN.out]; exact World.ownsRow_nil _ _ _ _, hbl⟩
      · have hm1 : 1 ≤ m := by
          cases hNc : N with
          | nil => exact absurd hNc hN
          | cons y r => exact hpos y (.bool true) (by unfold seenF; rw [if_pos (by rw [hNc]; simp)])
        rw [if_neg hN] at HPN
        have hm0 : ¬ (m : Int) = 0 := by omega
        have hPS := planSecs_any g mb n (w.heap.size + 1) N.length x N wr (HG.out.below HBr.out) HF.out HM'.out
        have hSl : (planSecs x N).length ≤ 1000 := by
          unfold planSecs
          exact Nat.le_trans (List.length_filter_le _ _) (Nat.le_trans (secsG_len x) HF.out.len)
        have HPS := Lib.hid hPS
        generalize planSecs x N = S at *
        clear hM hT hle hpos hlt hN HM hPS
        go_wp2_with fail
        refine HPS.out.mono ?_
        rintro e w5 ⟨sv, rfl, hsv, hb5⟩
        have HSV := Lib.hid hsv
        have HB5 := Lib.hid (HBr.out.trans (hb5.mono (by omega)))
        have HR5 := Lib.hid (HRr.out.below hb5 hl0)
        have hs5 := hb5.size
        obtain ⟨A5, c5, rfl, h51, h52⟩ := hsv.arr.len
        rw [ints_len] at h51 HSV ⊢
        unfold maxLen at h52
        have HB6 := Lib.hid (HB5.out.alloc HB5.out.size (.cells #[.slice A5 S.length c5, .bool false] 61))
        have HR6 := Lib.hid (HR5.out.alloc (.cells #[.slice A5 S.length c5, .bool false] 61))
        have HS6 := Lib.hid (World.ownsRow.alloc HSV.out (.cells #[.slice A5 S.length c5, .bool false] 61))
        have HX6 := Lib.hid (Blk.new w5 61 #[.slice A5 S.length c5, .bool false])
        by_cases hS1 : S.length = 1
        · obtain ⟨s, rfl⟩ := List.length_eq_one_iff.1 hS1
          obtain ⟨gs, cs5, e5, hgs, hgs2⟩ := World.ownsRow.form hsv (by simp)
          injection e5 with e51 e52 e53
          subst e51 e53
          have hcs := World.ownsRow.cellAt hsv 0 (by simp [ints])
          have hcs' : (w5.alloc (.cells #[.slice (some ⟨gs, 0, none⟩) 1 c5, .bool false] 61)).cell? ⟨gs, 0, none⟩ = some (.int .i64 s) := (((Below.refl w5.heap.size w5).alloc (Nat.le_refl _) _).cell (p := ⟨gs, 0, none⟩) hgs2).trans hcs
          have HAl := Lib.hid fun (W : World) (h : Below w.heap.size w W) => alone_any g mb n x s W (HG.out.below h) HF.out
          clear hsv hb5 hcs
          go_wp2_with fail
          refine (HAl.out _ HB6.out).mono ?_
          rintro e w7 ⟨rfl, hb7⟩
          have hs7 := hb7.size
          simp at hs7
          have HRx := Lib.hid (HR6.out.below hb7 (by simp; omega))
          have HXx := Lib.hid (HX6.out.below hb7 (by simp))
          have HSx := Lib.hid (show Built wr.heap.size w7 _ [s] from Built.below HS6.out hb7)
          have HBx := Lib.hid (HB6.out.trans (hb7.mono (by simp; omega)))
          clear hb7 hcs'
          generalize hBB : aloneB x s = bb at *
          have HBB := Lib.hid hBB
          clear hBB
          have f0 := HRx.out.frozen 0
          have f1 := HRx.out.frozen 1
          have r0 := HRx.out.cell 0
          have r1 := HRx.out.cell 1
          have k0 := HXx.out.cell 0
          have k1 := HXx.out.cell 1
          have fk := HXx.out.frozen 1
          simp at r0 r1 k0 k1
          have lx : w5.heap.size < w7.heap.size := HXx.out.lt
          have lr : w.heap.size < w7.heap.size := HRx.out.lt
          have hne1 : ¬ w.heap.size = w5.heap.size := by omega
          have hne2 : ¬ w5.heap.size = w.heap.size := by omega
          go_wp2
          have F := (((HRx.out.far (p := ⟨w5.heap.size, 1, none⟩) hne1 (.bool bb)).set_ 0 (.slice (some ⟨gs, 0, none⟩) 1 c5)).set_ 1 (.bool bb))
          have T := (((Turn.refl (fun j => j = w.heap.size ∨ j = w5.heap.size) w7).setCell (p := ⟨w5.heap.size, 1, none⟩) (fun _ => .inr rfl) (.bool bb)).setCell (p := ⟨w.heap.size, 0, none⟩) (fun _ => .inl rfl) (.slice (some ⟨gs, 0, none⟩) 1 c5)).setCell (p := ⟨w.heap.size, 1, none⟩) (fun _ => .inl rfl) (.bool bb)
          have hbl := HBx.out.trans (T.below (B := w.heap.size) (by omega) (fun i hi e => by omega))
          have hSx := Built.mono (owns_keep HSx.out (fun j hj => by
            have h1 := World.ownsRow.lt HSx.out j hj
            have h2 := World.ownsRow.lt HSV.out j hj
            exact T.block j h1.2 (by omega))) (show w.heap.size ≤ wr.heap.size by omega)
          have z0 := F.cell 0
          have z1 := F.cell 1
          generalize ((w7.setCell ⟨w5.heap.size, 1, none⟩ (.bool bb)).setCell ⟨w.heap.size, 0, none⟩ (.slice (some ⟨gs, 0, none⟩) 1 c5)).setCell ⟨w.heap.size, 1, none⟩ (.bool bb) = X at *
          simp at z0 z1
          exact bodyPost_ret (v := .tuple #[batV (.slice (some ⟨gs, 0, none⟩) 1 c5) (bb), .bool true]) (by simp [results, Try.results37, go_sem, batV, z0, z1]) rfl ⟨.slice (some ⟨gs, 0, none⟩) 1 c5, by rw [HPN.out]; show _ = Ending.returned (.tuple #[batV _ (decide ([s].length = 1) && aloneB x s), .bool true]); rw [HBB.out]; rfl, by rw [HPN.out]; exact hSx, hbl⟩
        · have hS1' : ¬ (S.length : Int) = 1 := by omega
          have HRx := HR6
          have HXx := HX6
          have HSx := Lib.hid (show Built wr.heap.size (w5.alloc (.cells #[.slice A5 S.length c5, .bool false] 61)) _ S from HS6.out)
          have HBx := HB6
          clear hsv hb5
          have f0 := HRx.out.frozen 0
          have f1 := HRx.out.frozen 1
          have r0 := HRx.out.cell 0
          have r1 := HRx.out.cell 1
          have k0 := HXx.out.cell 0
          have k1 := HXx.out.cell 1
          have fk := HXx.out.frozen 1
          simp at r0 r1 k0 k1
          have lx : w5.heap.size < (w5.alloc (.cells #[.slice A5 S.length c5, .bool false] 61)).heap.size := HXx.out.lt
          have lr : w.heap.size < (w5.alloc (.cells #[.slice A5 S.length c5, .bool false] 61)).heap.size := HRx.out.lt
          have hne1 : ¬ w.heap.size = w5.heap.size := by omega
          have hne2 : ¬ w5.heap.size = w.heap.size := by omega
          go_wp2
          have F := ((HRx.out.set_ 0 (.slice A5 S.length c5)).set_ 1 (.bool false))
          have T := ((Turn.refl (fun j => j = w.heap.size ∨ j = w5.heap.size) (w5.alloc (.cells #[.slice A5 S.length c5, .bool false] 61))).setCell (p := ⟨w.heap.size, 0, none⟩) (fun _ => .inl rfl) (.slice A5 S.length c5)).setCell (p := ⟨w.heap.size, 1, none⟩) (fun _ => .inl rfl) (.bool false)
          have hbl := HBx.out.trans (T.below (B := w.heap.size) (by omega) (fun i hi e => by omega))
          have hSx := Built.mono (owns_keep HSx.out (fun j hj => by
            have h1 := World.ownsRow.lt HSx.out j hj
            have h2 := World.ownsRow.lt HSV.out j hj
            exact T.block j h1.2 (by omega))) (show w.heap.size ≤ wr.heap.size by omega)
          have z0 := F.cell 0
          have z1 := F.cell 1
          generalize ((w5.alloc (.cells #[.slice A5 S.length c5, .bool false] 61)).setCell ⟨w.heap.size, 0, none⟩ (.slice A5 S.length c5)).setCell ⟨w.heap.size, 1, none⟩ (.bool false) = X at *
          simp at z0 z1
          exact bodyPost_ret (v := .tuple #[batV (.slice A5 S.length c5) (false), .bool true]) (by simp [results, Try.results37, go_sem, batV, z0, z1]) rfl ⟨.slice A5 S.length c5, by rw [HPN.out]; simp [hS1], by rw [HPN.out]; exact hSx, hbl⟩
end Go.Proofs.Ytmkfaibjjbgbbaa
