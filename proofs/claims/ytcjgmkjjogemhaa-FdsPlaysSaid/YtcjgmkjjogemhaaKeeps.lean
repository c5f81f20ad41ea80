/- The walk of the law FdsKeeps: it answers true. -/
import Derived.Test.YtcjgmkjjogemhaaWorks
import Derived.Deep.RegionHeld3
import Derived.Deep.DrawnRows
namespace Go.Proofs.Ytcjgmkjjogemhaa
open Go.RowKit

/-- The acts that came in: a slice of structs of three ints. -/
def Acts (w : World) (A : Option Addr) (n : Nat) (l : List (Int × Int × Int)) : Prop :=
  l.length = n ∧ ∀ (i : Nat) (x : Int × Int × Int), l[i]? = some x → ∃ g o, A = some ⟨g, o, none⟩ ∧ g < w.heap.size ∧
    w.cell? ⟨g, o + i * 3, none⟩ = some (.int .i64 x.1) ∧ w.cell? ⟨g, o + i * 3 + 1, none⟩ = some (.int .i64 x.2.1) ∧ w.cell? ⟨g, o + i * 3 + 2, none⟩ = some (.int .i64 x.2.2)

def KeepPost (b k : Nat) (x : FileT) (w : World) (e : Ending) (w' : World) : Prop := ∃ v T', e = .returned v ∧ Tab w' b T' ∧ T' k = some x ∧ Turn (· = b) w w'
theorem open_keep (T : Nat → Option FileT) (b k : Nat) (x : FileT) (ino mode : Int) (w : World) (ht : Tab w b T) (hx : T k = some x) :
    Calls Try.prog 8 #[.pointer (some ⟨b, 0, none⟩), .int .i64 ino, .int .i64 mode] w (KeepPost b k x w) := by
  refine (open_any T b ino mode w ht).mono fun e w' h => ?_
  rcases h with ⟨k', hk', h0', _, he, hT, ht⟩ | ⟨_, he, rfl⟩
  · refine ⟨_, _, he, hT, ?_, ht⟩
    unfold put
    rw [if_neg (by rintro rfl; rw [hx] at h0'; cases h0')]
    exact hx
  · exact ⟨_, _, he, ht, hx, Turn.refl _ _⟩
theorem close_keep (T : Nat → Option FileT) (b k : Nat) (x : FileT) (fd : Int) (w : World) (ht : Tab w b T) (hx : T k = some x) (hne : fd ≠ k) :
    Calls Try.prog 10 #[.pointer (some ⟨b, 0, none⟩), .int .i64 fd] w (KeepPost b k x w) := by
  cases hl : look T fd with
  | none => exact (close_none T b fd w ht hl).mono fun e w' h => ⟨_, T, h.1, ht.below h.2, hx, Turn.of_below h.2⟩
  | some y =>
    obtain ⟨k', rfl, hk', hy⟩ := look_some hl
    refine (close_some T b k' y w ht hk' hy).mono fun e w' h => ⟨_, _, h.1, h.2.1, ?_, h.2.2⟩
    unfold put
    rw [if_neg (by rintro rfl; exact hne rfl)]
    exact hx

set_option maxRecDepth 100000 in
set_option maxHeartbeats 1000000 in
theorem keeps_any (A : Option Addr) (n c : Nat) (l : List (Int × Int × Int)) (ino mode : Int) (w : World) (ha : Acts w A n l) (_hn : n ≤ c) (_hc : c ≤ 9223372036854775807) :
    Calls Try.prog 3 #[.slice A n c, .int .i64 ino, .int .i64 mode] w fun e w' => e = .returned (.bool true) ∧ Below w.heap.size w w' := by
  have HA := Lib.hid ha
  clear ha
  go_enter Try.func3, Try.ntmps3
  go_wp2_with fail
  refine (works_any _).mono ?_
  rintro e w0 ⟨rfl, hb0⟩
  have HB0 := Lib.hid hb0
  clear hb0
  go_wp2_with fail
  refine (new_any _).mono ?_
  rintro e w1 ⟨rfl, hT1, hb1⟩
  have HT1 := Lib.hid hT1
  have HB1 := Lib.hid (HB0.out.trans (hb1.mono HB0.out.size))
  have hN : w.heap.size ≤ w0.heap.size := HB0.out.size
  generalize w0.heap.size = N at *
  clear hT1 hb1
  go_wp2_with fail
  go_loopw [8] (fun i wr => ∃ k : Nat, k ≤ n ∧ k ≤ 5 ∧ i = .int .i64 k ∧ ∃ T, Tab wr N T ∧ (∀ j, j < 8 → (T j = none ↔ k ≤ j)) ∧ Below w.heap.size w wr) (fun i _ => n - (intOf i).toNat)
  case atStart => exact ⟨0, Nat.zero_le _, by omega, rfl, _, HT1.out, fun j _ => by simp, HB1.out⟩
  case round =>
    obtain ⟨k, hk, hk5, rfl, T, hT, hfree, hbel⟩ := hrel
    have HT := Lib.hid hT
    have HF := Lib.hid hfree
    have HB := Lib.hid hbel
    clear hT hfree hbel
    by_cases hlt' : k < n ∧ k < 5
    · obtain ⟨hlt, hlt5⟩ := hlt'
      obtain ⟨x, hx⟩ : ∃ x, l[k]? = some x := ⟨_, List.getElem?_eq_getElem (by rw [HA.out.1]; exact hlt)⟩
      obtain ⟨g, o, eA, hg, h0, h1, h2⟩ := HA.out.2 k x hx
      subst eA
      clear hx
      have c1 := (HB.out.cell (p := ⟨g, o + k * 3 + 1, none⟩) hg).trans h1
      have c2 := (HB.out.cell (p := ⟨g, o + k * 3 + 2, none⟩) hg).trans h2
      clear h0 h1 h2
      have i1 : (0 : Int) ≤ (k : Int) := by omega
      have i2 : (k : Int) < (n : Int) := by omega
      have hk8 : T k = none := (HF.out k (by omega)).2 (Nat.le_refl _)
      have hkb : ∀ j, j < k → T j ≠ none := fun j hj h => by have := (HF.out j (by omega)).1 h; omega
      have hC := Lib.hid fun W (h : Tab W N T) => open_at T N k x.2.1 x.2.2 W h (by omega) hk8 hkb
      clear hk8 hkb
      have hgN : g < wr.heap.size := Nat.lt_of_lt_of_le hg HB.out.size
      have hkeep := Lib.hid (show ∀ W', Turn (· = N) wr.drew W' → W'.cell? ⟨g, o + k * 3 + 1, none⟩ = some (.int .i64 x.2.1) ∧ W'.cell? ⟨g, o + k * 3 + 2, none⟩ = some (.int .i64 x.2.2) from
        fun W' h => ⟨(World.cell?_of_block (a := ⟨g, o + k * 3 + 1, none⟩) (h.block g hgN (by omega))).trans c1, (World.cell?_of_block (a := ⟨g, o + k * 3 + 2, none⟩) (h.block g hgN (by omega))).trans c2⟩)
      go_wp2_with fail
      go_region_held3 (fun w' => w'.cell? ⟨g, o + k * 3 + 1, none⟩ = some (.int .i64 x.2.1) ∧ w'.cell? ⟨g, o + k * 3 + 2, none⟩ = some (.int .i64 x.2.2)) (first | exact ⟨c1, c2⟩ | exact hkeep.out _ ht2) (first | (go_at_call 8; refine (hC.out _ (by exact HT.out.drew)).mono ?_; rintro e w2 ⟨rfl, hT2, ht2⟩))
      have hrel2 : ∃ T, Tab w2 N T ∧ (∀ j, j < 8 → (T j = none ↔ k + 1 ≤ j)) ∧ Below w.heap.size w w2 := by
        refine ⟨_, hT2, fun j hj => ?_, HB.out.drew.trans (ht2.below (by exact HB.out.size) fun i hi e => by omega)⟩
        unfold put
        by_cases e : j = k
        · rw [if_pos e]; simp; omega
        · rw [if_neg e, HF.out j hj]; omega
      have HR := Lib.hid hrel2
      clear hrel2 hT2 ht2 c1 c2
      go_wp2_with fail
      go_roundw
      case rel => exact ⟨k + 1, by omega, by omega, by go_num, HR.out⟩
      case measure => simp [intOf]; omega
    · have hC := Lib.hid (open_at T N k ino mode wr HT.out (by omega) ((HF.out k (by omega)).2 (Nat.le_refl _)) (fun j hj h => by have := (HF.out j (by omega)).1 h; omega))
      have hor : (k < n ∧ (k : Int) = 5) ∨ (n : Int) ≤ (k : Int) := by omega
      clear hlt'
      rcases hor with ⟨hlt, h5⟩ | hge
      all_goals
        have hk8 : k < 8 := by omega
        first | (have h55 : ¬ ((k : Int) < 5) := by omega) | skip
        first | (have H5 := Lib.hid h5; clear h5) | skip
        go_wp2_with fail
        refine hC.out.mono ?_
        rintro e w2 ⟨rfl, hT2, ht2⟩
        have HT2 := Lib.hid hT2
        have HB2 := Lib.hid (HB.out.trans (ht2.below (by exact HB.out.size) fun i hi e => by omega))
        clear hT2 ht2
        go_wp2_with fail
        first | clear h55 | skip
        go_loopw [11] (fun i wr => ∃ q : Nat, q ≤ n ∧ i = .int .i64 q ∧ ∃ T B, Tab wr N T ∧ T k = some (B, ino, 0, mode) ∧ Below w.heap.size w wr) (fun i _ => n - (intOf i).toNat)
        case atStart => exact ⟨0, Nat.zero_le _, rfl, _, _, HT2.out, by unfold put; rw [if_pos rfl], HB2.out⟩
        case round =>
          clear hk hk5 HT HF HB hC HT2 HB2
          first | clear hlt | clear hge
          first | clear H5 | skip
          rename_i wz
          obtain ⟨q, hq, rfl, T2, B2, hT, hTk, hbel⟩ := hrel
          by_cases hlt' : q < n ∧ q < 60
          · obtain ⟨hlt, hlt60⟩ := hlt'
            obtain ⟨x, hx⟩ : ∃ x, l[q]? = some x := ⟨_, List.getElem?_eq_getElem (by rw [HA.out.1]; exact hlt)⟩
            obtain ⟨g, o, eA, hg, h0, h1, h2⟩ := HA.out.2 q x hx
            subst eA
            clear hx
            have c0 := (hbel.cell (p := ⟨g, o + q * 3, none⟩) hg).trans h0
            have c1 := (hbel.cell (p := ⟨g, o + q * 3 + 1, none⟩) hg).trans h1
            have c2 := (hbel.cell (p := ⟨g, o + q * 3 + 2, none⟩) hg).trans h2
            clear h0 h1 h2
            have hNr := hT.tab.lt
            have hT3 := hT.alloc (.cells #[.int .i64 x.1, .int .i64 x.2.1, .int .i64 x.2.2] 30)
            have HM := Lib.hid fun W => among_any x.1 7 W (by omega) (by omega)
            have HO := Lib.hid (open_keep T2 N k _ x.2.1 x.2.2 _ hT3 hTk)
            have HC := Lib.hid fun hne => close_keep T2 N k _ x.2.1 _ hT3 hTk hne
            have HT3 := Lib.hid hT3
            have HTk := Lib.hid hTk
            have HB := Lib.hid hbel
            have hsz := hbel.size
            have i1 : (0 : Int) ≤ (q : Int) := by omega
            have i2 : (q : Int) < (n : Int) := by omega
            have hmm : (mode != mode) = false := by simp
            have hii : (ino != ino) = false := by simp
            clear hT hTk hbel hT3
            generalize hM : amongF x.1 7 = M at *
            have hl2 : k < 8 := hk8
            by_cases hm4 : M < 4
            · go_wp2_with (go_at_call 9; refine (HM.out _).mono ?_; rintro e w' ⟨rfl, rfl⟩)
              refine HO.out.mono ?_
              rintro e w4 ⟨v4, T4, rfl, hT4, hT4k, ht4⟩
              have HT4 := Lib.hid hT4
              have hN4 := hT4.tab.lt
              have HB4 := Lib.hid ((HB.out.alloc (by exact HB.out.size) _).trans (ht4.below (B := w.heap.size) (by simp; omega) fun i hi e => by omega))
              clear hT4 ht4
              go_wp2_with fail
              refine (get_some T4 N k _ w4 HT4.out (by omega) hT4k).mono ?_
              rintro e w5 ⟨rfl, hb5⟩
              have HB5 := Lib.hid (HB4.out.trans (hb5.mono (by have := HB4.out.size; exact this)))
              have HT5 := Lib.hid ((HT4.out.below hb5).alloc (.cells #[.int .i64 ino, .int .i64 0, .int .i64 mode] 33))
              have HK := Lib.hid hT4k
              clear hb5 hT4k
              go_wp2_with fail
              go_roundw
              case rel => exact ⟨q + 1, by omega, by go_num, T4, B2, HT5.out, HK.out, HB5.out.alloc (by exact HB5.out.size) _⟩
              case measure => simp [intOf]; omega
            · by_cases hfk : x.2.1 = k
              · have ht1 : (x.2.1 != (k : Int)) = false := by simp [hfk]
                have HFK := Lib.hid hfk
                clear hfk
                go_wp2_with (go_at_call 9; refine (HM.out _).mono ?_; rintro e w' ⟨rfl, rfl⟩)
                obtain ⟨w4, hw4⟩ : ∃ w4, w4 = wr.alloc (.cells #[.int .i64 x.1, .int .i64 x.2.1, .int .i64 x.2.2] 30) := ⟨_, rfl⟩
                rw [← hw4]
                obtain ⟨T4, hT4, hT4k, ht4⟩ : ∃ T4, Tab w4 N T4 ∧ T4 k = some (B2, ino, 0, mode) ∧ Turn (· = N) (wr.alloc (.cells #[.int .i64 x.1, .int .i64 x.2.1, .int .i64 x.2.2] 30)) w4 := ⟨T2, by rw [hw4]; exact HT3.out, HTk.out, by rw [hw4]; exact Turn.refl _ _⟩
                clear hw4
                have HT4 := Lib.hid hT4
                have hN4 := hT4.tab.lt
                have HB4 := Lib.hid ((HB.out.alloc (by exact HB.out.size) _).trans (ht4.below (B := w.heap.size) (by simp; omega) fun i hi e => by omega))
                clear hT4 ht4
                refine (get_some T4 N k _ w4 HT4.out (by omega) hT4k).mono ?_
                rintro e w5 ⟨rfl, hb5⟩
                have HB5 := Lib.hid (HB4.out.trans (hb5.mono (by have := HB4.out.size; exact this)))
                have HT5 := Lib.hid ((HT4.out.below hb5).alloc (.cells #[.int .i64 ino, .int .i64 0, .int .i64 mode] 33))
                have HK := Lib.hid hT4k
                clear hb5 hT4k
                go_wp2_with fail
                go_roundw
                case rel => exact ⟨q + 1, by omega, by go_num, T4, B2, HT5.out, HK.out, HB5.out.alloc (by exact HB5.out.size) _⟩
                case measure => simp [intOf]; omega
              · have ht1 : (x.2.1 != (k : Int)) = true := by simp [hfk]
                go_wp2_with (go_at_call 9; refine (HM.out _).mono ?_; rintro e w' ⟨rfl, rfl⟩)
                refine (HC.out hfk).mono ?_
                rintro e w4 ⟨v4, T4, rfl, hT4, hT4k, ht4⟩
                have HT4 := Lib.hid hT4
                have hN4 := hT4.tab.lt
                have HB4 := Lib.hid ((HB.out.alloc (by exact HB.out.size) _).trans (ht4.below (B := w.heap.size) (by simp; omega) fun i hi e => by omega))
                clear hT4 ht4
                go_wp2_with fail
                refine (get_some T4 N k _ w4 HT4.out (by omega) hT4k).mono ?_
                rintro e w5 ⟨rfl, hb5⟩
                have HB5 := Lib.hid (HB4.out.trans (hb5.mono (by have := HB4.out.size; exact this)))
                have HT5 := Lib.hid ((HT4.out.below hb5).alloc (.cells #[.int .i64 ino, .int .i64 0, .int .i64 mode] 33))
                have HK := Lib.hid hT4k
                clear hb5 hT4k
                go_wp2_with fail
                go_roundw
                case rel => exact ⟨q + 1, by omega, by go_num, T4, B2, HT5.out, HK.out, HB5.out.alloc (by exact HB5.out.size) _⟩
                case measure => simp [intOf]; omega
          · have HB := Lib.hid hbel
            have hor : (q < n ∧ (60 : Int) ≤ (q : Int)) ∨ (n : Int) ≤ (q : Int) := by omega
            clear hlt' hT hTk hbel
            rcases hor with ⟨hlt, h60⟩ | hge
            all_goals
              go_wp2_with fail
              all_goals
                go_ret
                exact ⟨rfl, HB.out⟩
end Go.Proofs.Ytcjgmkjjogemhaa
