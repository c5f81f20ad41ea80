/- What is a name: the package's Check and the reference's answer the same. -/
import Derived.Test.YtpkhglfhpggceaaGreatDoorRows
import Derived.Test.YtpkhglfhpggceaaGreatDoorPlain
import Derived.Laws.RangeAny
namespace Go.Proofs.YtpkhglfhpggceaaGreatDoor
set_option maxRecDepth 100000
set_option maxHeartbeats 16000000
open Go.RowKit

theorem ret_bool {a b : Bool} (h : a = b) : Ending.returned (.bool a) = .returned (.bool b) := by rw [h]
theorem ret_int {k : IntKind} {a b : Int} (h : a = b) : Ending.returned (.int k a) = .returned (.int k b) := by rw [h]

theorem take_all {s : ByteArray} {k : Nat} (hk : k < s.size) (h : (s.data.toList.take k).all byteOk = true) (hb : byteOk (s[k]'hk) = true) : (s.data.toList.take (k + 1)).all byteOk = true := by
 rw [List.take_succ_eq_append_getElem (by simpa using hk), List.all_append, h]
 have e : s.data.toList[k]'(by simpa using hk) = s[k]'hk := rfl
 rw [e]
 simp [hb]
theorem bad_all {s : ByteArray} {k : Nat} (hk : k < s.size) (hb : byteOk (s[k]'hk) = false) : s.data.toList.all byteOk = false := by
 rw [List.all_eq_false]
 exact ⟨s[k]'hk, List.getElem_mem (l := s.data.toList) (n := k) (by simpa using hk), by simpa using hb⟩

theorem checkN_bad {s : ByteArray} (h : nameOk s = false) : checkN s = 45 := by simp [checkN, h]
theorem checkN_ok {s : ByteArray} (h : nameOk s = true) : checkN s = 0 := by simp [checkN, h]
theorem nameOk_all {s : ByteArray} (h : s.data.toList.all byteOk = false) : nameOk s = false := by simp [nameOk, h]

theorem check_any (s : ByteArray) (w : World) (hs : s.size ≤ 9223372036854775807) :
  Calls Tryz.prog 88 #[.string s] w fun e w' => e = .returned (.int .i64 (checkN s)) ∧ Below w.heap.size w w' := by
 by_cases h0 : s.size = 0
 ·have HE := Lib.hid (checkN_bad (s := s) (by simp [nameOk, h0]))
  have h1 : ((s.size : Int) == 0) = true := by simp [h0]
  clear h0
  go_enter Tryz.func88, Tryz.ntmps88
  go_wp2
  go_ret
  exact ⟨ret_int HE.out.symm, Below.refl _ _⟩
 ·have h1 : ((s.size : Int) == 0) = false := beq_eq_false_iff_ne.2 (by omega)
  by_cases h10 : 10 < s.size
  ·have HE := Lib.hid (checkN_bad (s := s) (by simp [nameOk, show ¬ s.size ≤ 10 by omega]))
   have h2 : (10 : Int) < (s.size : Int) := by omega
   clear h0
   go_enter Tryz.func88, Tryz.ntmps88
   go_wp2
   go_ret
   exact ⟨ret_int HE.out.symm, Below.refl _ _⟩
  ·have h2 : ¬ ((10 : Int) < (s.size : Int)) := by omega
   cases hd : s.toList == [46] with
   | true =>
    have HE := Lib.hid (checkN_bad (s := s) (by simp [nameOk, hd]))
    go_enter Tryz.func88, Tryz.ntmps88
    go_wp2
    go_ret
    exact ⟨ret_int HE.out.symm, Below.refl _ _⟩
   | false =>
    cases hdd : s.toList == [46, 46] with
    | true =>
     have HE := Lib.hid (checkN_bad (s := s) (by simp [nameOk, hdd]))
     go_enter Tryz.func88, Tryz.ntmps88
     go_wp2
     go_ret
     exact ⟨ret_int HE.out.symm, Below.refl _ _⟩
    | false =>
     have HN := Lib.hid (show s.data.toList.all byteOk = true → checkN s = 0 from fun h => checkN_ok (by simp only [nameOk, hd, hdd, h]; simp; omega))
     have hsz : s.size ≤ 10 := by omega
     go_enter Tryz.func88, Tryz.ntmps88
     go_wp2
     clear h0 h1 h2 h10 hd hdd
     go_loopw [] (fun wr => ∃ p : Nat, p ≤ s.size ∧ wr = w.iter s p ∧ Hid ((s.data.toList.take p).all byteOk = true)) (fun wr => s.size - wr.iterPos w.heap.size)
     case atStart => exact ⟨0, Nat.zero_le _, rfl, by unfold Hid; simp⟩
     case round =>
      obtain ⟨p, hp, rfl, hT⟩ := hrel
      by_cases hlt : p < s.size
      ·by_cases hascii : (s[p]'hlt).toNat < 128
       ·have hn := fun ty => run_next_ascii (P := Tryz.prog) w s p ty hlt hascii
        generalize hb : (s[p]'hlt) = b at *
        have HB := Lib.hid hb
        clear hb
        by_cases hok : 33 ≤ b.toNat ∧ b.toNat ≤ 126 ∧ b.toNat ≠ 47
        ·obtain ⟨k1, k2, k3⟩ := hok
         have k4 : ((b.toNat : Int) == 47) = false := by simp; omega
         have k5 : ¬ ((b.toNat : Int) < 33) := by omega
         have k6 : ¬ ((126 : Int) < (b.toNat : Int)) := by omega
         go_wp2
         go_roundw
         case rel => exact ⟨p + 1, by omega, rfl, take_all hlt hT.out (by rw [HB.out]; simp [byteOk, k1, k2, k3])⟩
         case measure => simp; omega
        ·have HE := Lib.hid (checkN_bad (nameOk_all (bad_all hlt (by rw [HB.out]; simp [byteOk]; omega))))
         by_cases k5 : (b.toNat : Int) < 33
         ·go_wp2
          go_ret
          exact ⟨ret_int HE.out.symm, (Below.refl _ _).alloc (Nat.le_refl _) _⟩
         ·by_cases k6 : (126 : Int) < (b.toNat : Int)
          ·go_wp2
           go_ret
           exact ⟨ret_int HE.out.symm, (Below.refl _ _).alloc (Nat.le_refl _) _⟩
          ·have k4 : ((b.toNat : Int) == 47) = true := by simp; omega
           go_wp2
           go_ret
           exact ⟨ret_int HE.out.symm, (Below.refl _ _).alloc (Nat.le_refl _) _⟩
       ·have hn := fun ty => run_next_any (P := Tryz.prog) w s p ty hlt
        have hd := (decode_high s p hlt (by omega)).1
        have hle := decode_le s p
        have HE := Lib.hid (checkN_bad (nameOk_all (bad_all hlt (by simp [byteOk]; omega))))
        generalize (Utf8.decode s p).1 = r at *
        have k5 : ¬ ((r : Int) < 33) := by omega
        have k6 : (126 : Int) < (r : Int) := by omega
        go_wp2
        go_ret
        exact ⟨ret_int HE.out.symm, (Below.refl _ _).alloc (Nat.le_refl _) _⟩
      ·have hn := fun ty => run_next_end (P := Tryz.prog) w s p ty hlt
       have HE := Lib.hid (HN.out (by
        have h1 := hT.out
        rwa [List.take_of_length_le (by simp; omega)] at h1))
       go_wp2
       go_ret
       exact ⟨ret_int HE.out.symm, (Below.refl _ _).alloc (Nat.le_refl _) _⟩

theorem rcheck_any (s : ByteArray) (w : World) (hs : s.size ≤ 9223372036854775807) :
  Calls Tryz.prog 87 #[.string s] w fun e w' => e = .returned (.int .i64 (checkN s)) ∧ w = w' := by
 by_cases h0 : s.size = 0
 ·have HE := Lib.hid (checkN_bad (s := s) (by simp [nameOk, h0]))
  have h1 : (s.size : Int) < 1 := by simp [h0]
  clear h0
  go_enter Tryz.func87, Tryz.ntmps87
  go_wp2
  go_ret
  exact ⟨ret_int HE.out.symm, rfl⟩
 ·have h1 : ¬ (s.size : Int) < 1 := by omega
  by_cases h10 : 10 < s.size
  ·have HE := Lib.hid (checkN_bad (s := s) (by simp [nameOk, show ¬ s.size ≤ 10 by omega]))
   have h2 : (10 : Int) < (s.size : Int) := by omega
   clear h0
   go_enter Tryz.func87, Tryz.ntmps87
   go_wp2
   go_ret
   exact ⟨ret_int HE.out.symm, rfl⟩
  ·have h2 : ¬ ((10 : Int) < (s.size : Int)) := by omega
   cases hd : s.toList == [46] with
   | true =>
    have HE := Lib.hid (checkN_bad (s := s) (by simp [nameOk, hd]))
    go_enter Tryz.func87, Tryz.ntmps87
    go_wp2
    go_ret
    exact ⟨ret_int HE.out.symm, rfl⟩
   | false =>
    cases hdd : s.toList == [46, 46] with
    | true =>
     have HE := Lib.hid (checkN_bad (s := s) (by simp [nameOk, hdd]))
     go_enter Tryz.func87, Tryz.ntmps87
     go_wp2
     go_ret
     exact ⟨ret_int HE.out.symm, rfl⟩
    | false =>
     have HN := Lib.hid (show s.data.toList.all byteOk = true → checkN s = 0 from fun h => checkN_ok (by simp only [nameOk, hd, hdd, h]; simp; omega))
     have hsz : s.size ≤ 10 := by omega
     go_enter Tryz.func87, Tryz.ntmps87
     go_wp2
     clear h0 h1 h2 h10 hd hdd
     go_loop [3] (fun i => ∃ p : Nat, p ≤ s.size ∧ i = .int .i64 p ∧ Hid ((s.data.toList.take p).all byteOk = true)) (fun i => s.size - (intOf i).toNat)
     case atStart => exact ⟨0, Nat.zero_le _, rfl, by unfold Hid; simp⟩
     case round =>
      obtain ⟨p, hp, rfl, hT⟩ := hrel
      by_cases hlt : p < s.size
      ·by_cases hok : 33 ≤ (s[p]'hlt).toNat ∧ (s[p]'hlt).toNat ≤ 126 ∧ (s[p]'hlt).toNat ≠ 47
       ·obtain ⟨k1, k2, k3⟩ := hok
        have k4 : (((s[p]'hlt).toNat : Int) == 47) = false := beq_eq_false_iff_ne.2 (by omega)
        have k5 : ¬ (((s[p]'hlt).toNat : Int) < 33) := by omega
        have k6 : ¬ ((126 : Int) < ((s[p]'hlt).toNat : Int)) := by omega
        have HB := Lib.hid (show byteOk (s[p]'hlt) = true by simp [byteOk, k1, k2, k3])
        clear k1 k2 k3
        go_wp2
        go_round
        case rel => exact ⟨p + 1, by omega, by go_num, take_all hlt hT.out HB.out⟩
        case measure => simp [intOf]; omega
       ·have HE := Lib.hid (checkN_bad (nameOk_all (bad_all hlt (by simp [byteOk]; omega))))
        by_cases k5 : ((s[p]'hlt).toNat : Int) < 33
        ·clear hok
         go_wp2
         go_ret
         exact ⟨ret_int HE.out.symm, rfl⟩
        ·by_cases k6 : (126 : Int) < ((s[p]'hlt).toNat : Int)
         ·clear hok
          go_wp2
          go_ret
          exact ⟨ret_int HE.out.symm, rfl⟩
         ·have k4 : (((s[p]'hlt).toNat : Int) == 47) = true := beq_iff_eq.2 (by omega)
          clear hok
          go_wp2
          go_ret
          exact ⟨ret_int HE.out.symm, rfl⟩
      ·have HE := Lib.hid (HN.out (by
        have h1 := hT.out
        rwa [List.take_of_length_le (by simp; omega)] at h1))
       go_wp2
       go_ret
       exact ⟨ret_int HE.out.symm, rfl⟩
end Go.Proofs.YtpkhglfhpggceaaGreatDoor
