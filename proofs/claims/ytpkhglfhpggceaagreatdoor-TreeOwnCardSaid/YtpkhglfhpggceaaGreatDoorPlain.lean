/- A text's parts between '/'; names, paths and what lies inside what: plain, no program in sight. -/
import Derived.Test.YtpkhglfhpggceaaGreatDoorBase
import Derived.Lib.SplitLaws
import Derived.Lib.IndexBytes
namespace Go.Proofs.YtpkhglfhpggceaaGreatDoor
open Go Go.Lib

def cut : List UInt8 → List (List UInt8)
 | [] => [[]]
 | x :: xs => if x = 47 then [] :: cut xs else match cut xs with | h :: t => (x :: h) :: t | [] => [[x]]
def ofList (l : List UInt8) : ByteArray := ⟨l.toArray⟩
def parts (s : ByteArray) : List ByteArray := (cut s.data.toList).map ofList
def slash : ByteArray := ⟨#[47]⟩

theorem ofList_data (s : ByteArray) : ofList s.data.toList = s := by cases s; simp [ofList]
theorem data_ofList (l : List UInt8) : (ofList l).data.toList = l := by simp [ofList]
theorem size_ofList (l : List UInt8) : (ofList l).size = l.length := rfl
theorem len_data (s : ByteArray) : s.data.toList.length = s.size := by cases s; rfl

theorem cut_cons (x : UInt8) (xs : List UInt8) : cut (x :: xs) = if x = 47 then [] :: cut xs else match cut xs with | h :: t => (x :: h) :: t | [] => [[x]] := rfl
theorem cut_ne (l : List UInt8) : cut l ≠ [] := by
 cases l with
 | nil => simp [cut]
 | cons x xs =>
  rw [cut_cons]
  split
  ·simp
  ·split <;> simp
theorem cut_none (l : List UInt8) (h : ∀ x ∈ l, x ≠ 47) : cut l = [l] := by
 induction l with
 | nil => rfl
 | cons x xs ih =>
  rw [cut_cons, if_neg (h x (by simp)), ih (fun y hy => h y (by simp [hy]))]
theorem cut_at (a b : List UInt8) (h : ∀ x ∈ a, x ≠ 47) : cut (a ++ 47 :: b) = a :: cut b := by
 induction a with
 | nil => simp [cut]
 | cons x xs ih =>
  rw [List.cons_append]
  rw [cut_cons, if_neg (h x (by simp)), ih (fun y hy => h y (by simp [hy]))]

theorem idx_cut (l : List UInt8) : (indexByte l 47 = -1 ∧ cut l = [l]) ∨ ∃ i : Nat, indexByte l 47 = i ∧ i < l.length ∧ cut l = l.take i :: cut (l.drop (i + 1)) := by
 induction l with
 | nil => exact .inl ⟨rfl, rfl⟩
 | cons x xs ih =>
  by_cases hx : x = 47
  ·subst hx
   exact .inr ⟨0, by simp [indexByte], by simp, by simp [cut]⟩
  ·have hb : (x == 47) = false := by simp [hx]
   rcases ih with ⟨h1, h2⟩ | ⟨i, h1, hl, h2⟩
   ·refine .inl ⟨by simp [indexByte, hb, h1], ?_⟩
    rw [cut_cons, if_neg hx, h2]
   ·refine .inr ⟨i + 1, ?_, by simpa using hl, ?_⟩
    ·simp only [indexByte, hb, h1]
     have : ((i : Int) == -1) = false := by simp
     simp [this]
    ·rw [cut_cons, if_neg hx, h2]
     rfl

theorem slash_size : slash.size = 1 := rfl
theorem extract_ofList (s : ByteArray) (a b : Nat) : s.extract a b = ofList ((s.data.toList.drop a).take (b - a)) := by
 rw [← ofList_data (s.extract a b), Lib.extract_data]
theorem splitB_parts : ∀ (n : Nat) (s : ByteArray), s.size ≤ n → splitB slash 0 (countB s slash) s = parts s := by
 intro n
 induction n with
 | zero =>
  intro s hs
  have hl : s.data.toList = [] := List.eq_nil_of_length_eq_zero (by rw [len_data]; omega)
  have hi : indexB s slash = -1 := by
   show index s.data.toList [47] = -1
   rw [index_one, hl]; rfl
  rw [splitB_miss _ _ _ _ hi]
  unfold parts
  rw [hl]
  simp only [cut, List.map_cons, List.map_nil]
  rw [← ofList_data s, hl]
 | succ n ih =>
  intro s hs
  have hix : indexB s slash = indexByte s.data.toList 47 := index_one _ _
  rcases idx_cut s.data.toList with ⟨h1, h2⟩ | ⟨i, h1, hl, h2⟩
  ·rw [splitB_miss _ _ _ _ (hix.trans h1)]
   unfold parts
   rw [h2]
   simp [ofList_data]
  ·rw [countB_hit s slash i (by decide) (hix.trans h1), Nat.add_comm 1, splitB_hit _ _ _ _ i (hix.trans h1)]
   rw [ih]
   ·unfold parts
    rw [h2, List.map_cons, Nat.add_zero, extract_ofList s 0 i, slash_size, Lib.extract_to_end]
    simp
   ·rw [ByteArray.size_extract, slash_size]
    omega

theorem count_parts : ∀ (n : Nat) (s : ByteArray), s.size ≤ n → countB s slash + 1 = (parts s).length := by
 intro n s hs
 rw [← splitB_parts n s hs, splitB_all slash (by decide) 0 _ s rfl]

/-- What Check, check, Split, Join and Last come to. -/
def byteOk (b : UInt8) : Bool := decide (33 ≤ b.toNat) && decide (b.toNat ≤ 126) && !decide (b.toNat = 47)
def nameOk (s : ByteArray) : Bool := decide (1 ≤ s.size) && decide (s.size ≤ 10) && !(s.toList == [46]) && !(s.toList == [46, 46]) && s.data.toList.all byteOk
def checkN (s : ByteArray) : Int := if nameOk s then 0 else 45
def checkL (l : List ByteArray) : Int := if l.all nameOk then if l.length > 16 then 3 else 0 else 45
def tail1 (s : ByteArray) : ByteArray := ofList (s.data.toList.drop 1)
def splitN (p : ByteArray) : List ByteArray × Int :=
 if p.toList == [47] then ([], 0) else
 match p.data.toList with
 | 47 :: r => if checkL (parts (ofList r)) = 0 then (parts (ofList r), 0) else ([], checkL (parts (ofList r)))
 | _ => ([], 45)
def lastN (p : ByteArray) : List ByteArray × ByteArray × Int :=
 if (splitN p).2 = 0 then if (splitN p).1 = [] then ([], ⟨#[]⟩, 2) else ((splitN p).1.dropLast, (splitN p).1.getLastD ⟨#[]⟩, 0) else ([], ⟨#[]⟩, (splitN p).2)
def insideB (l m : List ByteArray) : Bool := decide (l.length < m.length) && decide (l = m.take l.length)
end Go.Proofs.YtpkhglfhpggceaaGreatDoor
