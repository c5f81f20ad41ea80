/- Join of Split is the path, Split of Join the names: plain. -/
import Derived.Test.YtcjgmkjjogemhaaDoorJoin
namespace Go.Proofs.YtcjgmkjjogemhaaDoor
open Go Go.Lib

theorem cut_join : ∀ (l : List (List UInt8)), l ≠ [] → (∀ a ∈ l, ∀ x ∈ a, x ≠ 47) → cut (Lib.join l [47]) = l := by
  intro l
  induction l with
  | nil => intro h; exact absurd rfl h
  | cons a r ih =>
    intro _ hall
    cases hr : r with
    | nil => rw [join_one, cut_none a (hall a (by simp))]
    | cons b t =>
      have e : Lib.join (a :: b :: t) [47] = a ++ 47 :: Lib.join (b :: t) [47] := by
        rw [join_cons, join_cons]
        simp [joinTail]
      rw [e, cut_at a _ (hall a (by simp)), ← hr, ih (by rw [hr]; simp) (fun c hc => hall c (List.mem_cons_of_mem _ hc))]
theorem join_cut : ∀ (l : List UInt8), Lib.join (cut l) [47] = l := by
  intro l
  induction l with
  | nil => rfl
  | cons x xs ih =>
    rw [cut_cons]
    split
    · rename_i h
      subst h
      cases hc : cut xs with
      | nil => exact absurd hc (cut_ne xs)
      | cons a t =>
        rw [hc] at ih
        rw [join_cons] at ih ⊢
        rw [show joinTail [47] (a :: t) = 47 :: a ++ joinTail [47] t by simp [joinTail], List.cons_append, ih]
        rfl
    · split
      · rename_i a t hc
        rw [hc, join_cons] at ih
        rw [join_cons, List.cons_append, ih]
      · rename_i hc
        exact absurd hc (cut_ne xs)

/-- Split of Join. -/
theorem split_join {l : List ByteArray} (h : checkL l = 0) : splitN (joinN l).1 = (l, 0) := by
  obtain ⟨hall, _⟩ := checkL_all h
  unfold joinN
  rw [if_pos h]
  cases hl : l with
  | nil =>
    rw [if_pos rfl]
    have e : (slash.toList == [47]) = true := by rw [ByteArray.toList_eq]; rfl
    exact splitN_root e
  | cons u r =>
    rw [if_neg (by simp)]
    have hj := jt_join u r
    have hp : parts (ofList (Lib.join ((u :: r).map (·.data.toList)) [47])) = u :: r := by
      unfold parts
      rw [data_ofList, cut_join _ (by simp) (fun a ha x hx => by
        obtain ⟨y, hy, rfl⟩ := List.mem_map.1 ha
        exact nameOk_slash (List.all_eq_true.1 hall y (by rw [hl]; exact hy)) x hx), List.map_map]
      conv => rhs; rw [← List.map_id (u :: r)]
      exact List.map_congr_left fun y _ => ofList_data y
    have h1 : (ofList (jt (u :: r))).data.toList = 47 :: Lib.join ((u :: r).map (·.data.toList)) [47] := by rw [data_ofList, hj]
    have h0 : ((ofList (jt (u :: r))).toList == [47]) = false := by
      rw [ByteArray.toList_eq, h1, List.map_cons, join_cons]
      have hu := (nameOk_size (List.all_eq_true.1 hall u (by rw [hl]; simp))).1
      have hd := len_data u
      cases hud : u.data.toList with
      | nil => rw [hud] at hd; simp at hd; omega
      | cons x xs => simp
    rw [splitN_path h0 h1, hp, ← hl, if_pos h, hl]

/-- Join of Split. -/
theorem join_split {p : ByteArray} (h : (splitN p).2 = 0) : joinN (splitN p).1 = (p, 0) ∧ checkL (splitN p).1 = 0 := by
  cases h0 : p.toList == [47] with
  | true =>
    rw [splitN_root h0]
    have hc : checkL [] = 0 := by simp [checkL]
    refine ⟨?_, hc⟩
    show joinN [] = (p, 0)
    unfold joinN
    rw [if_pos hc, if_pos rfl]
    have hp : p.toList = slash.toList := by rw [beq_iff_eq.1 h0, ByteArray.toList_eq]; rfl
    rw [ByteArray.toList_eq, ByteArray.toList_eq] at hp
    have : p = slash := by rw [← ofList_data p, hp, ofList_data]
    rw [this]
  | false =>
    by_cases hp : ∃ r, p.data.toList = 47 :: r
    · obtain ⟨r, hr⟩ := hp
      rw [splitN_path h0 hr] at h ⊢
      split at h
      · rename_i hc
        rw [if_pos hc]
        refine ⟨?_, hc⟩
        show joinN (parts (ofList r)) = (p, 0)
        unfold joinN
        rw [if_pos hc]
        have hne : parts (ofList r) ≠ [] := by
          unfold parts
          rw [Ne, List.map_eq_nil_iff]
          exact cut_ne _
        rw [if_neg hne]
        cases hq : parts (ofList r) with
        | nil => exact absurd hq hne
        | cons a t =>
          rw [← jt_join, ← hq]
          have e : (parts (ofList r)).map (·.data.toList) = cut r := by
            unfold parts
            rw [data_ofList, List.map_map]
            conv => rhs; rw [← List.map_id (cut r)]
            exact List.map_congr_left fun y _ => data_ofList y
          rw [e, join_cut, ← hr, ofList_data]
      · rename_i hc
        exact absurd h hc
    · rw [splitN_none h0 (fun r h => hp ⟨r, h⟩)] at h
      cases h
end Go.Proofs.YtcjgmkjjogemhaaDoor
