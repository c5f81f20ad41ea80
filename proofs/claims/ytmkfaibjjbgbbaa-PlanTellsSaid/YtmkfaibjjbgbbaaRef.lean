/- The reference's graph, as it lies; New, meet, find, own of package scupperref14. -/
import Derived.Test.YtmkfaibjjbgbbaaPlanE
import Derived.Laws.AppendOwnNone
namespace Go.Proofs.Ytmkfaibjjbgbbaa
open Go.RowKit
set_option linter.unusedVariables false
attribute [local go_sem ↓] Go.wp_at_zero Go.wp_at_succ

/-- append of whatever can be read to a row of the call's own. -/
theorem wpList_append_row {P : Program} {w : World} {ops : Array Oper} {rest : List Oper} {o : Oper} {a : Act} {Q : Exit → Act → World → Prop} (hgd : o.guard = none) (s x : Operand) (t : TypeId)
    (ho : o.op = .call { callee := .builtin .append, args := #[s, x], argTypes := #[t, t] })
    (base : Nat) (e : TypeId) (i : TypeInfo) (z : Value) (size bytes : Nat) (ht : P.underlying t = some (.slice e)) (hi : P.info? e = some i) (hz : i.zero = some z)
    (hsize : i.size = size) (hby : i.bytes = bytes) (hzs : z.cells.size = size) (hsz : 0 < size)
    (v : Value) (n : Nat) (xs : List Value) (hs : a.eval s = v) (hown : w.ownsRow base e size v n xs)
    (A : Option Addr) (m c : Nat) (news : List Value) (hx : a.eval x = .slice A m c) (hl : news.length = m * size) (hA : A = none → c = 0 ∧ m = 0) (hnews : ∀ ad, A = some ad → ∀ j u, news[j]? = some u → w.cell? (ad.add j) = some u) (h1 : ∀ u ∈ news, u.oneCell' = true)
    (h63 : n + m ≤ maxLen) (hbytes : (n + m) * bytes ≤ 140737488355328) (hbase : base ≤ w.heap.size)
    (h : ∀ v' w', w'.ownsRow base e size v' (n + m) (xs ++ news) → w.grownBy w' v.ownBlock → (v'.ownBlock = v.ownBlock ∨ v'.ownBlock = some w.heap.size) → wpList P ops Q rest (a.put o.dst v') w') : wpList P ops Q (o :: rest) a w := by
  rcases A with _ | ad
  · obtain ⟨rfl, rfl⟩ := hA rfl
    obtain rfl : news = [] := List.eq_nil_of_length_eq_zero (by simpa using hl)
    refine wpList_append_own_none hgd s x t ho base e i size ht hi v n xs hs hown hx (h v w ?_ ⟨rfl, rfl, rfl, Nat.le_refl _, fun _ _ _ => rfl⟩ (.inl rfl))
    simpa using hown
  · exact wpList_append_own_at _ hgd s x t ho base e i z size bytes ht hi hz hsize hby hzs hsz v n xs hs hown ad m c news hx hl (hnews ad rfl) h1 h63 hbytes hbase (fun v' w' h2 h3 _ h5 => h v' w' h2 h3 h5)
theorem Row.parts {w : World} {v : Value} {xs : List Value} (h : Row w v xs) : ∃ A c, v = .slice A xs.length c ∧ (A = none → c = 0 ∧ xs.length = 0) ∧ (∀ ad, A = some ad → ∀ j u, xs[j]? = some u → w.cell? (ad.add j) = some u) ∧ xs.length ≤ c ∧ c ≤ maxLen := by
  obtain ⟨A, c, e, h1, h2, h0, h3⟩ := h
  exact ⟨A, c, e, fun hA => ⟨h0 hA, by have := h0 hA; omega⟩, fun ad hA j u hu => (h3 ad hA j u hu).2, h1, h2⟩

def ptCells (L : List (Value × Value × Pt)) : List Value := L.flatMap fun e => (e.2.2.cells e.1 e.2.1).toList
theorem ptCells_len (L : List (Value × Value × Pt)) : (ptCells L).length = L.length * 9 := by
  induction L with
  | nil => rfl
  | cons e L ih =>
    have hc : ptCells (e :: L) = (e.2.2.cells e.1 e.2.1).toList ++ ptCells L := rfl
    rw [hc, List.length_append, ih, List.length_cons]
    simp [Pt.cells]
    omega
theorem ptCells_at : ∀ (L : List (Value × Value × Pt)) (k : Nat) (e : Value × Value × Pt), L[k]? = some e → ∀ (j : Nat) (u : Value), (e.2.2.cells e.1 e.2.1)[j]? = some u → (ptCells L)[k * 9 + j]? = some u := by
  intro L
  induction L with
  | nil => intro k e h; cases h
  | cons a L ih =>
    intro k e h j u hu
    have hc : ptCells (a :: L) = (a.2.2.cells a.1 a.2.1).toList ++ ptCells L := rfl
    have hl : (a.2.2.cells a.1 a.2.1).toList.length = 9 := by simp [Pt.cells]
    have hj : j < 9 := by
      rcases Nat.lt_or_ge j 9 with h | h
      · exact h
      · rw [Array.getElem?_eq_none (by simpa [Pt.cells] using h)] at hu; cases hu
    rw [hc]
    cases k with
    | zero =>
      simp at h
      subst h
      rw [Nat.zero_mul, Nat.zero_add, List.getElem?_append_left (by omega)]
      simpa using hu
    | succ k =>
      rw [List.getElem?_append_right (by omega), hl, show (k + 1) * 9 + j - 9 = k * 9 + j by omega]
      exact ih k e (by simpa using h) j u hu
theorem ptCells_one (L : List (Value × Value × Pt)) (h : ∀ e ∈ L, ∃ A m c B n d, e.1 = .slice A m c ∧ e.2.1 = .slice B n d) : ∀ u ∈ ptCells L, u.oneCell' = true := by
  intro u hu
  unfold ptCells at hu
  obtain ⟨e, he, hu⟩ := List.mem_flatMap.1 hu
  obtain ⟨A, m, c, B, n, d, e1, e2⟩ := h e he
  rw [e1, e2] at hu
  simp [Pt.cells] at hu
  rcases hu with rfl | rfl | rfl | rfl | rfl | rfl | rfl | rfl | rfl <;> simp [Value.oneCell']

/-- A list of patches that nobody writes any more. -/
def RL (w : World) (v : Value) (l : List Pt) : Prop :=
  ∃ L : List (Value × Value × Pt), l = L.map (·.2.2) ∧ (∀ e ∈ L, Arr w 5 e.1 (bytes e.2.2.data) ∧ Arr w 3 e.2.1 (ints e.2.2.needs)) ∧
    ((v = .slice none 0 0 ∧ L = []) ∨ ∃ g c cs, v = .slice (some ⟨g, 0, none⟩) L.length c ∧ L.length ≤ c ∧ c ≤ maxLen ∧ Blk w g 30 cs ∧ ∀ (i : Nat) (u : Value), (ptCells L)[i]? = some u → cs[i]? = some u)
def RG (w : World) (b : Nat) (x : G) : Prop := ∃ v, Blk w b 91 #[.int .i64 x.last, v] ∧ RL w v x.l

section
variable {w w' : World} {v : Value} {l : List Pt} {b : Nat} {x : G}
theorem RL.nil (w : World) : RL w (.slice none 0 0) [] := ⟨[], rfl, (fun e h => by cases h), .inl ⟨rfl, rfl⟩⟩
theorem RL.move (h : RL w v l) (hb : ∀ g t cs, (t = 3 ∨ t = 5 ∨ t = 30) → Blk w g t cs → Blk w' g t cs) : RL w' v l := by
  obtain ⟨L, e, h1, h2⟩ := h
  refine ⟨L, e, fun e he => ⟨(h1 e he).1.move fun g cs k => hb g 5 cs (.inr (.inl rfl)) k, (h1 e he).2.move fun g cs k => hb g 3 cs (.inl rfl) k⟩, ?_⟩
  rcases h2 with h2 | ⟨g, c, cs, h3, h4, h5, h6, h7⟩
  · exact .inl h2
  · exact .inr ⟨g, c, cs, h3, h4, h5, hb g 30 cs (.inr (.inr rfl)) h6, h7⟩
theorem RL.below (h : RL w v l) (hb : Below w.heap.size w w') : RL w' v l := h.move fun g t cs _ k => k.below hb k.lt
theorem RL.len (h : RL w v l) : ∃ A c, v = .slice A l.length c ∧ l.length ≤ c ∧ c ≤ maxLen := by
  obtain ⟨L, rfl, h1, h2⟩ := h
  rw [List.length_map]
  rcases h2 with ⟨rfl, rfl⟩ | ⟨g, c, cs, h3, h4, h5, _⟩
  · exact ⟨_, _, rfl, Nat.le_refl _, Nat.zero_le _⟩
  · exact ⟨_, _, h3, h4, h5⟩
theorem RL.at (h : RL w v l) {k : Nat} {p : Pt} (hk : l[k]? = some p) : ∃ g c A1 k1 A2 k2, v = .slice (some ⟨g, 0, none⟩) l.length c ∧
    (∀ (j : Nat) (u : Value), (p.cells (.slice A1 (bytes p.data).length k1) (.slice A2 (ints p.needs).length k2))[j]? = some u → w.cell? ⟨g, k * 9 + j, none⟩ = some u) ∧
    PtV w (p.val (.slice A1 (bytes p.data).length k1) (.slice A2 (ints p.needs).length k2)) p ∧ g < w.heap.size := by
  obtain ⟨L, rfl, h1, h2⟩ := h
  rw [List.getElem?_map] at hk
  cases hL : L[k]? with
  | none => rw [hL] at hk; cases hk
  | some e =>
    rw [hL] at hk
    obtain rfl : e.2.2 = p := by simpa using hk
    rcases h2 with ⟨_, rfl⟩ | ⟨g, c, cs, h3, h4, h5, h6, h7⟩
    · cases hL
    obtain ⟨hd, hn⟩ := h1 e (List.mem_of_getElem? hL)
    have hV : PtV w (e.2.2.val e.1 e.2.1) e.2.2 := ⟨_, _, rfl, hd, hn⟩
    have hc : ∀ (j : Nat) (u : Value), (e.2.2.cells e.1 e.2.1)[j]? = some u → w.cell? ⟨g, k * 9 + j, none⟩ = some u := fun j u hu => (h6.cell (k * 9 + j)).trans (h7 _ u (ptCells_at L k e hL j u hu))
    obtain ⟨A1, k1, e1, -, -⟩ := hd.len
    obtain ⟨A2, k2, e2, -, -⟩ := hn.len
    rw [e1, e2] at hV hc
    exact ⟨g, c, A1, k1, A2, k2, by rw [h3, List.length_map], hc, hV, h6.lt⟩
theorem RG.below (h : RG w b x) (hb : Below w.heap.size w w') : RG w' b x := by
  obtain ⟨v, h1, h2⟩ := h
  exact ⟨v, h1.below hb h1.lt, h2.below hb⟩
theorem RG.lt (h : RG w b x) : b < w.heap.size := by obtain ⟨v, h1, _⟩ := h; exact h1.lt
end

theorem rnew_any (w : World) : Calls Try.prog 20 #[] w fun e w' => ∃ b, e = .returned (.pointer (some ⟨b, 0, none⟩)) ∧ RG w' b G.none ∧ Below w.heap.size w w' ∧ w.heap.size ≤ b := by
  go_enter Try.func20, Try.ntmps20
  go_wp2
  go_ret
  exact ⟨_, rfl, ⟨_, Blk.new _ _ _, RL.nil _⟩, (Below.refl _ _).alloc (Nat.le_refl _) _, Nat.le_refl _⟩

def meetR (p q : Pt) : Bool := decide (p.sec = q.sec) && meetB p q
set_option maxHeartbeats 1000000 in
theorem rmeet_any (v u : Value) (p q : Pt) (w : World) (hp : PtV w v p) (hq : PtV w u q) (sp : p.small) (sq : q.small) :
    Calls Try.prog 100 #[v, u] w fun e w' => e = .returned (.bool (meetR p q)) ∧ Below w.heap.size w w' := by
  obtain ⟨vd, vn, rfl, hd, hn⟩ := hp
  obtain ⟨ud, un, rfl, kd, kn⟩ := hq
  obtain ⟨A, c, rfl, h1, h2⟩ := hd.len
  obtain ⟨B, d, rfl, k1, k2⟩ := kd.len
  rw [bytes_len] at h1 k1 ⊢
  rw [bytes_len]
  obtain ⟨s1, s2, s3⟩ := sp
  obtain ⟨r1, r2, r3⟩ := sq
  have HM : meetR p q = (decide (p.sec = q.sec) && (!decide (p.kind = q.kind) || (decide (p.off < q.off + q.data.length) && decide (q.off < p.off + p.data.length)))) := rfl
  clear hd hn kd kn
  unfold Pt.val
  by_cases hs : p.sec = q.sec
  · by_cases hk : p.kind = q.kind
    · have t1 : (p.kind != q.kind) = false := by simp [hk]
      have t0 : (p.sec == q.sec) = true := by simp [hs]
      have e1 : IntKind.i64.wrap (q.off + q.data.length) = q.off + q.data.length := IntWalk.i64_in _ (by omega) |>.trans (by omega)
      have e2 : IntKind.i64.wrap (p.off + p.data.length) = p.off + p.data.length := IntWalk.i64_in _ (by omega) |>.trans (by omega)
      by_cases ha : p.off < q.off + q.data.length
      · by_cases hb : q.off < p.off + p.data.length
        · have HF := Lib.hid (show meetR p q = true by rw [HM]; simp [hs, hk, ha, hb])
          clear HM hs
          go_enter Try.func100, Try.ntmps100
          go_wp2
          go_ret
          exact ⟨by rw [HF.out]; rfl, ((Below.refl _ _).alloc (Nat.le_refl _) _).alloc (by simp) _⟩
        · have HF := Lib.hid (show meetR p q = false by rw [HM]; simp [hk, ha, hb])
          clear HM hs
          go_enter Try.func100, Try.ntmps100
          go_wp2
          go_ret
          exact ⟨by rw [HF.out]; rfl, ((Below.refl _ _).alloc (Nat.le_refl _) _).alloc (by simp) _⟩
      · have HF := Lib.hid (show meetR p q = false by rw [HM]; simp [hk, ha])
        clear HM hs
        go_enter Try.func100, Try.ntmps100
        go_wp2
        go_ret
        exact ⟨by rw [HF.out]; rfl, ((Below.refl _ _).alloc (Nat.le_refl _) _).alloc (by simp) _⟩
    · have t1 : (p.kind != q.kind) = true := bne_iff_ne.2 hk
      have t0 : (p.sec == q.sec) = true := by simp [hs]
      have HF := Lib.hid (show meetR p q = true by rw [HM]; simp [hs, hk])
      clear HM hs
      go_enter Try.func100, Try.ntmps100
      go_wp2
      go_ret
      exact ⟨by rw [HF.out]; rfl, ((Below.refl _ _).alloc (Nat.le_refl _) _).alloc (by simp) _⟩
  · have t0 : (p.sec == q.sec) = false := by simp [hs]
    have HF := Lib.hid (show meetR p q = false by rw [HM]; simp [hs])
    clear HM hs
    go_enter Try.func100, Try.ntmps100
    go_wp2
    go_ret
    exact ⟨by rw [HF.out]; rfl, ((Below.refl _ _).alloc (Nat.le_refl _) _).alloc (by simp) _⟩

def findI (l : List Pt) (id : Int) : Int := match l.findIdx? (fun p => decide (p.id = id)) with | some k => k | none => -1
theorem findI_lt {l : List Pt} {id : Int} (h : ∀ (k : Nat) (p : Pt), l[k]? = some p → p.id ≠ id) : findI l id = -1 := by
  unfold findI
  have : l.findIdx? (fun p => decide (p.id = id)) = none := by
    rw [List.findIdx?_eq_none_iff]
    intro p hp
    obtain ⟨k, hk⟩ := List.mem_iff_getElem?.1 hp
    simpa using h k p hk
  rw [this]
theorem findI_at {l : List Pt} {id : Int} {k : Nat} {p : Pt} (hk : l[k]? = some p) (he : p.id = id) (h : ∀ (j : Nat) (p : Pt), j < k → l[j]? = some p → p.id ≠ id) : findI l id = k := by
  unfold findI
  have hkl : k < l.length := by
    rcases Nat.lt_or_ge k l.length with h | h
    · exact h
    · rw [List.getElem?_eq_none h] at hk; cases hk
  have hkp : l[k] = p := by rw [List.getElem?_eq_getElem hkl] at hk; exact Option.some.inj hk
  have : l.findIdx? (fun p => decide (p.id = id)) = some k := by
    rw [List.findIdx?_eq_some_iff_getElem]
    refine ⟨hkl, by rw [hkp]; simpa using he, fun j hj => ?_⟩
    have := h j l[j] hj (List.getElem?_eq_getElem (by omega))
    simpa using this
  rw [this]

set_option maxHeartbeats 1000000 in
theorem rfind_any (b : Nat) (x : G) (id : Int) (w : World) (h : RG w b x) : Calls Try.prog 97 #[.pointer (some ⟨b, 0, none⟩), .int .i64 id] w fun e w' => e = .returned (.int .i64 (findI x.l id)) ∧ w' = w := by
  obtain ⟨v, hb, hl⟩ := h
  obtain ⟨A, c, rfl, h1, h2⟩ := hl.len
  have HL := Lib.hid hl
  have c1 := hb.cell 1
  simp at c1
  unfold maxLen at h2
  clear hb hl
  go_enter Try.func97, Try.ntmps97
  go_wp2
  go_loopw [5] (fun i wr => ∃ k : Nat, k ≤ x.l.length ∧ i = .int .i64 k ∧ wr = w ∧ Hid (∀ (j : Nat) (p : Pt), j < k → x.l[j]? = some p → p.id ≠ id)) (fun i _ => x.l.length - (intOf i).toNat)
  case atStart => exact ⟨0, Nat.zero_le _, rfl, rfl, fun j p hj => by omega⟩
  case round =>
    obtain ⟨k, hk, rfl, rfl, hT⟩ := hrel
    by_cases hlt : k < x.l.length
    · obtain ⟨p, hp⟩ : ∃ p, x.l[k]? = some p := ⟨_, List.getElem?_eq_getElem hlt⟩
      obtain ⟨g, c', A1, k1, A2, k2, e, hcs, -, -⟩ := HL.out.at hp
      injection e with e1 e2 e3
      subst e1 e3
      have hc0 : wr.cell? ⟨g, k * 9, none⟩ = some (.int .i64 p.id) := hcs 0 _ rfl
      have HP := Lib.hid hp
      clear hcs hp e2
      by_cases hid : p.id = id
      · have ht : (p.id == id) = true := by simp [hid]
        have HF := Lib.hid (findI_at HP.out hid hT.out)
        clear hid
        go_wp2
        go_ret
        exact ⟨ret_int HF.out.symm, rfl⟩
      · have ht : (p.id == id) = false := by simp [hid]
        have HI := Lib.hid hid
        clear hid
        go_wp2
        go_roundw
        case rel => exact ⟨k + 1, by omega, by go_num, by first | trivial | rfl, fun j q hj hq => by
          rcases Nat.lt_or_ge j k with h | h
          · exact hT.out j q h hq
          · obtain rfl : j = k := by omega
            rw [HP.out] at hq
            rw [← Option.some.inj hq]
            exact HI.out⟩
        case measure => simp [intOf]; omega
    · obtain rfl : k = x.l.length := by omega
      have HF := Lib.hid (findI_lt (l := x.l) (id := id) (fun j p hj => hT.out j p (by
        rcases Nat.lt_or_ge j x.l.length with h | h
        · exact h
        · rw [List.getElem?_eq_none h] at hj; cases hj) hj))
      go_wp2
      go_ret
      exact ⟨ret_int HF.out.symm, rfl⟩
end Go.Proofs.Ytmkfaibjjbgbbaa
