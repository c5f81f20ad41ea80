/- What package tree does to memory: size (bytes of a size); Clone of bytes. -/
import Derived.Test.YtpkhglfhpggceaaGreatDoorRename
import Derived.Laws.MakeOwn
import Derived.Laws.CopyOwn
namespace Go.Proofs.YtpkhglfhpggceaaGreatDoor
set_option maxRecDepth 100000
set_option maxHeartbeats 16000000
open Go.RowKit
set_option linter.unusedVariables false
set_option linter.unusedSimpArgs false

/-- A slice of bytes that reads as a list. -/
def RdB (w : World) (v : Value) (l : List UInt8) : Prop := ∃ A c, v = .slice A l.length c ∧ l.length ≤ c ∧ c ≤ maxLen ∧ ∀ j b, l[j]? = some b → ∃ g o, A = some ⟨g, o, none⟩ ∧ g < w.heap.size ∧ w.cell? ⟨g, o + j, none⟩ = some (.int .u8 (b.toNat : Int))
section
variable {w w' : World} {v : Value} {l : List UInt8}
theorem RdB.nil (w : World) : RdB w (.slice none 0 0) [] := ⟨none, 0, rfl, Nat.le_refl _, Nat.zero_le _, fun j b h => by simp at h⟩
theorem Byt.rd (h : Byt w v l) : RdB w v l := by
 rcases h.shape with ⟨rfl, rfl⟩ | ⟨g, c, cur, rfl, hl, hm, hb, hc, ht⟩
 ·exact RdB.nil w
 ·refine ⟨_, c, rfl, hl, hm, fun j b hj => ⟨g, 0, rfl, hb.lt, ?_⟩⟩
  have hj2 : j < l.length := (List.getElem?_eq_some_iff.1 hj).1
  have := h.get hj2
  rw [Nat.zero_add, this, List.getD_eq_getElem?_getD, hj]
  rfl
theorem RdB.below (h : RdB w v l) (hb : Below w.heap.size w w') : RdB w' v l := by
 obtain ⟨A, c, e, h1, h2, h3⟩ := h
 refine ⟨A, c, e, h1, h2, fun j b hj => ?_⟩
 obtain ⟨g, o, eA, hg, hc⟩ := h3 j b hj
 exact ⟨g, o, eA, Nat.lt_of_lt_of_le hg hb.size, (World.cell?_of_block (a := ⟨g, o + j, none⟩) (hb.block g hg)).trans hc⟩
theorem info5 : (Tryz.prog.info? 5).map (fun i => (i.zero, i.size, i.bytes)) = some (some (.int .u8 0), 1, 1) := by kernel_rfl
theorem info_parts {ty : TypeId} {z : Value} {s b : Nat} (h : (Tryz.prog.info? ty).map (fun i => (i.zero, i.size, i.bytes)) = some (some z, s, b)) : ∃ i, Tryz.prog.info? ty = some i ∧ i.zero = some z ∧ i.size = s ∧ i.bytes = b := by
 cases hi : Tryz.prog.info? ty with
 | none => rw [hi] at h; cases h
 | some i =>
  rw [hi] at h
  simp at h
  exact ⟨i, rfl, h.1, h.2.1, h.2.2⟩
theorem made_bytes (n : Nat) : madeCells (Value.int .u8 0).cells (n * 1) = (List.replicate n (Value.int .u8 0)).toArray := by
 apply Array.ext
 ·simp [madeCells]
 ·intro i h1 h2
  simp [madeCells, Value.cells, Nat.mod_one]
theorem make28 (n : Nat) (hn : n ≤ 1000000) (W : World) : (Instr.makeSlice 28 (.int .i64 n) (.int .i64 n)).run Tryz.prog W = .ok (.slice (some ⟨W.heap.size, 0, none⟩) n n) (W.alloc (.cells (List.replicate n (Value.int .u8 0)).toArray 5)) := by
 obtain ⟨i, hi, hz, hs, hy⟩ := info_parts info5
 have h := run_make W 28 5 i (.int .u8 0) Tryz.underlying28 hi hz .i64 .i64 n n (by omega) (by omega) (by rw [hy]; omega) (by omega)
 rw [hs, Int.toNat_natCast, made_bytes] at h
 exact h
theorem addr_add (g o j : Nat) : (⟨g, o, none⟩ : Addr).add j = ⟨g, o + j, none⟩ := by unfold Addr.add; split <;> simp_all
theorem sizeL_len (d : List UInt8) (n : Nat) : (sizeL d n).length = n := by unfold sizeL; simp; omega
theorem byts_size (l : List UInt8) (n : Nat) : splice (List.replicate n (Value.int .u8 0)) 0 (byts (l.take n)) = byts (sizeL l n) := by
 unfold splice sizeL byts
 simp
 omega
theorem size_any (v : Value) (l : List UInt8) (n : Nat) (w : World) (h : RdB w v l) (hn : n ≤ 1000000) :
  Calls Tryz.prog 73 #[v, .int .i64 (n : Nat)] w fun e w' => e = .returned (.slice (some ⟨w.heap.size, 0, none⟩) n n) ∧ Byt w' (.slice (some ⟨w.heap.size, 0, none⟩) n n) (sizeL l n) ∧ Below w.heap.size w w' := by
 have hm := make28 n hn w
 have hLl : (List.replicate n (Value.int .u8 0)).length = n := List.length_replicate
 obtain ⟨A, c, rfl, hl, hcm, hc⟩ := h
 have HC := Lib.hid hc
 have HS := Lib.hid (byts_size l n)
 have HL := Lib.hid (sizeL_len l n)
 have hX := Blk.new w 5 (List.replicate n (Value.int .u8 0)).toArray
 have HX := Lib.hid (show (w.alloc (.cells (List.replicate n (Value.int .u8 0)).toArray 5)).heap[w.heap.size]? = some (.cells (List.replicate n (Value.int .u8 0)).toArray 5 (0, 0)) from hX)
 have HB := Lib.hid (below_0 w (.cells (List.replicate n (Value.int .u8 0)).toArray 5))
 obtain ⟨cs, hcs⟩ : ∃ cs, cs = byts (l.take n) := ⟨_, rfl⟩
 have hlen : cs.length = Nat.min l.length n := by rw [hcs, byts_len, List.length_take]; exact Nat.min_comm _ _
 have HLE := Lib.hid hlen
 have HCS := Lib.hid hcs
 have H1 : Hid (∀ v ∈ cs, v.oneCell' = true) := Lib.hid (by rw [hcs]; exact byts_one _)
 have HP : Hid (∀ (w1 : World), Below w.heap.size w w1 → 0 < cs.length → ∃ ad, A = some ad ∧ ∀ j v, cs[j]? = some v → w1.cell? (ad.add j) = some v) := Lib.hid (by
  intro w1 hb hp
  have hp2 : 0 < l.length := by rw [hlen] at hp; exact Nat.lt_of_lt_of_le hp (Nat.min_le_left _ _)
  obtain ⟨g, o, rfl, hg, _⟩ := hc 0 l[0] (by simp)
  refine ⟨_, rfl, fun j v hj => ?_⟩
  rw [hcs] at hj
  unfold byts at hj
  rw [List.getElem?_map, Option.map_eq_some_iff] at hj
  obtain ⟨b, hb2, rfl⟩ := hj
  have hb3 : l[j]? = some b := by
   rw [List.getElem?_take] at hb2
   split at hb2
   ·exact hb2
   ·cases hb2
  obtain ⟨g2, o2, e2, hg2, hc2⟩ := hc j b hb3
  injection e2 with e2
  injection e2 with e3 e4
  subst e3 e4
  rw [addr_add]
  exact (World.cell?_of_block (a := ⟨g, o + j, none⟩) (hb.block g hg2)).trans hc2)
 have HLL := Lib.hid hLl
 clear hc hX hcs hlen hcm hl hLl
 generalize List.replicate n (Value.int .u8 0) = L at *
 go_enter Tryz.func73, Tryz.ntmps73
 go_wp2_with (with_reducible refine wpList_copy_splice rfl (.tmp 8) (.tmp 9) 28 28 rfl 5 Tryz.underlying28 (by kernel_rfl) (some ⟨w.heap.size, 0, none⟩) A n n l.length c rfl rfl w.heap.size 0 L 5 HX.out cs HLE.out (fun hp => ⟨rfl, HP.out _ HB.out hp⟩) (by rw [HLE.out, HLL.out, Nat.zero_add]; exact Nat.min_le_right _ _) H1.out w.heap.size w HB.out (Nat.le_refl _) ?_; intro w2 HG2 hB2)
 go_ret
 refine ⟨rfl, ?_, hB2⟩
 have h1 := HG2.out
 rw [HCS.out, HS.out] at h1
 have h2 : Byt w2 (.slice (some ⟨w.heap.size, 0, none⟩) (sizeL l n).length n) (sizeL l n) := Byt.mk h1 (by rw [List.size_toArray, byts_len, HL.out]) (by rw [HL.out]; exact Nat.le_refl _) (by unfold maxLen; omega) (by rw [List.toList_toArray, List.take_of_length_le (by rw [byts_len]; exact Nat.le_refl _)])
 rw [HL.out] at h2
 exact h2
end
end Go.Proofs.YtpkhglfhpggceaaGreatDoor
