/- What package tree does to memory: write (printed by genwrite.py). -/
import Derived.Test.YtpkhglfhpggceaaGreatDoorRead
import Derived.StillTailTactics
import Derived.Test.YtpkhglfhpggceaaGreatDoorSq
namespace Go.Proofs.YtpkhglfhpggceaaGreatDoor
set_option maxRecDepth 100000
set_option maxHeartbeats 16000000
open Go.RowKit Go.Proofs.YtpkhglfhpggceaaGreatDoorW.PrintLast
set_option linter.unusedVariables false
set_option linter.unusedSimpArgs false
section
variable {F : Nat → Prop} {w w' : World} {t c : Nat} {M : TMem} {a : TS}
theorem PO.turn2 {S : Nat → Prop} {w w' : World} {B : Nat} {cs fs : Array Value} (h : PO w B cs fs) (hT : Turn S w w') (hS : ∀ j, (j = B ∨ j = B + 1 ∨ j = B + 1 + 1) → ¬ S j) : PO w' B cs fs :=
 ⟨h.b0.turn hT (hS _ (.inl rfl)), h.bf.turn hT (hS _ (.inr (.inl rfl))), h.b1.turn hT (hS _ (.inr (.inr rfl)))⟩
theorem writeT_bad {o : OpT} {f : FT} (h : f.2.2 < 2 ∨ o.data.length > 4096 ∨ f.2.1 > 48640 - (o.data.length : Int) ∨ o.data.length = 0) : a.writeT o f = a := by unfold TS.writeT; rw [if_pos h]
theorem byts_write (d bs : List UInt8) (p z : Nat) (hz : z = max d.length (p + bs.length)) : splice (byts (sizeL d z)) p (byts bs) = byts (writeL d p bs) := by
 subst hz
 unfold splice writeL byts
 simp
theorem writeL_len (d bs : List UInt8) (p : Nat) : (writeL d p bs).length = max d.length (p + bs.length) := by
 unfold writeL
 simp [sizeL_len]
 omega
theorem RdB.cs {w : World} {A : Option Addr} {cap : Nat} {l : List UInt8} (h : RdB w (.slice A l.length cap) l) : 0 < (byts l).length → ∃ ad, A = some ad ∧ ∀ j v, (byts l)[j]? = some v → w.cell? (ad.add j) = some v := by
 intro hp
 obtain ⟨A', c', e, h1, h2, h3⟩ := h
 injection e with e1 e2 e3
 subst e1
 have hp2 : 0 < l.length := by rw [byts_len] at hp; exact hp
 obtain ⟨g, o, rfl, hg, _⟩ := h3 0 l[0] (by simp)
 refine ⟨_, rfl, fun j v hj => ?_⟩
 unfold byts at hj
 rw [List.getElem?_map, Option.map_eq_some_iff] at hj
 obtain ⟨b, hb2, rfl⟩ := hj
 obtain ⟨g2, o2, e2, hg2, hc2⟩ := h3 j b hb2
 injection e2 with e2
 injection e2 with e3 e4
 subst e3 e4
 rw [addr_add]
 exact hc2
theorem Byt.full {w : World} {g z : Nat} {l : List UInt8} (h : Byt w (.slice (some ⟨g, 0, none⟩) z z) l) (hl : l.length = z) : Blk w g 5 (byts l).toArray := by
 subst hl
 rcases h.2 with ⟨hv, _⟩ | ⟨g', cap, cur, hv, hb, hg, hnc, hcm, hcs, ht⟩
 ·cases hv
 ·injection hv with e1 e2 e3
  injection e1 with e1
  injection e1 with e1
  subst e1
  subst e3
  have h1 : cur.toList = byts l := by
   rw [← ht, List.take_of_length_le (by rw [Array.length_toList, hcs, Nat.mul_one]; simp)]
  have h2 : cur = (byts l).toArray := by rw [← h1]
  rw [← h2]
  exact hg
theorem write_any (o : OpT) (A : Option Addr) (cap k p : Nat) (mode : Int) (w : World) (h : TreeIs F w t M c a) (hg : Good a c) (hc : c ≤ 100000) (hk : (a.nd k).kind = 1) (hm : 1 ≤ mode ∧ mode ≤ 3) (hp : p ≤ 48640) (hf : lookO a.op o.fd = some ((k : Int), (p : Int), mode))
  (hD : RdB w (.slice A o.data.length cap) o.data) (hDF : ∀ g x, A = some ⟨g, x, none⟩ → ¬ F g) :
  Calls Tryz.prog 68 #[.pointer (some ⟨t, 0, none⟩), o.val A o.data.length cap, .agg #[.int .i64 (k : Nat), .int .i64 (p : Nat), .int .i64 mode]] w (AnsPost F t (c + 2) (a.writeT o ((k : Int), (p : Int), mode)) w) := by
 unfold OpT.val
 have HT := Lib.hid h
 have HH := Lib.hid (fun W (hb : Below w.heap.size w W) => h.below hb)
 have hlive : (a.nd k).kind ≠ 0 := by rw [hk]; decide
 have hlast := (hg.in_last hlive).2
 have hfew := hg.few
 have hidb : k ≤ 1000000 := by omega
 have HLV := Lib.hid hlive
 have HDL := Lib.hid (hg.data k)
 have HF := Lib.hid hf
 have HD := Lib.hid hD
 have HDF := Lib.hid hDF
 obtain ⟨hm0, hm1⟩ := hm
 obtain ⟨-, -, -, -, -, b2⟩ := has_in (f := mode) (by omega) (by omega)
 unfold hasB at b2
 clear h hg hk hf hlast hfew hlive hD hDF
 by_cases h1 : mode / 2 % 2 = 1
 ·have t1 : (bits .and .i64 mode 2 == 0) = false := beq_eq_false_iff_ne.2 (bit_on b2 h1)
  by_cases hn : 4096 < o.data.length
  ·have HR := Lib.hid (writeT_bad (a := a) (o := o) (f := ((k : Int), (p : Int), mode)) (.inr (.inl hn)))
   have hn2 : (4096 : Int) < ((o.data.length : Nat) : Int) := by omega
   generalize o.data.length = dl at *
   clear b2 h1 hn
   go_enter Tryz.func68, Tryz.ntmps68
   go_wp2
   refine bodyPost_ret (v := .agg #[.int .i64 2, .int .i64 0, .slice none 0 0, .slice none 0 0, .int .i64 0, .int .i64 0, .int .i64 0]) (by simp [results, Tryz.results68, go_sem]) rfl ?_
   rw [HR.out]
   exact ans_same HT.out (below_000 w _ _ _)
  ·by_cases hb : 48640 < p + o.data.length
   ·have HR := Lib.hid (writeT_bad (a := a) (o := o) (f := ((k : Int), (p : Int), mode)) (.inr (.inr (.inl (by show (p : Int) > _; omega)))))
    have hn2 : ¬ (4096 : Int) < ((o.data.length : Nat) : Int) := by omega
    have hb2 : (48640 : Int) - ((o.data.length : Nat) : Int) < ((p : Nat) : Int) := by omega
    generalize o.data.length = dl at *
    clear b2 h1 hn hb
    go_enter Tryz.func68, Tryz.ntmps68
    go_wp2
    refine bodyPost_ret (v := .agg #[.int .i64 31, .int .i64 0, .slice none 0 0, .slice none 0 0, .int .i64 0, .int .i64 0, .int .i64 0]) (by simp [results, Tryz.results68, go_sem]) rfl ?_
    rw [HR.out]
    exact ans_same HT.out (below_000 w _ _ _)
   ·by_cases hz : o.data.length = 0
    ·have HR := Lib.hid (writeT_bad (a := a) (o := o) (f := ((k : Int), (p : Int), mode)) (.inr (.inr (.inr hz))))
     rw [hz]
     clear b2 h1 hn hb hz
     go_enter Tryz.func68, Tryz.ntmps68
     go_wp2
     refine bodyPost_ret (v := .agg #[.int .i64 0, .int .i64 0, .slice none 0 0, .slice none 0 0, .int .i64 0, .int .i64 0, .int .i64 0]) (by simp [results, Tryz.results68, go_sem]) rfl ?_
     rw [HR.out]
     exact ans_same HT.out (below_000 w _ _ _)
    ·have HR := Lib.hid (show a.writeT o ((k : Int), (p : Int), mode) = (a.setData k (writeL (a.nd k).data p o.data)).seekT o.fd ((k : Int), (p : Int), mode) ((p : Int) + o.data.length) by
      unfold TS.writeT
      rw [if_neg (by
       rintro (e | e | e | e)
       ·have e2 : mode < 2 := e
        omega
       ·omega
       ·have e2 : (p : Int) > 48640 - (o.data.length : Int) := e
        omega
       ·exact hz e)]
      rfl)
     have hdv : ∃ A1 c1, M.dv k = .slice A1 (a.nd k).data.length c1 := by
      obtain ⟨A1, c1, e, _⟩ := (HT.out.node k HLV.out).2.1.rd
      exact ⟨A1, c1, e⟩
     obtain ⟨A1, c1, hdv⟩ := hdv
     have hdlen := HDL.out
     obtain ⟨z, hz1⟩ : ∃ z : Nat, z = max (a.nd k).data.length (p + o.data.length) := ⟨_, rfl⟩
     have hz2 : max (((a.nd k).data.length : Nat) : Int) (((p : Nat) : Int) + ((o.data.length : Nat) : Int)) = ((z : Nat) : Int) := by omega
     have HSZ := Lib.hid (fun W (h : TreeIs F W t M c a) => size_any (M.dv k) (a.nd k).data z W (h.node k HLV.out).2.1.rd (by omega))
     rw [hdv] at HSZ
     have HSPL := Lib.hid (byts_write (a.nd k).data o.data p z hz1)
     have HLZ := Lib.hid (show (writeL (a.nd k).data p o.data).length = z by rw [writeL_len, hz1])
     have HLS := Lib.hid (show (byts (sizeL (a.nd k).data z)).length = z by rw [byts_len, sizeL_len])
     have hzb : p + o.data.length ≤ z := by omega
     have hz48 : z ≤ 48640 := by omega
     obtain ⟨cs, hcs⟩ : ∃ cs, cs = byts o.data := ⟨_, rfl⟩
     have HCL := Lib.hid (show cs.length = o.data.length by rw [hcs, byts_len])
     have H1 : Hid (∀ v ∈ cs, v.oneCell' = true) := Lib.hid (by rw [hcs]; exact byts_one _)
     have HDC : Hid (∀ W, RdB W (.slice A o.data.length cap) o.data → 0 < cs.length → ∃ ad, A = some ad ∧ ∀ j v, cs[j]? = some v → W.cell? (ad.add j) = some v) := Lib.hid fun W hW => by rw [hcs]; exact hW.cs
     obtain ⟨L5, hL5⟩ : ∃ L5, L5 = byts (sizeL (a.nd k).data z) := ⟨_, rfl⟩
     rw [← hL5, ← hcs] at HSPL
     rw [← hL5] at HLS
     have HL5 := Lib.hid hL5
     have HRD : Hid (∀ W, Below w.heap.size w W → RdB W (.slice A o.data.length cap) o.data) := Lib.hid fun W hb => HD.out.below hb
     have HMV : Hid (∀ W W', Turn (· = M.hp k) W W' → Below w.heap.size w W → RdB W' (.slice A o.data.length cap) o.data) := Lib.hid fun W W' hT hb => by
      obtain ⟨A', c', e, h1, h2, h3⟩ := HD.out
      refine ⟨A', c', e, h1, h2, fun j b hj => ?_⟩
      obtain ⟨g, o', rfl, hg, hc⟩ := h3 j b hj
      have hne : g ≠ M.hp k := fun e2 => by
       injection e with e3
       exact HDF.out g o' e3 (by rw [e2]; exact (HT.out.node k HLV.out).2.2.2.1)
      have hgW := Nat.lt_of_lt_of_le hg hb.size
      exact ⟨g, o', rfl, Nat.lt_of_lt_of_le hgW hT.size, (World.cell?_of_block (a := ⟨g, o' + j, none⟩) ((hT.block g hgW hne).trans (hb.block g hg))).trans hc⟩
     have hn0 : ¬ (4096 : Int) < ((o.data.length : Nat) : Int) := by omega
     have hn1 : ¬ (48640 : Int) - ((o.data.length : Nat) : Int) < ((p : Nat) : Int) := by omega
     have hn2 : (((o.data.length : Nat) : Int) == 0) = false := beq_eq_false_iff_ne.2 (by omega)
     have hdz : 1 ≤ o.data.length := by omega
     have hd4 : o.data.length ≤ 4096 := by omega
     have HZ2 := Lib.hid hz2
     have HDV := Lib.hid hdv
     generalize hdl0 : o.data.length = dl at *
     generalize hL0 : (a.nd k).data.length = L at *
     have HDL0 := Lib.hid hdl0
     have hdw := dl
     clear b2 h1 hn hb hz hz1 hz2 hdv hcs hL5 hdl0 hL0 hdw
     go_enter Tryz.func68, Tryz.ntmps68
     go_upto_region 10 with (fail)
     have HO := Lib.hid (PO.start w #[.int .i64 o.kind, .string o.path, .string o.to, .int .i64 o.fd, .int .i64 o.n, .int .i64 o.off, .int .i64 o.flags, .slice A dl cap] #[.int .i64 (k : Nat), .int .i64 (p : Nat), .int .i64 mode])
     have HB := Lib.hid (below_000 w (.cells #[.int .i64 o.kind, .string o.path, .string o.to, .int .i64 o.fd, .int .i64 o.n, .int .i64 o.off, .int .i64 o.flags, .slice A dl cap] 36) (.cells #[.int .i64 (k : Nat), .int .i64 (p : Nat), .int .i64 mode] 116) (.cells zero7 33))
     generalize ((w.alloc (.cells #[.int .i64 o.kind, .string o.path, .string o.to, .int .i64 o.fd, .int .i64 o.n, .int .i64 o.off, .int .i64 o.flags, .slice A dl cap] 36)).alloc (.cells #[.int .i64 (k : Nat), .int .i64 (p : Nat), .int .i64 mode] 116)).alloc (.cells zero7 33) = w1 at *
     have hT1 := (HH.out _ HB.out).drew
     obtain ⟨d0, d1, d2⟩ := hT1.cells
     have hl := hT1.look HLV.out hidb
     have hx0 := HO.out.drew.bf.cell 0
     simp at hx0
     clear hT1
     go_region
     clear d0 d1 d2 hl hx0 hn0 hn1 hn2
     have HO2 := Lib.hid HO.out.drew
     have HB2 := Lib.hid (show Below w.heap.size w w1.drew from HB.out.trans drew_below')
     generalize w1.drew = w2 at *
     go_upto_region 11 with (fail)
     have HOD := Lib.hid HO2.out.drew
     have HTD := Lib.hid (HH.out _ HB2.out).drew
     have hwr : IntKind.i64.wrap ((p : Nat) + (dl : Nat)) = ((p : Nat) : Int) + ((dl : Nat) : Int) := IntWalk.i64_in _ (by omega)
     have hwz := HZ2.out
     have hB : Below w2.drew.heap.size w2.drew w2.drew := Below.refl _ _
     have HK : Hid (∀ W, Below w2.drew.heap.size w2.drew W → W.cell? ⟨M.hp k, 2, none⟩ = some (.slice A1 L c1) ∧ W.cell? ⟨w.heap.size + 1, 1, none⟩ = some (.int .i64 (p : Nat)) ∧ W.frozen? ⟨M.hp k, 2, none⟩ = false) := Lib.hid fun W hb => by
      have hT := HTD.out.below hb
      have h1 := (hT.ncells HLV.out).2.2.1
      rw [HDV.out] at h1
      have h2 := (HOD.out.below hb).bf.cell 1
      exact ⟨h1, by simpa using h2, (hT.node k HLV.out).1.frozen 2⟩
     refine start_ (n := 19) (S := fun w' => w'.cell? ⟨M.hp k, 2, none⟩ = some (.slice A1 L c1) ∧ w'.cell? ⟨w.heap.size + 1, 1, none⟩ = some (.int .i64 (p : Nat))) (ds := [18]) (bs 19 0) (by kernel_rfl) rfl rfl ⟨(HK.out _ hB).1, (HK.out _ hB).2.1⟩ (fun hHeld => ?_)
     refine py_ 0 40 (bs 19 1) rfl rfl (by kernel_rfl) (fun _ _ _ h => h) (by rfl) (fun w' => by go_simp; with_reducible rfl) (by simp only [Act.put, sA, sZ, sS, i64_w, i32_w]; rfl) ?_
     refine py_ 1 41 (bs 19 3) rfl rfl (by kernel_rfl) (fun _ _ _ h => h) (by rfl) (fun w' => by go_simp; with_reducible rfl) (by simp only [Act.put, sA, sZ, sS, i64_w, i32_w]; rfl) ?_
     refine py_ 2 42 (bs 19 7) rfl rfl (by kernel_rfl) (fun _ _ _ h => h) (by rfl) (fun w' => by go_simp; with_reducible rfl) (by simp only [Act.put, sA, sZ, sS, i64_w, i32_w]; rfl) ?_
     refine py_ 3 43 (bs 19 15) rfl rfl (by kernel_rfl) (fun _ _ _ h => h) (by rfl) (fun w' => by go_simp; with_reducible rfl) (by simp only [Act.put, sA, sZ, sS, i64_w, i32_w]; rfl) ?_
     refine py_ 5 45 (bs 19 47) rfl rfl (by kernel_rfl) (fun _ _ _ h => h) (by rfl) (fun w' => by go_simp; with_reducible rfl) (by simp only [Act.put, sA, sZ, sS, i64_w, i32_w]; rfl) ?_
     refine py_ 6 46 (bs 19 111) rfl rfl (by kernel_rfl) (fun _ _ _ h => h) (by rfl) (fun w' => by go_simp; with_reducible rfl) (by simp only [Act.put, sA, sZ, sS, i64_w, i32_w]; rfl) ?_
     refine py_ 7 47 (bs 19 239) rfl rfl (by kernel_rfl) (fun _ _ _ h => h) (by rfl) (fun w' => by go_simp; with_reducible rfl) (by simp only [Act.put, sA, sZ, sS, i64_w, i32_w]; rfl) ?_
     refine py_ 10 50 (bs 19 1263) rfl rfl (by kernel_rfl) (fun _ _ _ h => h) (by rfl) (fun w' => by go_simp; with_reducible rfl) (by simp only [Act.put, sA, sZ, sS, i64_w, i32_w]; rfl) ?_
     refine py_ 12 52 (bs 19 5359) rfl rfl (by kernel_rfl) (fun _ _ _ h => h) (by rfl) (fun w' => by go_simp; with_reducible rfl) (by simp only [Act.put, sA, sZ, sS, i64_w, i32_w]; rfl) ?_
     refine ty_ 4 44 (bs 19 5375) rfl rfl (by kernel_rfl) (fun _ _ _ h => h) (by rfl) (by rintro w' ⟨s0, s1⟩; go_simp; with_reducible rfl) hHeld (by simp only [Act.put, sA, sZ, sS, i64_w, i32_w]; rfl) ?_
     refine ty_ 8 48 (bs 19 5631) rfl rfl (by kernel_rfl) (fun _ _ _ h => h) (by rfl) (by rintro w' ⟨s0, s1⟩; go_simp; with_reducible rfl) hHeld (by simp only [Act.put, sA, sZ, sS, i64_w, i32_w]; rfl) ?_
     refine py_ 9 49 (bs 19 6143) rfl rfl (by kernel_rfl) (fun _ _ _ h => h) (by rfl) (fun w' => by go_simp; with_reducible rfl) (by simp only [Act.put, sA, sZ, sS, i64_w, i32_w]; rfl) ?_
     refine ty_ 11 51 (bs 19 8191) rfl rfl (by kernel_rfl) (fun _ _ _ h => h) (by rfl) (by rintro w' ⟨s0, s1⟩; go_simp; with_reducible rfl) hHeld (by simp only [Act.put, sA, sZ, sS, i64_w, i32_w]; rfl) ?_
     refine py_ 13 53 (bs 19 16383) rfl rfl (by kernel_rfl) (fun _ _ _ h => h) (by rfl) (fun w' => by go_simp; with_reducible rfl) (by simp only [Act.put, sA, sZ, sS, i64_w, i32_w]; rfl) ?_
     refine py_ 14 54 (bs 19 32767) rfl rfl (by kernel_rfl) (fun _ _ _ h => h) (by rfl) (fun w' => by go_simp; with_reducible rfl) (by simp only [Act.put, sA, sZ, sS, i64_w, i32_w]; rfl) ?_
     refine one_ (i := 15) (N := some 55) (bs 19 65535) rfl rfl (by kernel_rfl) (by decide) (fun K hK => ?_)
     refine goes_ Tryz.func73 (by kernel_rfl) rfl #[.slice A1 L c1, .int .i64 (z : Nat)] (by rfl) rfl rfl (by simp only [List.map_toArray, List.map_cons, List.map_nil]; rfl) ?_
     with_reducible refine ((HSZ.out _ (HTD.out.below hB))).mono ?_
     rintro e w3 ⟨rfl, hby, hB3⟩
     refine ⟨_, rfl, ?_⟩
     have hB := hB.trans (hB3.mono hB.size)
     have HBY := Lib.hid hby
     clear hby hB3
     refine hK.out _ _ ⟨(HK.out _ hB).1, (HK.out _ hB).2.1⟩ (fun hHeld => ?_)
     clear hK K
     refine norm_ (a' := ?_) ?_ ?_
     rotate_left
     ·show Act.put _ (some 55) _ = _
      simp only [Act.put, sA, sZ, sS, i64_w, i32_w]
      rfl
     refine py_ 16 56 (bs 19 131071) rfl rfl (by kernel_rfl) (fun _ _ _ h => h) (by rfl) (fun w' => by go_simp; with_reducible rfl) (by simp only [Act.put, sA, sZ, sS, i64_w, i32_w]; rfl) ?_
     refine py_ 17 57 (bs 19 262143) rfl rfl (by kernel_rfl) (fun _ _ _ h => h) (by rfl) (fun w' => by go_simp; with_reducible rfl) (by simp only [Act.put, sA, sZ, sS, i64_w, i32_w]; rfl) ?_
     refine last_ (i := 18) (N := none) (bs 19 524287) rfl rfl (by kernel_rfl) (by decide) (fun K hK => ?_)
     have hcw := (HK.out _ hB).1
     have hfz := (HK.out _ hB).2.2
     refine skip_ (w1 := ?_) (by rfl) rfl ?_ ?_
     rotate_left
     ·go_simp
      rfl
     refine hK.out _ _ ?_
     clear hK K
     refine done_ (by kernel_rfl) ?_
     have HB23 := Lib.hid (show Below w2.heap.size w2 w3 from drew_below.trans hB)
     have HT3 := Lib.hid (HTD.out.below hB)
     have HO3 := Lib.hid (HOD.out.below hB)
     have HM := Lib.hid (HT3.out.node k HLV.out).2.2.2.1
     have hTs : Turn (· = M.hp k) w3 (w3.setCell ⟨M.hp k, 2, none⟩ (.slice (some ⟨w2.heap.size, 0, none⟩) z z)) := (Turn.refl (· = M.hp k) w3).setCell (p := ⟨M.hp k, 2, none⟩) (fun _ => rfl) _
     have HP4 := Lib.hid ((HT3.out.node k HLV.out).1.set_ 2 (.slice (some ⟨w2.heap.size, 0, none⟩) z z))
     have hgb : Blk w3 w2.heap.size 5 L5.toArray := by
      rw [HL5.out]
      exact Byt.full HBY.out (sizeL_len _ _)
     have HFL : Hid (∀ j, F j → j < w.heap.size) := Lib.hid fun j e => HT.out.lt j e
     have hg2 : w.heap.size ≤ w2.heap.size := HB2.out.size
     have HG4 := Lib.hid (hgb.turn hTs (fun e => by have := HFL.out _ HM.out; have e2 : w2.heap.size = M.hp k := e; omega))
     have HO4 := Lib.hid (HO3.out.turn hTs (fun j e => by rw [show j = M.hp k from e]; exact HFL.out _ HM.out))
     have HRW := Lib.hid (HMV.out _ _ hTs (HB2.out.trans (HB23.out.mono HB2.out.size)))
     have HTU := Lib.hid (((Turn.of_below (S := (· = M.hp k)) HB23.out).trans (S' := (· = M.hp k)) hTs fun _ _ e => e))
     clear hTs hgb hB
     generalize w3.setCell ⟨M.hp k, 2, none⟩ (.slice (some ⟨w2.heap.size, 0, none⟩) z z) = w4 at *
     go_upto_region 12 with (fail)
     have c2 := HP4.out.drew.cell 2
     have f1 := HO4.out.drew.bf.cell 1
     have a7 := HO4.out.drew.b0.cell 7
     simp at c2 f1 a7
     have hsl : (Instr.slice 28 (.slice (some ⟨w2.heap.size, 0, none⟩) z z) (some (.int .i64 (p : Nat))) none none).run Tryz.prog w4.drew = .ok (.slice (some ⟨w2.heap.size, p, none⟩) (z - p) (z - p)) w4.drew := by
      have h1 := slice_from w4.drew w2.heap.size 0 z z p (by omega) (Nat.le_refl _)
      rw [if_neg (by omega), Nat.zero_add] at h1
      exact h1
     have HGE : Hid (w4.drew.heap[w2.heap.size]? = some (.cells L5.toArray 5 (0, 0))) := Lib.hid HG4.out
     have HRE : Hid (RdB w4.drew (.slice A dl cap) o.data) := Lib.hid HRW.out
     have HNM : Hid (cs.length = Nat.min dl (z - p)) := Lib.hid (by rw [HCL.out]; exact (Nat.min_eq_left (by omega)).symm)
     have HFI : Hid (p + cs.length ≤ L5.length) := Lib.hid (by rw [HCL.out, HLS.out]; exact hzb)
     go_still_tail 9, (by kernel_rfl)
     change wpList _ _ _ _ _ w4.drew
     go_wp2_with (with_reducible refine wpList_copy_splice rfl (.tmp 64) (.tmp 66) 28 28 rfl 5 Tryz.underlying28 (by kernel_rfl) (some ⟨w2.heap.size, p, none⟩) A (z - p) (z - p) dl cap rfl rfl w2.heap.size p L5 5 HGE.out cs HNM.out (fun hp => ⟨rfl, HDC.out _ HRE.out hp⟩) HFI.out H1.out w2.heap.size w4.drew (Below.refl _ _) (Nat.le_refl _) ?_; intro w6 HG6 hB6)
     clear c2 f1 a7 hsl
     have h6 : Below w2.heap.size w4.drew w6 := hB6
     have hT46 : Turn (fun j => w2.heap.size ≤ j) w4 w6 := (Turn.refl (fun j => w2.heap.size ≤ j) w4).drew.trans (S' := fun j => w2.heap.size ≤ j) ⟨h6.os, h6.tape, h6.output, h6.size, fun i hi hn => h6.block i (by omega)⟩ fun _ _ e => e
     have HTW := Lib.hid (HTU.out.trans (S' := fun j => w2.heap.size ≤ j) hT46 fun i hi e => by omega)
     have hP6 := HP4.out.turn hT46 (fun e => by have := HFL.out _ HM.out; omega)
     have hB6' : Byt w6 (.slice (some ⟨w2.heap.size, 0, none⟩) (writeL (a.nd k).data p o.data).length z) (writeL (a.nd k).data p o.data) := by
      have h1 := HG6.out
      rw [HSPL.out] at h1
      exact Byt.mk h1 (by rw [List.size_toArray, byts_len, HLZ.out]) (by rw [HLZ.out]; exact Nat.le_refl _) (by unfold maxLen; omega) (by rw [List.toList_toArray, List.take_of_length_le (by rw [byts_len]; exact Nat.le_refl _)])
     rw [HLZ.out] at hB6'
     have hlt6 := HTW.out.size
     have hgl6 : w2.heap.size < w6.heap.size := Nat.lt_of_lt_of_le HG4.out.lt hT46.size
     have hT2 := HH.out _ HB2.out
     have HT6 := Lib.hid (hT2.setNode (F' := grow F w2 w6) (v := { a.nd k with data := writeL (a.nd k).data p o.data }) HLV.out HTW.out rfl rfl hP6 hB6' (fun j hj => .inl hj) (fun j hj => by
      obtain rfl : w2.heap.size = j := Option.some.inj hj
      exact .inr ⟨Nat.le_refl _, hgl6⟩) (fun j hj => by
      rcases hj with hj | hj
      ·exact Nat.lt_of_lt_of_le (hT2.lt j hj) hlt6
      ·exact hj.2) (fun hj => by
      rcases hj with hj | hj
      ·exact HT.out.f0 hj
      ·have := HT.out.w0; omega))
     have HO6 := Lib.hid (HO2.out.turn HTW.out (fun j e => by rw [show j = M.hp k from e]; exact HFL.out _ HM.out))
     have HO2L := Lib.hid HO2.out.b1.lt
     clear hT46 h6 hP6 hB6' hlt6 hT2 hB6
     have HN : Hid (∀ j, (j = w.heap.size ∨ j = w.heap.size + 1 ∨ j = w.heap.size + 1 + 1) → ¬ grow F w2 w6 j) := Lib.hid fun j hj e => by
      have h1 := HO2L.out
      rcases e with e | e
      ·have := HFL.out j e; omega
      ·omega
     have HTWF := Lib.hid ((Turn.of_below (S := F) HB2.out).trans (S' := (· = M.hp k)) HTW.out fun i hi e => by rw [e]; exact HM.out)
     go_upto_region 13 with (fail)
     have HOE := Lib.hid HO6.out.drew
     have HTE := Lib.hid HT6.out.drew
     have vt2 := HTE.out.cells.2.2
     have va3 := HOE.out.b0.cell 3
     have vf1 := HOE.out.bf.cell 1
     simp at vt2 va3 vf1
     have hS0 := And.intro vt2 (And.intro va3 vf1)
     have HV := Lib.hid vt2
     clear vt2 va3 vf1
     go_region_held3 (fun W => W.cell? ⟨t, 2, none⟩ = some (.pointer (some ⟨M.tb, 0, none⟩)) ∧ W.cell? ⟨w.heap.size, 3, none⟩ = some (.int .i64 o.fd) ∧ W.cell? ⟨w.heap.size + 1, 1, none⟩ = some (.int .i64 (p : Nat)))
      (first | exact hS0 | exact hS1)
      (first
       | (go_at_call 69
          refine (tseek_any o.fd ((k : Int), (p : Int), mode) ((p : Nat) + (dl : Nat)) _ HTE.out HF.out (by omega)).mono ?_
          rintro e w9 ⟨rfl, M', hT9, hTu9, hbt⟩
          have va3 := (HOE.out.turn2 hTu9 HN.out).b0.cell 3
          have vf1 := (HOE.out.turn2 hTu9 HN.out).bf.cell 1
          simp at va3 vf1
          have hS1 := And.intro ((World.cell?_of_block (a := ⟨t, 2, none⟩) hbt).trans HV.out) (And.intro va3 vf1)
          have HT9 := Lib.hid hT9
          have HTu9 := Lib.hid hTu9
          clear hT9 hTu9 hbt va3 vf1))
     clear hS0 hS1
     have HOF := Lib.hid (HOE.out.turn2 HTu9.out HN.out)
     have vr0 := (HOF.out).b1.cf7
     have vl := (HOF.out).b1.lt
     go_wp2_with fail
     refine bodyPost_ret (v := .agg #[.int .i64 0, .int .i64 (dl : Nat), .slice none 0 0, .slice none 0 0, .int .i64 0, .int .i64 0, .int .i64 0]) (by simp [results, Tryz.results68, go_sem, vr0, vl]) rfl ?_
     rw [HR.out]
     have hW := (HTWF.out.drew).trans (S' := grow F w2 w6) HTu9.out (fun i hi e => by
      rcases e with e | e
      ·exact e
      ·omega)
     exact ans_fin (F' := grow F w2 w6) (wX := w6.drew) HT.out ⟨_, HT9.out.grown w6.drew HTu9.out.size (by have := HT.out.w0; have := HTWF.out.size; exact Nat.lt_of_lt_of_le HT.out.w0 this)⟩ (by omega) hW HTWF.out.size (fun j e => by
      rcases e with e | e
      ·exact .inl e
      ·exact .inr (by omega)) (by omega) HO6.out.b1.lt (HN.out _ (.inr (.inr rfl)))
 ·have t1 : (bits .and .i64 mode 2 == 0) = true := beq_iff_eq.2 (bit_off b2 h1)
  have HR := Lib.hid (writeT_bad (a := a) (o := o) (f := ((k : Int), (p : Int), mode)) (.inl (by show mode < 2; omega)))
  generalize o.data.length = dl at *
  clear b2 h1
  go_enter Tryz.func68, Tryz.ntmps68
  go_wp2
  refine bodyPost_ret (v := .agg #[.int .i64 50, .int .i64 0, .slice none 0 0, .slice none 0 0, .int .i64 0, .int .i64 0, .int .i64 0]) (by simp [results, Tryz.results68, go_sem]) rfl ?_
  rw [HR.out]
  exact ans_same HT.out (below_000 w _ _ _)
end
end Go.Proofs.YtpkhglfhpggceaaGreatDoor
