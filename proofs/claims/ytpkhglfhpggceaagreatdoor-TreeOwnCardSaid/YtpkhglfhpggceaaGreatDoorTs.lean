/- A tree of directories and files, plain: what each act does to it. No program in sight. -/
import Derived.Test.YtpkhglfhpggceaaGreatDoorTr
namespace Go.Proofs.YtpkhglfhpggceaaGreatDoor

/-- A node: kind 0 (it is none), 1 (a file), 2 (a directory). -/
structure Nd where
 kind : Int
 links : Int
 data : List UInt8
 names : Names
def nd0 : Nd := ⟨0, 0, [], []⟩
/-- What is open: an inode, a position, a mode. -/
abbrev FT := Int × Int × Int
structure TS where
 last : Nat
 nd : Nat → Nd
 op : Nat → Option FT
structure OpT where
 kind : Int
 path : ByteArray
 to : ByteArray
 data : List UInt8
 n : Int
 off : Int
 fd : Int
 flags : Int

def setF {α : Type} (f : Nat → α) (k : Nat) (v : α) : Nat → α := fun i => if i = k then v else f i
theorem setF_same {α : Type} (f : Nat → α) (k : Nat) (v : α) : setF f k v k = v := by unfold setF; rw [if_pos rfl]
theorem setF_other {α : Type} (f : Nat → α) {k i : Nat} (v : α) (h : i ≠ k) : setF f k v i = f i := by unfold setF; rw [if_neg h]

def TS.setNd (a : TS) (k : Nat) (v : Nd) : TS := ⟨a.last, setF a.nd k v, a.op⟩
def TS.setOp (a : TS) (k : Nat) (v : Option FT) : TS := ⟨a.last, a.nd, setF a.op k v⟩
def ts0 : TS := ⟨1, setF (fun _ => nd0) 1 ⟨2, 1, [], []⟩, fun _ => none⟩

def TS.find (a : TS) (d : Nat) (s : ByteArray) : Nat := findL (a.nd d).names s
/-- Along names. -/
def TS.walkL (a : TS) : Nat → List ByteArray → Nat × Int
 | at_, [] => (at_, 0)
 | at_, s :: l => if (a.nd at_).kind = 2 then (if a.find at_ s = 0 then (0, 40) else a.walkL (a.find at_ s) l) else (0, 42)
def TS.walkP (a : TS) (p : ByteArray) : Nat × Int := if (splitN p).2 = 0 then a.walkL 1 (splitN p).1 else (0, (splitN p).2)
/-- Where a path's last name is, or would be: its directory, and whether it may be. -/
def TS.par (a : TS) (p : ByteArray) (alone : Int) : Nat × Int :=
 if (lastN p).2.2 = 2 then (0, alone) else
 if (lastN p).2.2 = 0 then
  (if (a.walkL 1 (lastN p).1).2 = 0 then (if (a.nd (a.walkL 1 (lastN p).1).1).kind = 2 then ((a.walkL 1 (lastN p).1).1, 0) else (0, 42)) else (0, (a.walkL 1 (lastN p).1).2))
 else (0, (lastN p).2.2)
/-- The path's last name. -/
def nameN (p : ByteArray) : ByteArray := (lastN p).2.1

def TS.put (a : TS) (d : Nat) (s : ByteArray) (id : Nat) : TS := a.setNd d { a.nd d with names := putL (a.nd d).names s id }
def TS.more (a : TS) (d : Nat) (s : ByteArray) (kind : Int) : TS := TS.put ⟨a.last + 1, setF a.nd (a.last + 1) ⟨kind, 1, [], []⟩, a.op⟩ d s (a.last + 1)
def cntO (op : Nat → Option FT) (k : Int) : Nat := ((List.range 8).filter fun i => match op i with | some x => decide (x.1 = k) | none => false).length
def TS.gone (a : TS) (k : Nat) : TS := if (a.nd k).links = 0 ∧ cntO a.op k = 0 then a.setNd k nd0 else a
def TS.less (a : TS) (k : Nat) : TS := TS.gone (a.setNd k { a.nd k with links := (a.nd k).links - 1 }) k
def sizeL (d : List UInt8) (n : Nat) : List UInt8 := d.take n ++ List.replicate (n - d.length) 0
def writeL (d : List UInt8) (pos : Nat) (bs : List UInt8) : List UInt8 :=
 (sizeL d (max d.length (pos + bs.length))).take pos ++ bs ++ (sizeL d (max d.length (pos + bs.length))).drop (pos + bs.length)
def TS.setData (a : TS) (k : Nat) (d : List UInt8) : TS := a.setNd k { a.nd k with data := d }

def flagsB (f : Int) : Bool := decide (0 ≤ f) && decide (f ≤ 31) && !decide (f % 4 = 0) && !(decide (f / 8 % 2 = 1) && decide (f / 4 % 2 = 0)) && !(decide (f / 16 % 2 = 1) && decide (f / 2 % 2 = 0))
def freeK (op : Nat → Option FT) : Option Nat := (List.range 8).find? fun i => (op i).isNone
def usedN (op : Nat → Option FT) : Nat := ((List.range 8).filter fun i => (op i).isSome).length

/-- OpOpen: may it be, and what it does. -/
def TS.openE (a : TS) (o : OpT) : Int :=
 if flagsB o.flags = false then 2 else
 if (a.par o.path 43).2 ≠ 0 then (a.par o.path 43).2 else
 if a.find (a.par o.path 43).1 (nameN o.path) ≠ 0 ∧ o.flags / 8 % 2 = 1 then 41 else
 if a.find (a.par o.path 43).1 (nameN o.path) ≠ 0 ∧ (a.nd (a.find (a.par o.path 43).1 (nameN o.path))).kind = 2 then 43 else
 if a.find (a.par o.path 43).1 (nameN o.path) = 0 ∧ o.flags / 4 % 2 = 0 then 40 else
 if usedN a.op = 8 then 47 else 0
def TS.opens (a : TS) (id : Nat) (flags : Int) : TS :=
 match freeK a.op with
 | some k => (if flags / 16 % 2 = 1 then a.setData id [] else a).setOp k (some (id, 0, flags % 4))
 | none => a
def TS.openS (a : TS) (o : OpT) : TS :=
 if a.find (a.par o.path 43).1 (nameN o.path) = 0 then (a.more (a.par o.path 43).1 (nameN o.path) 1).opens (a.last + 1) o.flags
 else a.opens (a.find (a.par o.path 43).1 (nameN o.path)) o.flags
def TS.openT (a : TS) (o : OpT) : TS := if a.openE o = 0 then a.openS o else a

def lookO (op : Nat → Option FT) (fd : Int) : Option FT := if 0 ≤ fd ∧ fd < 8 then op fd.toNat else none
def TS.seekT (a : TS) (fd : Int) (f : FT) (pos : Int) : TS := a.setOp fd.toNat (some (f.1, pos, f.2.2))
def TS.readT (a : TS) (o : OpT) (f : FT) : TS :=
 if f.2.2 % 2 = 0 ∨ o.n < 0 ∨ o.n > 4096 then a else
 a.seekT o.fd f (f.2.1 + min o.n (((a.nd f.1.toNat).data.length : Int) - min f.2.1 ((a.nd f.1.toNat).data.length : Int)))
def TS.writeT (a : TS) (o : OpT) (f : FT) : TS :=
 if f.2.2 < 2 ∨ o.data.length > 4096 ∨ f.2.1 > 48640 - (o.data.length : Int) ∨ o.data.length = 0 then a else
 (a.setData f.1.toNat (writeL (a.nd f.1.toNat).data f.2.1.toNat o.data)).seekT o.fd f (f.2.1 + o.data.length)
def TS.heldT (a : TS) (o : OpT) : TS :=
 match lookO a.op o.fd with
 | none => a
 | some f =>
  if o.kind = 2 then (a.setOp o.fd.toNat none).gone f.1.toNat else
  if o.kind = 3 then a.readT o f else
  if o.kind = 4 then a.writeT o f else
  if o.kind = 5 then (if o.off < 0 ∨ o.off > 48640 then a else a.seekT o.fd f o.off) else a

def TS.mkdirE (a : TS) (o : OpT) : Int :=
 if (a.par o.path 41).2 ≠ 0 then (a.par o.path 41).2 else
 if a.find (a.par o.path 41).1 (nameN o.path) ≠ 0 then 41 else 0
def TS.mkdirT (a : TS) (o : OpT) : TS := if a.mkdirE o = 0 then a.more (a.par o.path 41).1 (nameN o.path) 2 else a

def aloneN (o : OpT) : Int := if o.kind = 8 then 51 else 43
def TS.removeE (a : TS) (o : OpT) : Int :=
 if (a.par o.path (aloneN o)).2 ≠ 0 then (a.par o.path (aloneN o)).2 else
 if a.find (a.par o.path (aloneN o)).1 (nameN o.path) = 0 then 40 else
 if o.kind = 10 ∧ (a.nd (a.find (a.par o.path (aloneN o)).1 (nameN o.path))).kind = 2 then 43 else
 if o.kind = 8 ∧ (a.nd (a.find (a.par o.path (aloneN o)).1 (nameN o.path))).kind ≠ 2 then 42 else
 if (a.nd (a.find (a.par o.path (aloneN o)).1 (nameN o.path))).names.length ≠ 0 then 44 else 0
def TS.removeS (a : TS) (d : Nat) (s : ByteArray) : TS := (a.put d s 0).less (a.find d s)
def TS.removeT (a : TS) (o : OpT) : TS := if a.removeE o = 0 then a.removeS (a.par o.path (aloneN o)).1 (nameN o.path) else a

def TS.linkE (a : TS) (o : OpT) : Int :=
 if (a.walkP o.path).2 ≠ 0 then (a.walkP o.path).2 else
 if (a.nd (a.walkP o.path).1).kind = 2 then 43 else
 if (a.par o.to 41).2 ≠ 0 then (a.par o.to 41).2 else
 if a.find (a.par o.to 41).1 (nameN o.to) ≠ 0 then 41 else
 if (a.nd (a.walkP o.path).1).links = 200 then 48 else 0
def TS.linkS (a : TS) (id d : Nat) (s : ByteArray) : TS := TS.put (a.setNd id { a.nd id with links := (a.nd id).links + 1 }) d s id
def TS.linkT (a : TS) (o : OpT) : TS := if a.linkE o = 0 then a.linkS (a.walkP o.path).1 (a.par o.to 41).1 (nameN o.to) else a

def TS.overE (a : TS) (id was : Nat) : Int :=
 if (a.nd id).kind = 2 ∧ (a.nd was).kind ≠ 2 then 42 else
 if (a.nd id).kind ≠ 2 ∧ (a.nd was).kind = 2 then 43 else
 if (a.nd was).names.length ≠ 0 then 44 else 0
def TS.endsE (a : TS) (o : OpT) : Int :=
 if (splitN o.path).2 ≠ 0 then (splitN o.path).2 else
 if (splitN o.to).2 ≠ 0 then (splitN o.to).2 else
 if (splitN o.path).1.length = 0 ∨ (splitN o.to).1.length = 0 then 51 else
 if (a.par o.path 51).2 ≠ 0 then (a.par o.path 51).2 else
 if a.find (a.par o.path 51).1 (nameN o.path) = 0 then 40 else
 if (a.nd (a.find (a.par o.path 51).1 (nameN o.path))).kind = 2 ∧ insideB (splitN o.path).1 (splitN o.to).1 = true then 49 else
 (a.par o.to 51).2
/-- from's directory and name and node, to's. -/
def TS.renE (a : TS) (id was : Nat) : Int :=
 if was ≠ 0 ∧ a.overE id was ≠ 0 then a.overE id was else
 if (a.nd id).links = 200 then 48 else 0
def TS.renS (a : TS) (d : Nat) (s : ByteArray) (d2 : Nat) (s2 : ByteArray) (id was : Nat) : TS :=
 if was ≠ 0 then ((a.put d s 0).put d2 s2 id).less was else (a.put d s 0).put d2 s2 id
def TS.ren (a : TS) (d : Nat) (s : ByteArray) (d2 : Nat) (s2 : ByteArray) : TS :=
 if a.find d s = a.find d2 s2 then a else
 if a.renE (a.find d s) (a.find d2 s2) = 0 then a.renS d s d2 s2 (a.find d s) (a.find d2 s2) else a
def TS.renameT (a : TS) (o : OpT) : TS :=
 if a.endsE o = 0 then a.ren (a.par o.path 51).1 (nameN o.path) (a.par o.to 51).1 (nameN o.to) else a

def TS.oneT (a : TS) (o : OpT) : TS :=
 if (a.walkP o.path).2 ≠ 0 ∨ o.kind = 12 ∨ o.kind = 13 ∨ (a.nd (a.walkP o.path).1).kind = 2 ∨ o.n < 0 ∨ o.n > 48640 then a else
 a.setData (a.walkP o.path).1 (sizeL (a.nd (a.walkP o.path).1).data o.n.toNat)
def TS.doT (a : TS) (o : OpT) : TS :=
 if o.kind = 1 then a.openT o else
 if o.kind = 2 ∨ o.kind = 3 ∨ o.kind = 4 ∨ o.kind = 5 ∨ o.kind = 14 then a.heldT o else
 if o.kind = 7 then a.mkdirT o else
 if o.kind = 8 ∨ o.kind = 10 then a.removeT o else
 if o.kind = 9 then a.linkT o else
 if o.kind = 11 then a.renameT o else
 if o.kind = 6 ∨ o.kind = 12 ∨ o.kind = 13 then a.oneT o else a
end Go.Proofs.YtpkhglfhpggceaaGreatDoor
