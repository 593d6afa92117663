/- A drive's answers, in plain Lean. -/
import Derived.Test.YtbjimikppdfmgaaDoorDMem
set_option linter.unusedVariables false
set_option linter.unusedSimpArgs false
namespace Go.Proofs.YtbjimikppdfmgaaDoor
open Go.RowKit

def quotableB (n : Int) : Bool := decide (0 ≤ n) && decide (n ≤ 16777216)
def signB (c : UInt8) : Bool := (decide (97 ≤ c.toNat) && decide (c.toNat ≤ 122)) || (decide (48 ≤ c.toNat) && decide (c.toNat ≤ 57)) || c.toNat == 46 || c.toNat == 47 || c.toNat == 45 || c.toNat == 95
def namedB (l : List UInt8) : Bool := l.all signB && decide (1 ≤ l.length) && decide (l.length ≤ 60)
def wrap1 (n : Int) : Int := wrap64 (n + 1)

def Dr.new (q : Int) : Dr := ⟨[], q, 0, false, -1⟩
/-- A deed that is tried: the error, and what the drive is behind it but for the deed itself. -/
def Dr.may (d : Dr) (e : Int) : Dr × Int :=
  if d.down then (d, 13) else if e ≠ 0 then (d, e) else if d.left = 0 then ({ d with down := true, left := -1 }, 13) else ({ d with left := if 0 ≤ d.left then d.left - 1 else -1, deeds := wrap1 d.deeds }, 0)
def Dr.deed (d : Dr) (e : Int) (f : Dr → Dr) : Dr × Int := if (d.may e).2 = 0 then (f (d.may e).1, 0) else d.may e
def Dr.thereE (d : Dr) (name : Key) : Int := if (kget d.files name).isSome then 0 else 10
def Dr.createE (d : Dr) (name : Key) : Int := if !namedB name then 1 else if (kget d.files name).isSome then 11 else if 65536 ≤ d.files.length then 12 else 0
def Dr.create (d : Dr) (name : Key) : Dr × Int := d.deed (d.createE name) fun d => { d with files := kput d.files name ⟨[], []⟩ }
def Dr.appendE (d : Dr) (name : Key) (n : Nat) : Int := if d.thereE name = 0 ∧ d.quota - d.used < n then 12 else d.thereE name
def fileOf (d : Dr) (name : Key) : File := (kget d.files name).getD ⟨[], []⟩
def Dr.append (d : Dr) (name : Key) (data : List UInt8) : Dr × Int := d.deed (d.appendE name data.length) fun d => { d with files := kset d.files name ⟨(fileOf d name).safe, (fileOf d name).pieces ++ [data]⟩ }
def Dr.sync (d : Dr) (name : Key) : Dr × Int := d.deed (d.thereE name) fun d => { d with files := kput d.files name ⟨(fileOf d name).all, []⟩ }
def Dr.remove (d : Dr) (name : Key) : Dr × Int := d.deed (d.thereE name) fun d => { d with files := kdel d.files name }
def Dr.renameE (d : Dr) (a b : Key) : Int := if d.thereE a = 0 ∧ !namedB b then 1 else d.thereE a
def Dr.rename (d : Dr) (a b : Key) : Dr × Int := d.deed (d.renameE a b) fun d => { d with files := kput (kdel d.files a) b (fileOf d a) }
def Dr.readE (d : Dr) (name : Key) : Int := if d.down then 13 else d.thereE name
def Dr.read (d : Dr) (name : Key) : List UInt8 := if d.readE name = 0 then (fileOf d name).all else []
def Dr.arm (d : Dr) (n : Int) : Dr := { d with left := if 0 ≤ n then n else -1 }
def Dr.quotaE (d : Dr) (n : Int) : Int := if d.down then 13 else if quotableB n then 0 else 1
def Dr.setQuota (d : Dr) (n : Int) : Dr := if d.quotaE n = 0 then { d with quota := n } else d

/-- What holds of every drive; N bounds the pieces of a file. -/
structure Dr.Ok (N : Nat) (d : Dr) : Prop where
  q0 : 0 ≤ d.quota
  q1 : d.quota ≤ 16777216
  used : d.used ≤ 16777216
  files : d.files.length ≤ 65536
  keys : ∀ p ∈ d.files, namedB p.1 = true
  rising : d.files.Pairwise fun p q => bytesBefore p.1 q.1 = true
  few : ∀ p ∈ d.files, p.2.pieces.length ≤ N
  left : -1 ≤ d.left ∧ d.left ≤ 9223372036854775807
end Go.Proofs.YtbjimikppdfmgaaDoor
