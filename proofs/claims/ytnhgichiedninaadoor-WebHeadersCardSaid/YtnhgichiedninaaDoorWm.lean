/-
  Addresses of web seeds told in plain words: which texts are seeds, how bytes stand in an address, a file's address. Plain Lean, no program. No condition.
-/
import Derived.Test.YtnhgichiedninaaDoorVa
import Derived.Lib.Strings
namespace Go.Proofs.YtnhgichiedninaaDoor
set_option linter.unusedSimpArgs false
set_option linter.unusedVariables false

def httpB : List UInt8 := [104, 116, 116, 112, 58, 47, 47]
def httpsB : List UInt8 := [104, 116, 116, 112, 115, 58, 47, 47]
/-- Is a text a web seed? -/
def validU (u : ByteArray) : Bool := decide (u.size ≤ 200) && (Lib.hasPrefix u.data.toList httpB || Lib.hasPrefix u.data.toList httpsB)
/-- The bytes that stand as they are. -/
def plainB (b : UInt8) : Bool := (decide (97 ≤ b.toNat) && decide (b.toNat ≤ 122)) || (decide (65 ≤ b.toNat) && decide (b.toNat ≤ 90)) || (decide (48 ≤ b.toNat) && decide (b.toNat ≤ 57)) || decide (b = 45) || decide (b = 46) || decide (b = 95) || decide (b = 126) || decide (b = 47)
def hexDigits : List UInt8 := [48, 49, 50, 51, 52, 53, 54, 55, 56, 57, 65, 66, 67, 68, 69, 70]
def hexD (n : Nat) : UInt8 := hexDigits.getD n 0
def escB (b : UInt8) : List UInt8 := if plainB b then [b] else [37, hexD (b.toNat / 16), hexD (b.toNat % 16)]
/-- A text in an address. -/
def escOf (l : List UInt8) : List UInt8 := l.flatMap escB
theorem escB_len (b : UInt8) : (escB b).length ≤ 3 := by
  unfold escB
  split <;> simp
theorem escOf_len : ∀ l : List UInt8, (escOf l).length ≤ 3 * l.length
  | [] => by simp [escOf]
  | b :: l => by
    have h1 := escOf_len l
    have h2 := escB_len b
    unfold escOf at *
    rw [List.flatMap_cons, List.length_append, List.length_cons]
    omega
theorem escOf_next {l : List UInt8} {k : Nat} (h : k < l.length) : escOf (l.take (k + 1)) = escOf (l.take k) ++ escB l[k] := by
  unfold escOf
  rw [List.take_add_one, List.getElem?_eq_getElem h, List.flatMap_append]
  simp
def endsSlash (u : List UInt8) : Bool := Lib.hasSuffix u [47]
/-- A file's address. -/
def urlOf (url name : ByteArray) (l : List FileV) (file : Nat) : List UInt8 :=
  if l.length = 1 ∧ endsSlash url.data.toList = false then url.data.toList
  else (if endsSlash url.data.toList then url.data.toList else url.data.toList ++ [47]) ++ escOf name.data.toList ++ (if l.length = 1 then [] else [47] ++ escOf (joinB ((l[file]?).map (·.path) |>.getD [])).data.toList)
def askedB (url name : ByteArray) (l : List FileV) : Bool := validU url && !decide (name.size = 0) && decide (name.size ≤ 100) && validOf l
/-- What Path answers. -/
def urlErr (url name : ByteArray) (l : List FileV) (file : Int) : Int :=
  if askedB url name l then (if file < 0 ∨ (l.length : Int) ≤ file then 7 else (match l[file.toNat]? with | some f => if f.pad then 10 else 0 | none => 7)) else 1
def urlRes (url name : ByteArray) (l : List FileV) (file : Int) : List UInt8 := if urlErr url name l file = 0 then urlOf url name l file.toNat else []
end Go.Proofs.YtnhgichiedninaaDoor
