/- What a few of the library's functions answer. -/
import Derived.Test.YtaepllhjnbencaaGreatDoorMuCore
set_option linter.unusedVariables false
namespace Mu

def idxOf (c : Nat) : List Nat → Nat → Int
  | [], _ => .negSucc 0
  | x :: r, i => bif Nat.beq x c then .ofNat i else idxOf c r (i + 1)

/-- internal/bytealg.IndexByteString -/
def pIndexByte : List V → M → R
  | [.str s, .int .u8 c], m => bif Nat.blt c.toNat 256 then .ok (.int .i64 (idxOf c.toNat s 0)) m else .bad
  | _, _ => .bad

def insI (v : Int) : List Int → List Int
  | [] => [v]
  | x :: r => if v < x then v :: x :: r else x :: insI v r

def keysI : List (V × V) → Option (List Int)
  | [] => some []
  | (.int .i64 k, _) :: r => (keysI r).map (k :: ·)
  | _ => none

def sortI (l : List Int) : List Int := l.foldr insI []

/-- the keys of a map, rising; t: the type 'int' -/
def pIds (t : Nat) : List V → M → R
  | [.ptr b o], m => match loadAt false 1 b o m with
    | .ok (.map r) _ => (match m.get r with
      | some (.map es) => (match keysI es with
        | some [] => .ok .snil m
        | some ks => bif Nat.ble ks.length 12 then .ok (.sl m.n 0 ks.length ks.length 1 false) (m.new (.cells ((sortI ks).map (.int .i64 ·)) .rw t)) else .bad
        | none => .bad)
      | _ => .bad)
    | _ => .bad
  | _, _ => .bad
/-- what hands its argument back -/
def pSame : List V → M → R
  | [.ptr b o], m => .ok (.ptr b o) m
  | [.pnil], m => .ok .pnil m
  | _, _ => .bad
end Mu
