/- The plain law of package delta: a file patched. No program in sight. No condition. -/
import Derived.Test.YtedbidblnjajdaaPlay
namespace Go.Proofs.Ytedbidblnjajdaa.dlt

def z : Piece := ⟨false, 0, 0, []⟩
def over (o : List UInt8) : Except Int (List UInt8) := if 2048 < o.length then .error 11 else .ok o
def bad (old : List UInt8) (p : Piece) : Prop := p.from_ < 0 ∨ p.len < 0 ∨ (old.length : Int) < p.from_ ∨ (old.length : Int) - p.from_ < p.len
instance (old : List UInt8) (p : Piece) : Decidable (bad old p) := by unfold bad; infer_instance
def step (old : List UInt8) (o : List UInt8) (p : Piece) : Except Int (List UInt8) :=
  if p.copy = true then
    if 0 < p.data.length then .error 4
    else if bad old p then .error 2
    else over (o ++ (old.drop p.from_.toNat).take p.len.toNat)
  else if p.from_ ≠ 0 ∨ p.len ≠ 0 then .error 4
  else over (o ++ p.data)
def patch (old : List UInt8) (l : List Piece) : Except Int (List UInt8) := if 2048 < old.length ∨ 2048 < l.length then .error 1 else playTo (step old) [] l
end Go.Proofs.Ytedbidblnjajdaa.dlt
