/- The plain law of package lz: tokens expanded. No program in sight. No condition. -/
import Derived.Test.YtedbidblnjajdaaPlay
namespace Go.Proofs.Ytedbidblnjajdaa.lzp

def z : Token := ⟨0, 0, 0⟩
/-- so many bytes more, each from d back -/
def run (d : Nat) : Nat → List UInt8 → List UInt8
  | 0, o => o
  | n + 1, o => run d n o ++ [(run d n o).getD ((run d n o).length - d) 0]
theorem run_length (d : Nat) (o : List UInt8) : ∀ n, (run d n o).length = o.length + n
  | 0 => rfl
  | n + 1 => by rw [run, List.length_append, run_length d o n]; simp; omega
def over (o : List UInt8) : Except Int (List UInt8) := if 4096 < o.length then .error 11 else .ok o
def step (o : List UInt8) (t : Token) : Except Int (List UInt8) :=
  if 0 < t.len then
    if t.byte ≠ 0 then .error 4
    else if 200 < t.len ∨ t.dist < 1 ∨ 255 < t.dist ∨ (o.length : Int) < t.dist then .error 2
    else over (run t.dist.toNat t.len.toNat o)
  else if t.dist ≠ 0 then .error 4
  else if t.len < 0 then .error 2
  else over (o ++ [t.byte])
def expand (l : List Token) : Except Int (List UInt8) := if 4096 < l.length then .error 1 else playTo step [] l
end Go.Proofs.Ytedbidblnjajdaa.lzp
