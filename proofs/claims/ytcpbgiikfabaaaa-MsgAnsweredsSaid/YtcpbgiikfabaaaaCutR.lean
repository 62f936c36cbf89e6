/- A cut within a region that does not draw: its first n operations are walked apart; what they leave is said once. No condition. -/
import Derived.Tactics
import Derived.Orders
namespace Go.Proofs.Ytcpbgiikfabaaaa
section
variable {P : Program} {ops : Array Oper} {Q : Exit → Act → World → Prop} {R : Act → World → Prop}
/-- the end of a piece: R; every other way out as before -/
def cutQ (R : Act → World → Prop) (Q : Exit → Act → World → Prop) : Exit → Act → World → Prop := fun e a w => e = .normal ∧ R a w ∨ e ≠ .normal ∧ Q e a w
theorem letsOut_cut (h : LetsOut (cutQ R Q)) : LetsOut Q := by
  obtain ⟨a, w, h⟩ := h
  rcases h with ⟨e, _⟩ | ⟨_, h⟩
  · cases e
  · exact ⟨a, w, h⟩
theorem upon_cut {o : Oper} {a : Act} {w : World} {K : Act → World → Prop} (hh : o.wp P a w K (cutQ R Q)) : o.wp P a w K Q := by
  unfold Oper.wp at *
  generalize (execOp a.eval o).run P w = r at *
  cases r with
  | ok n w' =>
    cases n <;> simp only [Oper.upon] at hh ⊢ <;>
      first
        | exact hh
        | (refine Calls.mono hh (fun e w'' he => ?_)
           cases e with
           | returned v => exact he
           | panicked c =>
             rcases he with ⟨e, _⟩ | ⟨_, h⟩
             · cases e
             · exact h
           | outgrown => exact letsOut_cut he)
  | halt x w' =>
    cases x <;> simp only [Oper.upon] at hh ⊢ <;> first | exact hh | skip
    rcases hh with ⟨e, _⟩ | ⟨_, h⟩
    · cases e
    · exact h
theorem wpList_cut : ∀ (pre post : List Oper) (a : Act) (w : World), wpList P ops (cutQ R Q) pre a w → (∀ a' w', R a' w' → wpList P ops Q post a' w') → wpList P ops Q (pre ++ post) a w
  | [], post, a, w, h, k => by
    rcases h with ⟨_, h⟩ | ⟨h, _⟩
    · exact k a w h
    · exact absurd rfl h
  | o :: pre, post, a, w, h, k => by
    unfold wpList at h
    show wpList P ops Q (o :: (pre ++ post)) a w
    unfold wpList
    split at h
    · rename_i hw
      rw [if_pos hw]
      rcases h with h | ⟨h1, h2⟩
      · exact .inl (upon_cut (Oper.wp_mono (fun a' w' h' => wpList_cut pre post a' w' h' k) h))
      · exact .inr ⟨h1, letsOut_cut h2⟩
    · rename_i hw
      rw [if_neg hw]
      exact wpList_cut pre post _ _ h k
theorem wpList_cutAt (n : Nat) {l : List Oper} {a : Act} {w : World} (R : Act → World → Prop) (h : wpList P ops (cutQ R Q) (l.take n) a w) (k : ∀ a' w', R a' w' → wpList P ops Q (l.drop n) a' w') : wpList P ops Q l a w := by
  have := wpList_cut (R := R) (l.take n) (l.drop n) a w h k
  rwa [List.take_append_drop] at this
theorem cutQ_normal {a : Act} {w : World} (h : R a w) : cutQ R Q .normal a w := .inl ⟨rfl, h⟩
end
end Go.Proofs.Ytcpbgiikfabaaaa
