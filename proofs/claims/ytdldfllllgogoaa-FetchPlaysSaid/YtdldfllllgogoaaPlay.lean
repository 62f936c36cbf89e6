/- A list gone through step by step, each step a new state or a fault: plain words. No condition. -/
import Derived.Test.YtdldfllllgogoaaTypes
namespace Go.Proofs.Ytdldfllllgogoaa

/-- what becomes of a state, element by element, up to the first fault -/
def playTo {α σ : Type} (step : σ → α → Except Int σ) (s : σ) : List α → Except Int σ
  | [] => .ok s
  | x :: r => match step s x with
    | .error e => .error e
    | .ok s' => playTo step s' r
theorem playTo_cons {α σ : Type} {step : σ → α → Except Int σ} {s : σ} {x : α} {r : List α} : playTo step s (x :: r) = match step s x with | .error e => .error e | .ok s' => playTo step s' r := rfl
theorem drop_getD {α : Type} (l : List α) (z : α) {k : Nat} (h : k < l.length) : l.drop k = l.getD k z :: l.drop (k + 1) := by
  rw [List.drop_eq_getElem_cons h, List.getD_eq_getElem?_getD, List.getElem?_eq_getElem h]
  rfl
theorem play_ok {α σ : Type} {step : σ → α → Except Int σ} {s s' : σ} {l : List α} (z : α) {k : Nat} (h : k < l.length) (hs : step s (l.getD k z) = .ok s') : playTo step s (l.drop k) = playTo step s' (l.drop (k + 1)) := by
  rw [drop_getD l z h, playTo_cons, hs]
theorem play_no {α σ : Type} {step : σ → α → Except Int σ} {s : σ} {e : Int} {l : List α} (z : α) {k : Nat} (h : k < l.length) (hs : step s (l.getD k z) = .error e) : playTo step s (l.drop k) = .error e := by
  rw [drop_getD l z h, playTo_cons, hs]
theorem play_end {α σ : Type} {step : σ → α → Except Int σ} {s : σ} {l : List α} : playTo step s (l.drop l.length) = .ok s := by
  rw [List.drop_length]
  rfl
end Go.Proofs.Ytdldfllllgogoaa
