/- The law of hole.Sacks. No condition. -/
import Derived.Test.YtdldfllllgogoaaSacks2
namespace Go.Proofs.Ytdldfllllgogoaa
open Go.RowKit Go.Shelf

section
attribute [local go_sem] Oper.semAt_some
set_option maxRecDepth 100000 in
set_option maxHeartbeats 2000000 in
theorem hole_Sacks_form (done : Int) (l : List Rng) (last n : Int) (A : Option Addr) (c : Nat) (w : World) (hl : SlRep Rng.rep w (· < w.heap.size) l A c) (hn : l.length ≤ 140737488351232) (h : holeMayB done l = false) :
    CallsIn Fence.wide 9 Try.prog 41 #[.int .i64 done, .slice A l.length c, .int .i64 last, .int .i64 n] w (RngsRes (.error 4) w) := by
  have HL := Lib.hid hl
  clear hl
  refine callsIn_of_wp_marks Try.func41 rfl trivial ?_ rfl
  simp only [Try.ntmps41, List.size_toArray, List.length_cons, List.length_nil, Nat.reduceAdd, Nat.reduceSub, Array.replicate_succ, Array.replicate_zero, List.push_toArray, List.append_toArray, List.nil_append, List.cons_append]
  gi_wp2_with (first
    | (refine ⟨trivial, ?_⟩; gi_at_call 73; refine (callsIn_wide.2 (hole_May_no done l A c _ (HL.out.next (balloc (bself w) _)) hn h)).mono ?_; rintro e w1 ⟨rfl, hb1⟩)
    | fail)
  exact ⟨_, results_tmp2 rfl _ _ _, none, 0, rfl, sl_nil _ _ _, (by repeat (first | (with_reducible exact Below.refl _ _) | (with_reducible assumption) | (with_reducible refine bset ?_ ?_ _) | (with_reducible refine balloc ?_ _) | (with_reducible refine Below.drew ?_) | (with_reducible refine bdrewN ?_ _) | (with_reducible refine bnext ?_ (by with_reducible assumption)) | exact Nat.le_refl _ | (simp; done) | omega | (simp; omega)))⟩
set_option maxRecDepth 100000 in
set_option maxHeartbeats 2000000 in
theorem hole_Sacks_range (done : Int) (l : List Rng) (last n : Int) (A : Option Addr) (c : Nat) (w : World) (hl : SlRep Rng.rep w (· < w.heap.size) l A c) (hn : l.length ≤ 140737488351232) (h : holeMayB done l = true) (hr : n < 0 ∨ 16 < n) :
    CallsIn Fence.wide 9 Try.prog 41 #[.int .i64 done, .slice A l.length c, .int .i64 last, .int .i64 n] w (RngsRes (.error 2) w) := by
  have HL := Lib.hid hl
  clear hl
  refine callsIn_of_wp_marks Try.func41 rfl trivial ?_ rfl
  simp only [Try.ntmps41, List.size_toArray, List.length_cons, List.length_nil, Nat.reduceAdd, Nat.reduceSub, Array.replicate_succ, Array.replicate_zero, List.push_toArray, List.append_toArray, List.nil_append, List.cons_append]
  gi_wp2_with (first
    | (refine ⟨trivial, ?_⟩; gi_at_call 73; refine (callsIn_wide.2 (hole_May_yes done l A c _ (HL.out.next (balloc (bself w) _)) hn h)).mono ?_; rintro e w1 ⟨rfl, hb1⟩)
    | fail)
  all_goals first
    | exact ⟨_, results_tmp2 rfl _ _ _, none, 0, rfl, sl_nil _ _ _, (by repeat (first | (with_reducible exact Below.refl _ _) | (with_reducible assumption) | (with_reducible refine bset ?_ ?_ _) | (with_reducible refine balloc ?_ _) | (with_reducible refine Below.drew ?_) | (with_reducible refine bdrewN ?_ _) | (with_reducible refine bnext ?_ (by with_reducible assumption)) | exact Nat.le_refl _ | (simp; done) | omega | (simp; omega)))⟩
    | omega
end

set_option maxHeartbeats 1000000 in
theorem ref_Sacks_form (done : Int) (l : List Rng) (last n : Int) (A : Option Addr) (c : Nat) (w : World) (hl : SlRep Rng.rep w (· < w.heap.size) l A c) (hn : l.length ≤ 140737488351232) (h : holeMayB done l = false) :
    Calls Try.prog 44 #[.int .i64 done, .slice A l.length c, .int .i64 last, .int .i64 n] w (RngsRes (.error 4) w) := by
  have HL := Lib.hid hl
  clear hl
  go_enter Try.func44, Try.ntmps44
  go_wp2_with (go_at_call 75; refine (ref_HoleMay_no done l A c _ HL.out hn h).mono ?_; rintro e w1 ⟨rfl, hb1⟩)
  go_ret2
  exact ⟨none, 0, rfl, sl_nil _ _ _, hb1⟩
set_option maxHeartbeats 1000000 in
theorem ref_Sacks_range (done : Int) (l : List Rng) (last n : Int) (A : Option Addr) (c : Nat) (w : World) (hl : SlRep Rng.rep w (· < w.heap.size) l A c) (hn : l.length ≤ 140737488351232) (h : holeMayB done l = true) (hr : n < 0 ∨ 16 < n) :
    Calls Try.prog 44 #[.int .i64 done, .slice A l.length c, .int .i64 last, .int .i64 n] w (RngsRes (.error 2) w) := by
  have HL := Lib.hid hl
  clear hl
  by_cases h0 : n < 0
  · go_enter Try.func44, Try.ntmps44
    go_wp2_with (go_at_call 75; refine (ref_HoleMay_yes done l A c _ HL.out hn h).mono ?_; rintro e w1 ⟨rfl, hb1⟩)
    go_ret2
    exact ⟨none, 0, rfl, sl_nil _ _ _, hb1⟩
  · have h1 : 16 < n := by omega
    clear hr
    go_enter Try.func44, Try.ntmps44
    go_wp2_with (go_at_call 75; refine (ref_HoleMay_yes done l A c _ HL.out hn h).mono ?_; rintro e w1 ⟨rfl, hb1⟩)
    go_ret2
    exact ⟨none, 0, rfl, sl_nil _ _ _, hb1⟩

/-- what both answer -/
noncomputable def sackRes (done : Int) (l : List Rng) (last n : Int) : Except Int (List Rng) :=
  if holeMayB done l = false then .error 4 else if n < 0 ∨ 16 < n then .error 2 else .ok (sacks last n l)
theorem may_len {done : Int} {l : List Rng} (h : holeMayB done l = true) : l.length ≤ 16 := by
  have hm : HoleMay done l := by simpa [holeMayB] using h
  exact hm.2.2.1
theorem hole_Sacks_res (done : Int) (l : List Rng) (last n : Int) (A : Option Addr) (c : Nat) (w : World) (hl : SlRep Rng.rep w (· < w.heap.size) l A c) (hn : l.length ≤ 140737488351232) :
    Calls Try.prog 41 #[.int .i64 done, .slice A l.length c, .int .i64 last, .int .i64 n] w (RngsRes (sackRes done l last n) w) := by
  cases h : holeMayB done l with
  | false => rw [show sackRes done l last n = .error 4 from if_pos h]; exact callsIn_wide.1 (hole_Sacks_form done l last n A c w hl hn h)
  | true =>
    by_cases hr : n < 0 ∨ 16 < n
    · rw [show sackRes done l last n = .error 2 by unfold sackRes; rw [if_neg (by simp [h]), if_pos hr]]; exact callsIn_wide.1 (hole_Sacks_range done l last n A c w hl hn h hr)
    · rw [show sackRes done l last n = .ok (sacks last n l) by unfold sackRes; rw [if_neg (by simp [h]), if_neg hr]]; exact callsIn_wide.1 (hole_Sacks_in done l last n A c w hl h (by omega))
theorem ref_Sacks_res (done : Int) (l : List Rng) (last n : Int) (A : Option Addr) (c : Nat) (w : World) (hl : SlRep Rng.rep w (· < w.heap.size) l A c) (hn : l.length ≤ 140737488351232) :
    Calls Try.prog 44 #[.int .i64 done, .slice A l.length c, .int .i64 last, .int .i64 n] w (RngsRes (sackRes done l last n) w) := by
  cases h : holeMayB done l with
  | false => rw [show sackRes done l last n = .error 4 from if_pos h]; exact ref_Sacks_form done l last n A c w hl hn h
  | true =>
    by_cases hr : n < 0 ∨ 16 < n
    · rw [show sackRes done l last n = .error 2 by unfold sackRes; rw [if_neg (by simp [h]), if_pos hr]]; exact ref_Sacks_range done l last n A c w hl hn h hr
    · rw [show sackRes done l last n = .ok (sacks last n l) by unfold sackRes; rw [if_neg (by simp [h]), if_neg hr]]; exact ref_Sacks_ok done l last n A c w hl h (by omega)

end Go.Proofs.Ytdldfllllgogoaa
