/- Package ref: a reader's text. No condition. -/
import Derived.Test.YtcpbgiikfabaaaaMsgX
namespace Go.Proofs.Ytcpbgiikfabaaaa
open Go.RowKit

theorem ref_num2 (R : Nat) (st : mg.Rd) (A : Option Addr) (c : Nat) (S : Nat → Prop) (w : World) (h : mg.RdAt w R S st A c) (hS : ∀ k, S k → k ≠ R) :
    Calls Try.prog 28 #[.pointer (some ⟨R, 0, none⟩), .int .i64 2] w (mg.NumRes R S (mg.rnum 2 st).1 (.int .i64 (mg.rnum 2 st).2) w) := ref_num R 2 st A c S w h hS (by omega)
theorem ref_num1 (R : Nat) (st : mg.Rd) (A : Option Addr) (c : Nat) (S : Nat → Prop) (w : World) (h : mg.RdAt w R S st A c) (hS : ∀ k, S k → k ≠ R) :
    Calls Try.prog 28 #[.pointer (some ⟨R, 0, none⟩), .int .i64 1] w (mg.NumRes R S (mg.rnum 1 st).1 (.int .i64 (mg.rnum 1 st).2) w) := ref_num R 1 st A c S w h hS (by omega)
theorem ref_num4 (R : Nat) (st : mg.Rd) (A : Option Addr) (c : Nat) (S : Nat → Prop) (w : World) (h : mg.RdAt w R S st A c) (hS : ∀ k, S k → k ≠ R) :
    Calls Try.prog 28 #[.pointer (some ⟨R, 0, none⟩), .int .i64 4] w (mg.NumRes R S (mg.rnum 4 st).1 (.int .i64 (mg.rnum 4 st).2) w) := ref_num R 4 st A c S w h hS (by omega)
theorem mg.NumRes.after {R : Nat} {S : Nat → Prop} {st : mg.Rd} {v : Value} {w0 w : World} {e : Ending} {w' : World} (hg : w0.grownBy w (some R)) (h : mg.NumRes R S st v w e w') : mg.NumRes R S st v w0 e w' := by
  obtain ⟨A, c, he, h1, h2⟩ := h
  exact ⟨A, c, he, h1, mg.grown_trans hg h2⟩
set_option maxHeartbeats 1000000 in
theorem ref_text (R : Nat) (st : mg.Rd) (A : Option Addr) (c : Nat) (S : Nat → Prop) (w : World) (h : mg.RdAt w R S st A c) (hS : ∀ k, S k → k ≠ R) :
    Calls Try.prog 29 #[.pointer (some ⟨R, 0, none⟩)] w (mg.NumRes R S (mg.rtext st).1 (.string (strOf (mg.rtext st).2)) w) := by
  have H := Lib.hid h
  have HS := Lib.hid hS
  clear h hS
  obtain ⟨st1, n, HE⟩ : ∃ st1 n, Hid (mg.rnum 2 st = (st1, n)) := ⟨_, _, Lib.hid rfl⟩
  have HN := Lib.hid (ref_num2 R st A c S w H.out HS.out)
  rw [HE.out] at HN
  by_cases hlt : st1.b.length < n
  · have HT : Hid (mg.rtext st = (⟨[], true⟩, [])) := Lib.hid (by unfold mg.rtext; rw [HE.out, if_pos hlt])
    rw [HT.out]
    have q := decide_eq_true hlt
    clear hlt
    go_enter Try.func29, Try.ntmps29
    go_wp2_with (first
      | (go_at_call 28; refine HN.out.mono ?_; rintro e w1 ⟨A1, c1, rfl, h1, hg1⟩; have H1 := Lib.hid h1; have HG1 := Lib.hid hg1; have x0 := h1.c0; have x1 := h1.c1; have fz := h1.fz; clear h1 hg1)
      | fail)
    go_ret
    exact (mg.NumRes.short H1.out HS.out _).after HG1.out
  · have HT : Hid (mg.rtext st = (⟨st1.b.drop n, st1.short⟩, st1.b.take n)) := Lib.hid (by unfold mg.rtext; rw [HE.out, if_neg hlt])
    rw [HT.out]
    have q := decide_eq_false hlt
    have hle : n ≤ st1.b.length := by omega
    clear hlt
    go_enter Try.func29, Try.ntmps29
    go_wp2_with (first
      | (go_at_call 28; refine HN.out.mono ?_; rintro e w1 ⟨A1, c1, rfl, h1, hg1⟩; have H1 := Lib.hid h1; have HG1 := Lib.hid hg1; have x0 := h1.c0; have x1 := h1.c1; have fz := h1.fz; have hcap := h1.data.1; have c2 := (fun W => run_cut_l elemU8 A1 st1.b.length c1 n hle (n : Int) rfl W); have c3 := (fun W => run_cut_h elemU8 A1 st1.b.length c1 n (by omega) (n : Int) rfl W); have c4 := run_string (h1.data.take n); rw [show (st1.b.take n).length = n by rw [List.length_take]; omega] at c4; clear h1 hg1)
      | fail)
    go_ret
    exact (mg.NumRes.cut H1.out HS.out hle _).after HG1.out
end Go.Proofs.Ytcpbgiikfabaaaa
