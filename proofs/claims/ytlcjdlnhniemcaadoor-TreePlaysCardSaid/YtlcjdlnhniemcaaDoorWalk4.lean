/- Package path: the laws PathCleans, PathFollows. No condition. -/
import Derived.Test.YtlcjdlnhniemcaaDoorWalk3
namespace Go.Proofs.YtlcjdlnhniemcaaDoor
open Go.RowKit

set_option maxHeartbeats 400000 in
theorem ref_PathClean (path : List UInt8) (w : World) (hp : path.length ≤ 140737488351232) : Calls Tryd.prog 20 #[.string (strOf path)] w (StrsRes (pa.walk [] path) w) := by
  have HW := Lib.hid (ref_pathFrom [] none 0 path w (pa.nil_rep w) (by simp) hp)
  go_enter Tryd.func20, Tryd.ntmps20
  go_wp2_with (go_at_call 34; refine HW.out.mono ?_; rintro e w2 ⟨A2, c2, rfl, ho2, hb2⟩)
  go_ret2
  exact ⟨A2, c2, rfl, ho2, hb2⟩
set_option maxHeartbeats 1000000 in
theorem ref_PathFollow (l : List ByteArray) (A : Option Addr) (c : Nat) (p : List UInt8) (w : World) (hl : SlRep Rep.str w (· < w.heap.size) l A c) (hn : l.length ≤ 140737488351232) (hs : ∀ s ∈ l, s.size ≤ 140737488351232) (hp : p.length ≤ 140737488351232) :
    Calls Tryd.prog 36 #[.slice A l.length c, .string (strOf p)] w (StrsRes (pa.follow (pa.lists l) p) w) := by
  have HF := Lib.hid (ref_namesFault l A c w hl hn hs)
  have HL := Lib.hid hl
  clear hl hs
  by_cases hf : pa.fault (pa.lists l) = 0
  · have h12 : l.length ≤ 12 := by have := pa.fault_len hf; rwa [pa.lists_len] at this
    have HWK := Lib.hid (fun w1 (hb : Below w.heap.size w w1) => ref_pathFrom l A c p w1 (HL.out.next hb) h12 hp)
    have HCL := Lib.hid (fun w1 => ref_pathFrom [] none 0 p w1 (pa.nil_rep w1) (by simp) hp)
    have HROOT := Lib.hid (fun hs => pa.follow_root (p := p) hf hs)
    have HON := Lib.hid (fun hs => pa.follow_on (p := p) hf hs)
    generalize pa.follow (pa.lists l) p = r at *
    generalize pa.fault (pa.lists l) = er at *
    subst hf
    cases p with
    | nil =>
      have HX := Lib.hid (HON.out rfl)
      go_enter Tryd.func36, Tryd.ntmps36
      go_wp2_with (first
        | (go_at_call 50; refine HF.out.mono ?_; rintro e w2 ⟨rfl, hb2⟩)
        | (go_at_call 34; refine (HWK.out _ hb2).mono ?_; rintro e w4 ⟨A4, c4, rfl, ho4, hb4⟩)
        | fail)
      go_ret2
      rw [HX.out]
      exact ⟨A4, c4, rfl, ho4.base_le hb2.size, bnext hb2 hb4⟩
    | cons b t =>
      by_cases hb : b = 47
      · subst hb
        have HX := Lib.hid (HROOT.out rfl)
        go_enter Tryd.func36, Tryd.ntmps36
        go_wp2_with (first
          | (go_at_call 50; refine HF.out.mono ?_; rintro e w2 ⟨rfl, hb2⟩)
          | (go_at_call 34; refine (HCL.out _).mono ?_; rintro e w4 ⟨A4, c4, rfl, ho4, hb4⟩)
          | fail)
        go_ret2
        rw [HX.out]
        exact ⟨A4, c4, rfl, ho4.base_le hb2.size, bnext hb2 hb4⟩
      · have HX := Lib.hid (HON.out (decide_eq_false (by simp [hb])))
        obtain ⟨k0, k0'⟩ := pa.u8_no 47 hb rfl
        clear hb
        go_enter Tryd.func36, Tryd.ntmps36
        go_wp2_with (first
          | (go_at_call 50; refine HF.out.mono ?_; rintro e w2 ⟨rfl, hb2⟩)
          | (go_at_call 34; refine (HWK.out _ hb2).mono ?_; rintro e w4 ⟨A4, c4, rfl, ho4, hb4⟩)
          | fail)
        go_ret2
        rw [HX.out]
        exact ⟨A4, c4, rfl, ho4.base_le hb2.size, bnext hb2 hb4⟩
  · have d1 : (pa.fault (pa.lists l) == 0) = false := beq_eq_false_iff_ne.2 hf
    have d2 : (pa.fault (pa.lists l) != 0) = true := bne_iff_ne.2 hf
    have HX := Lib.hid (pa.follow_no (p := p) hf)
    generalize pa.follow (pa.lists l) p = r at *
    generalize pa.fault (pa.lists l) = er at *
    clear hf
    go_enter Tryd.func36, Tryd.ntmps36
    go_wp2_with (go_at_call 50; refine HF.out.mono ?_; rintro e w2 ⟨rfl, hb2⟩)
    go_ret2
    exact StrsRes.no HX.out hb2

theorem pa.to_list (s : ByteArray) : strOf s.data.toList = s := (strOf_of s).symm
theorem pa.str_len {s : ByteArray} (h : StrOk s) : s.data.toList.length ≤ 140737488351232 := by
  have h2 := h
  rw [← pa.to_list s] at h2
  unfold StrOk at h2
  rwa [strOf_size] at h2
theorem pa.own_strs {w : World} {base : Nat} {A : Option Addr} {n c : Nat} {l : List (List UInt8)} (h : Own w base 9 1 A n c (l.map pa.sv)) : SlRep Rep.str w (fun k => base ≤ k ∧ k < w.heap.size) (l.map strOf) A c := by
  have h2 : Own w base 9 1 A n c ((l.map strOf).map Value.string) := by
    rw [List.map_map]
    exact h
  exact h2.strs.2

end Go.Proofs.YtlcjdlnhniemcaaDoor
