/- The reference of recv: Low. No condition. -/
import Derived.Test.YtdldfllllgogoaaRecv2
import Derived.Test.YtdldfllllgogoaaMapV
namespace Go.Proofs.Ytdldfllllgogoaa
open Go.RowKit Go.Maps Go.WideShapes Go.ChangeMaps Go.MapKept
set_option linter.unusedSimpArgs false

/-- the reference's hearer, in the block G: its map in the block Mb -/
structure IAt (w : World) (G Mb n : Nat) (room taken end_ : Int) (known : Bool) (f : Int → Option Value) : Prop where
  blk : BlkA w G 107 #[.int .i64 room, .map (some Mb), .int .i64 taken, .int .i64 end_, .bool known]
  map : MapV w Try.prog 3 Mb n (mapI f)
theorem IAt.next {w w' : World} {G Mb n : Nat} {room taken end_ : Int} {known : Bool} {f : Int → Option Value} (h : IAt w G Mb n room taken end_ known f) (hb : Below w.heap.size w w') : IAt w' G Mb n room taken end_ known f := ⟨h.blk.next hb, h.map.next hb⟩

set_option maxRecDepth 100000 in
set_option maxHeartbeats 1000000 in
theorem ref_Low (G Mb n : Nat) (room taken end_ d : Int) (known : Bool) (f : Int → Option Value) (w : World) (h : IAt w G Mb n room taken end_ known f) (h0 : 0 ≤ taken) (h1 : taken ≤ d) (h2 : d ≤ 4000000) (hf : ∀ k, taken ≤ k → k < d → f k ≠ none) (hd : f d = none) :
    Calls Try.prog 43 #[.pointer (some ⟨G, 0, none⟩)] w fun e w' => e = .returned (.int .i64 d) ∧ Below w.heap.size w w' := by
  have H := Lib.hid h
  have HF := Lib.hid hf
  have HD := Lib.hid hd
  have c1 := h.blk.get 1
  have c2 := h.blk.get 2
  simp only [List.getElem?_toArray, List.getElem?_cons_succ, List.getElem?_cons_zero] at c1 c2
  clear h hf hd
  go_enter Try.func43, Try.ntmps43
  go_wp2
  go_loopw [3] (fun s wr => ∃ k : Int, taken ≤ k ∧ k ≤ d ∧ s = .int .i64 k ∧ Below w.heap.size w wr) (fun s _ => (d - intOf s).toNat)
  case atStart => exact ⟨taken, Int.le_refl _, h1, rfl, Below.refl _ _⟩
  case round =>
    obtain ⟨k, hk1, hk2, rfl, hB⟩ := hrel
    rename World => wr
    have HN := Lib.hid (H.out.next hB)
    have c1 := HN.out.blk.get 1
    simp only [List.getElem?_toArray, List.getElem?_cons_succ, List.getElem?_cons_zero] at c1
    have HWF : Hid ((Lit.int .i64 k).wf = true) := Lib.hid (wf_i64 (by unfold IntOk; omega))
    by_cases hkd : k = d
    · subst hkd
      have HV : Hid (mapI f (.int .i64 k) = none) := Lib.hid (by rw [mapI_at]; exact HD.out)
      go_wp2_with (at_lookup; refine wp_mlook_ok _ rfl _ _ _ rfl (Go.Maps.int_keyed Try.underlying3) Try.underlying68 (z := .int .u8 0) (by kernel_rfl) rfl HN.out.map _ rfl (Go.Maps.keyOf_int_mk Try.underlying3 HWF.out) ?_; rw [HV.out])
      go_ret
      exact ⟨rfl, hB⟩
    · obtain ⟨u, hu⟩ : ∃ u, f k = some u := by
        cases h : f k with
        | none => exact absurd h (HF.out k hk1 (by omega))
        | some u => exact ⟨u, rfl⟩
      have HV : Hid (mapI f (.int .i64 k) = some u) := Lib.hid (by rw [mapI_at]; exact hu)
      clear hu
      go_wp2_with (at_lookup; refine wp_mlook_ok _ rfl _ _ _ rfl (Go.Maps.int_keyed Try.underlying3) Try.underlying68 (z := .int .u8 0) (by kernel_rfl) rfl HN.out.map _ rfl (Go.Maps.keyOf_int_mk Try.underlying3 HWF.out) ?_; rw [HV.out])
      go_roundw
      case rel => exact ⟨k + 1, by omega, by omega, by go_num, hB⟩
      case measure => simp [intOf]; omega
end Go.Proofs.Ytdldfllllgogoaa
