/- Package frame: Put, Wrap and the reference; the walk of the law FrameWraps. No condition. -/
import Derived.Test.YtcpbgiikfabaaaaBytes
import Derived.LoopTactic
import Derived.Deep.QuietTactic
import Derived.BigQuiet
namespace Go.Proofs.Ytcpbgiikfabaaaa
open Go.RowKit

set_option maxHeartbeats 400000 in
theorem frame_Put (base : Nat) (A : Option Addr) (m c : Nat) (xs : List Value) (wide : Nat) (n : Int) (w : World) (hown : Own w base 5 1 A m c xs) (hbase : base ≤ w.heap.size) (hw : wide ≤ 8) (_hn : 0 ≤ n) (_hn2 : n ≤ 9223372036854775807) (hm : m ≤ 1073741824) :
    Calls Try.prog 39 #[.slice A m c, .int .i64 wide, .int .i64 n] w fun e w' => ∃ A' c', e = .returned (.slice A' (m + wide) c') ∧ Own w' base 5 1 A' (m + wide) c' (xs ++ (beBytes n wide).map u8v) ∧ Grew w w' A A' := by
  have HO := Lib.hid hown
  clear hown
  go_enter Try.func39, Try.ntmps39
  go_wp2
  go_loopw [0, 7] (fun b i wr => ∃ (k : Nat) (A' : Option Addr) (c' : Nat), k ≤ wide ∧ i = .int .i64 ((k : Int) - 1) ∧ b = .slice A' (m + (wide - k)) c' ∧ Hid (∃ done : List UInt8, done ++ beBytes n k = beBytes n wide ∧ Own wr base 5 1 A' (m + (wide - k)) c' (xs ++ done.map u8v)) ∧ Grew w wr A A') (fun _ i _ => (intOf i + 1).toNat)
  case atStart => exact ⟨wide, A, c, Nat.le_refl _, rfl, by rw [Nat.sub_self]; rfl, Lib.hid ⟨[], rfl, by simpa using HO.out⟩, Grew.refl _ _⟩
  case round =>
    obtain ⟨k, A', c', hk, rfl, rfl, HD, hg⟩ := hrel
    by_cases hlt : 0 < k
    · obtain ⟨j, rfl⟩ : ∃ j, k = j + 1 := ⟨k - 1, by omega⟩
      obtain ⟨done, hd, ho⟩ := HD.out
      have HO2 := Lib.hid ho
      have HD2 := Lib.hid hd
      clear ho hd HO HD
      have hsz := hg.grown.size
      go_wp2_with (at_builtin; refine wp_app _ rfl _ _ _ rfl elemU8 base A' _ c' _ rfl (HO2.out.alloc _) _ 1 1 [_] rfl rfl (Cells.one _ _ _) (by simp [Value.oneCell']) (by omega) (by unfold maxLen; omega) (by first | (simp; done) | (simp; omega)) ?_; intro A2 c2 w2 hO2 hg2; have HO3 := Lib.hid hO2; clear hO2)
      have e1 : m + (wide - (j + 1)) + 1 = m + (wide - j) := by omega
      go_roundw
      case rel =>
        refine ⟨j, A2, c2, by omega, rfl, by rw [e1], Lib.hid ⟨done ++ [byteOf (n / 2 ^ (8 * j))], ?_, ?_⟩, (hg.alloc _).trans hg2⟩
        · rw [← HD2.out]; simp [beBytes]
        · have h := HO3.out
          rw [e1] at h
          rw [List.map_append, ← List.append_assoc]
          have e2 : [u8v (byteOf (n / 2 ^ (8 * j)))] = [Value.int .u8 (n / 2 ^ (8 * j) % 256)] := by
            unfold u8v
            rw [byteOf_toNat]
          rw [List.map_cons, List.map_nil, e2]
          exact h
      case measure => simp [intOf] <;> omega
    · obtain rfl : k = 0 := by omega
      have HF : Hid (∃ A2 c2, Value.slice A' (m + (wide - 0)) c' = .slice A2 (m + wide) c2 ∧ Own wr base 5 1 A2 (m + wide) c2 (xs ++ (beBytes n wide).map u8v) ∧ Grew w wr A A2) := Lib.hid (by
        obtain ⟨done, hd, ho⟩ := HD.out
        rw [← hd, beBytes, List.append_nil]
        rw [Nat.sub_zero] at ho ⊢
        exact ⟨A', c', rfl, ho, hg⟩)
      clear HD HO
      go_wp2
      go_ret
      obtain ⟨A2, c2, h1, h2, h3⟩ := HF.out
      exact ⟨A2, c2, congrArg Ending.returned h1, h2, h3⟩

end Go.Proofs.Ytcpbgiikfabaaaa
