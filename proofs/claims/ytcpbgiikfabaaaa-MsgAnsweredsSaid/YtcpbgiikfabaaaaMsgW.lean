/- Package msg: Asked. No condition. -/
import Derived.Test.YtcpbgiikfabaaaaMsgV
namespace Go.Proofs.Ytcpbgiikfabaaaa
open Go.RowKit

theorem mg.asked_yes {x : Except Int Request} {r : Request} {w w5 w6 : World} {A : Option Addr} {c : Nat} (h : x = .ok r) (hd : SlRep Rep.u8 w5 (fun k => w.heap.size + 1 ≤ k ∧ k < w5.heap.size ∧ k ≠ w.heap.size + 1) r.data A c)
    (hk : ∀ k, w.heap.size < k → w6.heap[k]? = w5.heap[k]?) (hs : w5.heap.size ≤ w6.heap.size) (hb : Below w.heap.size w w6) : AskedRes x w (.returned (.tuple #[.agg (mg.vals r A c).toArray, .int .i64 0])) w6 := by
  subst h
  exact ⟨A, c, rfl, hd.keep fun k hk2 => ⟨⟨by omega, by omega⟩, hk k (by omega)⟩, hb⟩

set_option maxRecDepth 100000 in
set_option maxHeartbeats 8000000 in
theorem msg_Asked_res (b : List UInt8) (Ab : Option Addr) (cb : Nat) (w : World) (hl : SlRep Rep.u8 w (· < w.heap.size) b Ab cb) (hn : b.length ≤ 140737488351232) :
    Calls Try.prog 10 #[.slice Ab b.length cb] w (AskedRes (mg.asked b) w) := by
  have HL := Lib.hid hl
  clear hl
  cases ht : mg.takeR [.kind, .mark] b mg.zeroR with
  | none =>
    have HE : Hid (mg.asked b = .error 5) := Lib.hid (by unfold mg.asked; rw [ht])
    have HT := Lib.hid ht
    clear ht
    go_enter Try.func10, Try.ntmps10
    go_wp2_with fail
    have hst := mg.start w
    unfold mg.W0 at hst
    generalize (w.alloc (.cells #[.int .i64 0, .int .i64 0, .string { data := #[] }, .string { data := #[] }, .int .i64 0, .int .i64 0, .int .i64 0, .int .i64 0, .slice none 0 0] 24)).alloc (.cells #[.int .i64 0, .int .i64 0, .string { data := #[] }, .string { data := #[] }, .int .i64 0, .int .i64 0, .int .i64 0, .int .i64 0, .slice none 0 0] 24) = W0 at *
    have HST := Lib.hid hst
    have hz := hst.size
    clear hst
    refine (msg_begun (w.heap.size + 1) _).mono ?_
    rintro e w1 ⟨A1, c1, rfl, ho1, hb1⟩
    have HR1 := Lib.hid (HST.out.rq.next hb1)
    have HS1 := Lib.hid (HST.out.res.next hb1)
    have HB1 := Lib.hid (bnext HST.out.hb hb1)
    have HO1 := Lib.hid ho1
    have hz1 := hb1.size
    clear ho1 hb1
    go_wp2_with fail
    refine (msg_take (w.heap.size + 1) (w.heap.size + 1) mg.zeroR none 0 [.kind, .mark] A1 c1 _ b Ab cb (· < w.heap.size) w1 HR1.out HO1.out (fun k hk => by have := (HO1.out.lt k hk).1; omega) (HL.out.keep fun k hk => ⟨hk, HB1.out.block k hk⟩) (fun k hk => ⟨by omega, by omega⟩) (Nat.le_refl _) hn (by decide)).mono ?_
    rw [HT.out]
    rintro e w2 ⟨rfl, hg2⟩
    have HS2 : Hid (mg.At w2 w.heap.size mg.zeroR none 0) := Lib.hid (HS1.out.grown hg2 (by omega))
    have HB2 : Hid (Below w.heap.size w w2) := Lib.hid (HB1.out.grown hg2 HB1.out.size (fun k hk => by cases hk; omega))
    clear hg2
    have z0 : w2.cell? ⟨w.heap.size, 0, none⟩ = some (.int .i64 0) := HS2.out.cell 0
    have z1 : w2.cell? ⟨w.heap.size, 1, none⟩ = some (.int .i64 0) := HS2.out.cell 1
    have z2 : w2.cell? ⟨w.heap.size, 2, none⟩ = some (.string { data := #[] }) := HS2.out.cell 2
    have z3 : w2.cell? ⟨w.heap.size, 3, none⟩ = some (.string { data := #[] }) := HS2.out.cell 3
    have z4 : w2.cell? ⟨w.heap.size, 4, none⟩ = some (.int .i64 0) := HS2.out.cell 4
    have z5 : w2.cell? ⟨w.heap.size, 5, none⟩ = some (.int .i64 0) := HS2.out.cell 5
    have z6 : w2.cell? ⟨w.heap.size, 6, none⟩ = some (.int .i64 0) := HS2.out.cell 6
    have z7 : w2.cell? ⟨w.heap.size, 7, none⟩ = some (.int .i64 0) := HS2.out.cell 7
    have z8 : w2.cell? ⟨w.heap.size, 8, none⟩ = some (.slice none 0 0) := HS2.out.cell 8
    have zf := HS2.out.free
    go_wp2_with fail
    exact bodyPost_ret (v := .tuple #[.agg #[.int .i64 0, .int .i64 0, .string { data := #[] }, .string { data := #[] }, .int .i64 0, .int .i64 0, .int .i64 0, .int .i64 0, .slice none 0 0], .int .i64 5]) (by first | (simp [results, Try.results10, go_sem]; done) | (simp [results, Try.results10, go_sem, *]; done)) rfl (AskedRes.no HE.out (by repeat (first | (with_reducible exact HB2.out) | (with_reducible refine bset ?_ (Nat.le_refl _) _) | (with_reducible refine balloc ?_ _))))
  | some x =>
    obtain ⟨b1, r1⟩ := x
    have HE1 : Hid (mg.asked b = mg.asked2 b1 r1) := Lib.hid (by unfold mg.asked; rw [ht])
    have HT := Lib.hid ht
    clear ht
    by_cases hp : mg.parts r1.kind = []
    · have HE : Hid (mg.asked b = .error 3) := Lib.hid (by rw [HE1.out]; unfold mg.asked2; rw [if_pos hp])
      have HP := Lib.hid hp
      clear hp
      go_enter Try.func10, Try.ntmps10
      go_wp2_with fail
      have hst := mg.start w
      unfold mg.W0 at hst
      generalize (w.alloc (.cells #[.int .i64 0, .int .i64 0, .string { data := #[] }, .string { data := #[] }, .int .i64 0, .int .i64 0, .int .i64 0, .int .i64 0, .slice none 0 0] 24)).alloc (.cells #[.int .i64 0, .int .i64 0, .string { data := #[] }, .string { data := #[] }, .int .i64 0, .int .i64 0, .int .i64 0, .int .i64 0, .slice none 0 0] 24) = W0 at *
      have HST := Lib.hid hst
      have hz := hst.size
      clear hst
      refine (msg_begun (w.heap.size + 1) _).mono ?_
      rintro e w1 ⟨A1, c1, rfl, ho1, hb1⟩
      have HR1 := Lib.hid (HST.out.rq.next hb1)
      have HS1 := Lib.hid (HST.out.res.next hb1)
      have HB1 := Lib.hid (bnext HST.out.hb hb1)
      have HO1 := Lib.hid ho1
      have hz1 := hb1.size
      clear ho1 hb1
      go_wp2_with fail
      refine (msg_take (w.heap.size + 1) (w.heap.size + 1) mg.zeroR none 0 [.kind, .mark] A1 c1 _ b Ab cb (· < w.heap.size) w1 HR1.out HO1.out (fun k hk => by have := (HO1.out.lt k hk).1; omega) (HL.out.keep fun k hk => ⟨hk, HB1.out.block k hk⟩) (fun k hk => ⟨by omega, by omega⟩) (Nat.le_refl _) hn (by decide)).mono ?_
      rw [HT.out]
      rintro e w2 ⟨Ab2, cb2, A2, c2, rfl, hs2, hr2, hg2⟩
      have HS2 : Hid (mg.At w2 w.heap.size mg.zeroR none 0) := Lib.hid (HS1.out.grown hg2 (by omega))
      have HB2 : Hid (Below w.heap.size w w2) := Lib.hid (HB1.out.grown hg2 HB1.out.size (fun k hk => by cases hk; omega))
      have HR2 := Lib.hid hr2
      have HX2 := Lib.hid hs2
      have hz2 := hg2.size
      clear hg2 hs2 hr2 HR1 HS1 HO1
      go_wp2_with fail
      refine (msg_parts_nil (w.heap.size + 1) r1.kind w2 HR2.out.at_.lt (HR2.out.at_.cell 0) HP.out).mono ?_
      rintro e w3 ⟨rfl, hb3⟩
      have hq := Lib.run_eql_slice_nil (P := Try.prog) w3 42 50 none 0 0 0 0 Try.underlying42
      simp only [Option.isNone] at hq
      have HS3 := Lib.hid (HS2.out.next hb3)
      have HB3 := Lib.hid (bnext HB2.out hb3)
      clear hb3
      have z0 : w3.cell? ⟨w.heap.size, 0, none⟩ = some (.int .i64 0) := HS3.out.cell 0
      have z1 : w3.cell? ⟨w.heap.size, 1, none⟩ = some (.int .i64 0) := HS3.out.cell 1
      have z2 : w3.cell? ⟨w.heap.size, 2, none⟩ = some (.string { data := #[] }) := HS3.out.cell 2
      have z3 : w3.cell? ⟨w.heap.size, 3, none⟩ = some (.string { data := #[] }) := HS3.out.cell 3
      have z4 : w3.cell? ⟨w.heap.size, 4, none⟩ = some (.int .i64 0) := HS3.out.cell 4
      have z5 : w3.cell? ⟨w.heap.size, 5, none⟩ = some (.int .i64 0) := HS3.out.cell 5
      have z6 : w3.cell? ⟨w.heap.size, 6, none⟩ = some (.int .i64 0) := HS3.out.cell 6
      have z7 : w3.cell? ⟨w.heap.size, 7, none⟩ = some (.int .i64 0) := HS3.out.cell 7
      have z8 : w3.cell? ⟨w.heap.size, 8, none⟩ = some (.slice none 0 0) := HS3.out.cell 8
      have zf := HS3.out.free
      go_wp2_with fail
      exact bodyPost_ret (v := .tuple #[.agg #[.int .i64 0, .int .i64 0, .string { data := #[] }, .string { data := #[] }, .int .i64 0, .int .i64 0, .int .i64 0, .int .i64 0, .slice none 0 0], .int .i64 3]) (by first | (simp [results, Try.results10, go_sem]; done) | (simp [results, Try.results10, go_sem, *]; done)) rfl (AskedRes.no HE.out (by repeat (first | (with_reducible exact HB3.out) | (with_reducible refine bset ?_ (Nat.le_refl _) _) | (with_reducible refine balloc ?_ _))))
    · have HP := Lib.hid hp
      clear hp
      cases ht2 : mg.takeR (mg.parts r1.kind) b1 r1 with
      | none =>
        have HE : Hid (mg.asked b = .error 5) := Lib.hid (by rw [HE1.out]; unfold mg.asked2; rw [if_neg HP.out, ht2])
        have HT2 := Lib.hid ht2
        clear ht2
        go_enter Try.func10, Try.ntmps10
        go_wp2_with fail
        have hst := mg.start w
        unfold mg.W0 at hst
        generalize (w.alloc (.cells #[.int .i64 0, .int .i64 0, .string { data := #[] }, .string { data := #[] }, .int .i64 0, .int .i64 0, .int .i64 0, .int .i64 0, .slice none 0 0] 24)).alloc (.cells #[.int .i64 0, .int .i64 0, .string { data := #[] }, .string { data := #[] }, .int .i64 0, .int .i64 0, .int .i64 0, .int .i64 0, .slice none 0 0] 24) = W0 at *
        have HST := Lib.hid hst
        have hz := hst.size
        clear hst
        refine (msg_begun (w.heap.size + 1) _).mono ?_
        rintro e w1 ⟨A1, c1, rfl, ho1, hb1⟩
        have HR1 := Lib.hid (HST.out.rq.next hb1)
        have HS1 := Lib.hid (HST.out.res.next hb1)
        have HB1 := Lib.hid (bnext HST.out.hb hb1)
        have HO1 := Lib.hid ho1
        have hz1 := hb1.size
        clear ho1 hb1
        go_wp2_with fail
        refine (msg_take (w.heap.size + 1) (w.heap.size + 1) mg.zeroR none 0 [.kind, .mark] A1 c1 _ b Ab cb (· < w.heap.size) w1 HR1.out HO1.out (fun k hk => by have := (HO1.out.lt k hk).1; omega) (HL.out.keep fun k hk => ⟨hk, HB1.out.block k hk⟩) (fun k hk => ⟨by omega, by omega⟩) (Nat.le_refl _) hn (by decide)).mono ?_
        rw [HT.out]
        rintro e w2 ⟨Ab2, cb2, A2, c2, rfl, hs2, hr2, hg2⟩
        have HS2 : Hid (mg.At w2 w.heap.size mg.zeroR none 0) := Lib.hid (HS1.out.grown hg2 (by omega))
        have HB2 : Hid (Below w.heap.size w w2) := Lib.hid (HB1.out.grown hg2 HB1.out.size (fun k hk => by cases hk; omega))
        have HR2 := Lib.hid hr2
        have HX2 := Lib.hid hs2
        have hz2 := hg2.size
        clear hg2 hs2 hr2 HR1 HS1 HO1
        go_wp2_with fail
        refine (msg_parts (w.heap.size + 1) r1.kind w2 HR2.out.at_.lt (HR2.out.at_.cell 0)).mono ?_
        rintro e w3 ⟨A3, c3, rfl, ho3, hb3⟩
        have HO3 := Lib.hid ho3
        have HR3 := Lib.hid (HR2.out.next hb3)
        have HS3 := Lib.hid (HS2.out.next hb3)
        have HX3 : Hid (SlRep Rep.u8 w3 (· < w.heap.size) b1 Ab2 cb2) := Lib.hid (HX2.out.keep fun k hk => ⟨hk, hb3.block k (by omega)⟩)
        have HB3 := Lib.hid (bnext HB2.out hb3)
        have hz3 := hb3.size
        have hA3 : ∃ a3, A3 = some a3 := by
          have h1 := ho3.cap
          rcases ho3.2 with ⟨h2, h3⟩ | ⟨g, cap, cur, h2, _⟩
          · simp only [Value.slice.injEq] at h2
            exact absurd (List.eq_nil_of_length_eq_zero h2.2.1) HP.out
          · simp only [Value.slice.injEq] at h2
            exact ⟨_, h2.1⟩
        obtain ⟨a3, rfl⟩ := hA3
        clear ho3 hb3 HR2 HS2 HX2
        have hq := Lib.run_eql_slice_nil (P := Try.prog) w3 42 50 (some a3) (mg.parts r1.kind).length c3 0 0 Try.underlying42
        simp only [Option.isNone] at hq
        go_wp2_with fail
        refine (msg_take (w.heap.size + 1) (w.heap.size + 1) r1 A2 c2 (mg.parts r1.kind) (some a3) c3 _ b1 Ab2 cb2 (· < w.heap.size) w3 HR3.out HO3.out (fun k hk => by have := (HO3.out.lt k hk).1; omega) HX3.out (fun k hk => ⟨by omega, by omega⟩) (Nat.le_refl _) (by have := mg.takeR_len HT.out; omega) (by have := mg.parts_len r1.kind; omega)).mono ?_
        rw [HT2.out]
        rintro e w4 ⟨rfl, hg4⟩
        have HS4 : Hid (mg.At w4 w.heap.size mg.zeroR none 0) := Lib.hid (HS3.out.grown hg4 (by omega))
        have HB4 : Hid (Below w.heap.size w w4) := Lib.hid (HB3.out.grown hg4 HB3.out.size (fun k hk => by cases hk; omega))
        clear hg4
        have z0 : w4.cell? ⟨w.heap.size, 0, none⟩ = some (.int .i64 0) := HS4.out.cell 0
        have z1 : w4.cell? ⟨w.heap.size, 1, none⟩ = some (.int .i64 0) := HS4.out.cell 1
        have z2 : w4.cell? ⟨w.heap.size, 2, none⟩ = some (.string { data := #[] }) := HS4.out.cell 2
        have z3 : w4.cell? ⟨w.heap.size, 3, none⟩ = some (.string { data := #[] }) := HS4.out.cell 3
        have z4 : w4.cell? ⟨w.heap.size, 4, none⟩ = some (.int .i64 0) := HS4.out.cell 4
        have z5 : w4.cell? ⟨w.heap.size, 5, none⟩ = some (.int .i64 0) := HS4.out.cell 5
        have z6 : w4.cell? ⟨w.heap.size, 6, none⟩ = some (.int .i64 0) := HS4.out.cell 6
        have z7 : w4.cell? ⟨w.heap.size, 7, none⟩ = some (.int .i64 0) := HS4.out.cell 7
        have z8 : w4.cell? ⟨w.heap.size, 8, none⟩ = some (.slice none 0 0) := HS4.out.cell 8
        have zf := HS4.out.free
        go_wp2_with fail
        exact bodyPost_ret (v := .tuple #[.agg #[.int .i64 0, .int .i64 0, .string { data := #[] }, .string { data := #[] }, .int .i64 0, .int .i64 0, .int .i64 0, .int .i64 0, .slice none 0 0], .int .i64 5]) (by first | (simp [results, Try.results10, go_sem]; done) | (simp [results, Try.results10, go_sem, *]; done)) rfl (AskedRes.no HE.out (by repeat (first | (with_reducible exact HB4.out) | (with_reducible refine bset ?_ (Nat.le_refl _) _) | (with_reducible refine balloc ?_ _))))
      | some x =>
        obtain ⟨b2, r2⟩ := x
        have HT2 := Lib.hid ht2
        have HK2 := Lib.hid (mg.takeR_ok (mg.takeR_ok (r := mg.zeroR) (by unfold mg.Ok IntOk mg.zeroR; simp) HT.out) ht2)
        have hbl : b2.length ≤ 140737488351232 := by have := mg.takeR_len HT.out; have := mg.takeR_len ht2; omega
        have HE2 : Hid (mg.asked b = if b2 = [] ∧ mg.allTo r2 0 (mg.parts r1.kind) = 0 then .ok r2 else .error 4) := Lib.hid (by rw [HE1.out]; unfold mg.asked2; rw [if_neg HP.out, ht2])
        clear ht2
        by_cases hb2 : b2 = []
        · subst hb2
          by_cases hf : mg.allTo r2 0 (mg.parts r1.kind) = 0
          · have HE : Hid (mg.asked b = .ok r2) := Lib.hid (by rw [HE2.out, if_pos ⟨rfl, hf⟩])
            have HF := Lib.hid hf
            clear hf
            go_enter Try.func10, Try.ntmps10
            go_wp2_with fail
            have hst := mg.start w
            unfold mg.W0 at hst
            generalize (w.alloc (.cells #[.int .i64 0, .int .i64 0, .string { data := #[] }, .string { data := #[] }, .int .i64 0, .int .i64 0, .int .i64 0, .int .i64 0, .slice none 0 0] 24)).alloc (.cells #[.int .i64 0, .int .i64 0, .string { data := #[] }, .string { data := #[] }, .int .i64 0, .int .i64 0, .int .i64 0, .int .i64 0, .slice none 0 0] 24) = W0 at *
            have HST := Lib.hid hst
            have hz := hst.size
            clear hst
            refine (msg_begun (w.heap.size + 1) _).mono ?_
            rintro e w1 ⟨A1, c1, rfl, ho1, hb1⟩
            have HR1 := Lib.hid (HST.out.rq.next hb1)
            have HS1 := Lib.hid (HST.out.res.next hb1)
            have HB1 := Lib.hid (bnext HST.out.hb hb1)
            have HO1 := Lib.hid ho1
            have hz1 := hb1.size
            clear ho1 hb1
            go_wp2_with fail
            refine (msg_take (w.heap.size + 1) (w.heap.size + 1) mg.zeroR none 0 [.kind, .mark] A1 c1 _ b Ab cb (· < w.heap.size) w1 HR1.out HO1.out (fun k hk => by have := (HO1.out.lt k hk).1; omega) (HL.out.keep fun k hk => ⟨hk, HB1.out.block k hk⟩) (fun k hk => ⟨by omega, by omega⟩) (Nat.le_refl _) hn (by decide)).mono ?_
            rw [HT.out]
            rintro e w2 ⟨Ab2, cb2, A2, c2, rfl, hs2, hr2, hg2⟩
            have HS2 : Hid (mg.At w2 w.heap.size mg.zeroR none 0) := Lib.hid (HS1.out.grown hg2 (by omega))
            have HB2 : Hid (Below w.heap.size w w2) := Lib.hid (HB1.out.grown hg2 HB1.out.size (fun k hk => by cases hk; omega))
            have HR2 := Lib.hid hr2
            have HX2 := Lib.hid hs2
            have hz2 := hg2.size
            clear hg2 hs2 hr2 HR1 HS1 HO1
            go_wp2_with fail
            refine (msg_parts (w.heap.size + 1) r1.kind w2 HR2.out.at_.lt (HR2.out.at_.cell 0)).mono ?_
            rintro e w3 ⟨A3, c3, rfl, ho3, hb3⟩
            have HO3 := Lib.hid ho3
            have HR3 := Lib.hid (HR2.out.next hb3)
            have HS3 := Lib.hid (HS2.out.next hb3)
            have HX3 : Hid (SlRep Rep.u8 w3 (· < w.heap.size) b1 Ab2 cb2) := Lib.hid (HX2.out.keep fun k hk => ⟨hk, hb3.block k (by omega)⟩)
            have HB3 := Lib.hid (bnext HB2.out hb3)
            have hz3 := hb3.size
            have hA3 : ∃ a3, A3 = some a3 := by
              have h1 := ho3.cap
              rcases ho3.2 with ⟨h2, h3⟩ | ⟨g, cap, cur, h2, _⟩
              · simp only [Value.slice.injEq] at h2
                exact absurd (List.eq_nil_of_length_eq_zero h2.2.1) HP.out
              · simp only [Value.slice.injEq] at h2
                exact ⟨_, h2.1⟩
            obtain ⟨a3, rfl⟩ := hA3
            clear ho3 hb3 HR2 HS2 HX2
            have hq := Lib.run_eql_slice_nil (P := Try.prog) w3 42 50 (some a3) (mg.parts r1.kind).length c3 0 0 Try.underlying42
            simp only [Option.isNone] at hq
            go_wp2_with fail
            refine (msg_take (w.heap.size + 1) (w.heap.size + 1) r1 A2 c2 (mg.parts r1.kind) (some a3) c3 _ b1 Ab2 cb2 (· < w.heap.size) w3 HR3.out HO3.out (fun k hk => by have := (HO3.out.lt k hk).1; omega) HX3.out (fun k hk => ⟨by omega, by omega⟩) (Nat.le_refl _) (by have := mg.takeR_len HT.out; omega) (by have := mg.parts_len r1.kind; omega)).mono ?_
            rw [HT2.out]
            rintro e w4 ⟨Ab4, cb4, A4, c4, rfl, hs4, hr4, hg4⟩
            have HS4 : Hid (mg.At w4 w.heap.size mg.zeroR none 0) := Lib.hid (HS3.out.grown hg4 (by omega))
            have HB4 : Hid (Below w.heap.size w w4) := Lib.hid (HB3.out.grown hg4 HB3.out.size (fun k hk => by cases hk; omega))
            have HO4 := Lib.hid (HO3.out.kept hg4 (.inr (fun e => by have := (HO3.out.lt _ e).1; omega)))
            have HR4 := Lib.hid hr4
            have hz4 := hg4.size
            clear hg4 hs4 hr4 HR3 HS3 HO3 HX3
            go_wp2_with fail
            refine (msg_all (w.heap.size + 1) r2 A4 c4 (mg.parts r1.kind) (some a3) c3 _ w4 HK2.out HR4.out.at_ HO4.out (by have := mg.parts_len r1.kind; omega)).mono ?_
            rw [HF.out]
            rintro e w5 ⟨rfl, hb5⟩
            have HS5 := Lib.hid (HS4.out.next hb5)
            have HR5 := Lib.hid (HR4.out.next hb5)
            have HB5 := Lib.hid (bnext HB4.out hb5)
            clear hb5
            have z0 : w5.cell? ⟨w.heap.size, 0, none⟩ = some (.int .i64 0) := HS5.out.cell 0
            have z1 : w5.cell? ⟨w.heap.size, 1, none⟩ = some (.int .i64 0) := HS5.out.cell 1
            have z2 : w5.cell? ⟨w.heap.size, 2, none⟩ = some (.string { data := #[] }) := HS5.out.cell 2
            have z3 : w5.cell? ⟨w.heap.size, 3, none⟩ = some (.string { data := #[] }) := HS5.out.cell 3
            have z4 : w5.cell? ⟨w.heap.size, 4, none⟩ = some (.int .i64 0) := HS5.out.cell 4
            have z5 : w5.cell? ⟨w.heap.size, 5, none⟩ = some (.int .i64 0) := HS5.out.cell 5
            have z6 : w5.cell? ⟨w.heap.size, 6, none⟩ = some (.int .i64 0) := HS5.out.cell 6
            have z7 : w5.cell? ⟨w.heap.size, 7, none⟩ = some (.int .i64 0) := HS5.out.cell 7
            have z8 : w5.cell? ⟨w.heap.size, 8, none⟩ = some (.slice none 0 0) := HS5.out.cell 8
            have zf := HS5.out.free
            have y0 := HR5.out.at_.cell 0
            have y1 := HR5.out.at_.cell 1
            have y2 := HR5.out.at_.cell 2
            have y3 := HR5.out.at_.cell 3
            have y4 := HR5.out.at_.cell 4
            have y5 := HR5.out.at_.cell 5
            have y6 := HR5.out.at_.cell 6
            have y7 := HR5.out.at_.cell 7
            have y8 := HR5.out.at_.cell 8
            simp only [mg.vals, List.getElem?_cons_zero, List.getElem?_cons_succ] at y0 y1 y2 y3 y4 y5 y6 y7 y8
            go_wp2_with fail
            refine bodyPost_ret (v := .tuple #[.agg (mg.vals r2 A4 c4).toArray, .int .i64 0]) (by simp only [mg.vals]; first | (simp [results, Try.results10, go_sem]; done) | (simp [results, Try.results10, go_sem, *]; done)) rfl ?_
            have hd := HR5.out.data
            have hB6 : Below w.heap.size w (((((((((w5.setCell ⟨w.heap.size, 0, none⟩ (.int .i64 r2.kind)).setCell ⟨w.heap.size, 1, none⟩ (.int .i64 r2.mark)).setCell ⟨w.heap.size, 2, none⟩ (.string r2.path)).setCell ⟨w.heap.size, 3, none⟩ (.string r2.to)).setCell ⟨w.heap.size, 4, none⟩ (.int .i64 r2.how)).setCell ⟨w.heap.size, 5, none⟩ (.int .i64 r2.handle)).setCell ⟨w.heap.size, 6, none⟩ (.int .i64 r2.at_)).setCell ⟨w.heap.size, 7, none⟩ (.int .i64 r2.count)).setCell ⟨w.heap.size, 8, none⟩ (.slice A4 r2.data.length c4)) := by
              repeat (first | (with_reducible exact HB5.out) | (with_reducible refine bset ?_ (Nat.le_refl _) _))
            exact mg.asked_yes HE.out hd (fun k hk => by (repeat rw [mg.heap_set (by omega)])) (by simp only [World.size_setCell]; exact Nat.le_refl _) hB6
          · have HE : Hid (mg.asked b = .error 4) := Lib.hid (by rw [HE2.out, if_neg (fun h => hf h.2)])
            generalize hfv : mg.allTo r2 0 (mg.parts r1.kind) = f at *
            have HF := Lib.hid hfv
            have q1 : (f != 0) = true := bne_iff_ne.2 hf
            clear hf hfv
            go_enter Try.func10, Try.ntmps10
            go_wp2_with fail
            have hst := mg.start w
            unfold mg.W0 at hst
            generalize (w.alloc (.cells #[.int .i64 0, .int .i64 0, .string { data := #[] }, .string { data := #[] }, .int .i64 0, .int .i64 0, .int .i64 0, .int .i64 0, .slice none 0 0] 24)).alloc (.cells #[.int .i64 0, .int .i64 0, .string { data := #[] }, .string { data := #[] }, .int .i64 0, .int .i64 0, .int .i64 0, .int .i64 0, .slice none 0 0] 24) = W0 at *
            have HST := Lib.hid hst
            have hz := hst.size
            clear hst
            refine (msg_begun (w.heap.size + 1) _).mono ?_
            rintro e w1 ⟨A1, c1, rfl, ho1, hb1⟩
            have HR1 := Lib.hid (HST.out.rq.next hb1)
            have HS1 := Lib.hid (HST.out.res.next hb1)
            have HB1 := Lib.hid (bnext HST.out.hb hb1)
            have HO1 := Lib.hid ho1
            have hz1 := hb1.size
            clear ho1 hb1
            go_wp2_with fail
            refine (msg_take (w.heap.size + 1) (w.heap.size + 1) mg.zeroR none 0 [.kind, .mark] A1 c1 _ b Ab cb (· < w.heap.size) w1 HR1.out HO1.out (fun k hk => by have := (HO1.out.lt k hk).1; omega) (HL.out.keep fun k hk => ⟨hk, HB1.out.block k hk⟩) (fun k hk => ⟨by omega, by omega⟩) (Nat.le_refl _) hn (by decide)).mono ?_
            rw [HT.out]
            rintro e w2 ⟨Ab2, cb2, A2, c2, rfl, hs2, hr2, hg2⟩
            have HS2 : Hid (mg.At w2 w.heap.size mg.zeroR none 0) := Lib.hid (HS1.out.grown hg2 (by omega))
            have HB2 : Hid (Below w.heap.size w w2) := Lib.hid (HB1.out.grown hg2 HB1.out.size (fun k hk => by cases hk; omega))
            have HR2 := Lib.hid hr2
            have HX2 := Lib.hid hs2
            have hz2 := hg2.size
            clear hg2 hs2 hr2 HR1 HS1 HO1
            go_wp2_with fail
            refine (msg_parts (w.heap.size + 1) r1.kind w2 HR2.out.at_.lt (HR2.out.at_.cell 0)).mono ?_
            rintro e w3 ⟨A3, c3, rfl, ho3, hb3⟩
            have HO3 := Lib.hid ho3
            have HR3 := Lib.hid (HR2.out.next hb3)
            have HS3 := Lib.hid (HS2.out.next hb3)
            have HX3 : Hid (SlRep Rep.u8 w3 (· < w.heap.size) b1 Ab2 cb2) := Lib.hid (HX2.out.keep fun k hk => ⟨hk, hb3.block k (by omega)⟩)
            have HB3 := Lib.hid (bnext HB2.out hb3)
            have hz3 := hb3.size
            have hA3 : ∃ a3, A3 = some a3 := by
              have h1 := ho3.cap
              rcases ho3.2 with ⟨h2, h3⟩ | ⟨g, cap, cur, h2, _⟩
              · simp only [Value.slice.injEq] at h2
                exact absurd (List.eq_nil_of_length_eq_zero h2.2.1) HP.out
              · simp only [Value.slice.injEq] at h2
                exact ⟨_, h2.1⟩
            obtain ⟨a3, rfl⟩ := hA3
            clear ho3 hb3 HR2 HS2 HX2
            have hq := Lib.run_eql_slice_nil (P := Try.prog) w3 42 50 (some a3) (mg.parts r1.kind).length c3 0 0 Try.underlying42
            simp only [Option.isNone] at hq
            go_wp2_with fail
            refine (msg_take (w.heap.size + 1) (w.heap.size + 1) r1 A2 c2 (mg.parts r1.kind) (some a3) c3 _ b1 Ab2 cb2 (· < w.heap.size) w3 HR3.out HO3.out (fun k hk => by have := (HO3.out.lt k hk).1; omega) HX3.out (fun k hk => ⟨by omega, by omega⟩) (Nat.le_refl _) (by have := mg.takeR_len HT.out; omega) (by have := mg.parts_len r1.kind; omega)).mono ?_
            rw [HT2.out]
            rintro e w4 ⟨Ab4, cb4, A4, c4, rfl, hs4, hr4, hg4⟩
            have HS4 : Hid (mg.At w4 w.heap.size mg.zeroR none 0) := Lib.hid (HS3.out.grown hg4 (by omega))
            have HB4 : Hid (Below w.heap.size w w4) := Lib.hid (HB3.out.grown hg4 HB3.out.size (fun k hk => by cases hk; omega))
            have HO4 := Lib.hid (HO3.out.kept hg4 (.inr (fun e => by have := (HO3.out.lt _ e).1; omega)))
            have HR4 := Lib.hid hr4
            have hz4 := hg4.size
            clear hg4 hs4 hr4 HR3 HS3 HO3 HX3
            go_wp2_with fail
            refine (msg_all (w.heap.size + 1) r2 A4 c4 (mg.parts r1.kind) (some a3) c3 _ w4 HK2.out HR4.out.at_ HO4.out (by have := mg.parts_len r1.kind; omega)).mono ?_
            rw [HF.out]
            rintro e w5 ⟨rfl, hb5⟩
            have HS5 := Lib.hid (HS4.out.next hb5)
            have HB5 := Lib.hid (bnext HB4.out hb5)
            clear hb5
            have z0 : w5.cell? ⟨w.heap.size, 0, none⟩ = some (.int .i64 0) := HS5.out.cell 0
            have z1 : w5.cell? ⟨w.heap.size, 1, none⟩ = some (.int .i64 0) := HS5.out.cell 1
            have z2 : w5.cell? ⟨w.heap.size, 2, none⟩ = some (.string { data := #[] }) := HS5.out.cell 2
            have z3 : w5.cell? ⟨w.heap.size, 3, none⟩ = some (.string { data := #[] }) := HS5.out.cell 3
            have z4 : w5.cell? ⟨w.heap.size, 4, none⟩ = some (.int .i64 0) := HS5.out.cell 4
            have z5 : w5.cell? ⟨w.heap.size, 5, none⟩ = some (.int .i64 0) := HS5.out.cell 5
            have z6 : w5.cell? ⟨w.heap.size, 6, none⟩ = some (.int .i64 0) := HS5.out.cell 6
            have z7 : w5.cell? ⟨w.heap.size, 7, none⟩ = some (.int .i64 0) := HS5.out.cell 7
            have z8 : w5.cell? ⟨w.heap.size, 8, none⟩ = some (.slice none 0 0) := HS5.out.cell 8
            have zf := HS5.out.free
            go_wp2_with fail
            exact bodyPost_ret (v := .tuple #[.agg #[.int .i64 0, .int .i64 0, .string { data := #[] }, .string { data := #[] }, .int .i64 0, .int .i64 0, .int .i64 0, .int .i64 0, .slice none 0 0], .int .i64 4]) (by first | (simp [results, Try.results10, go_sem]; done) | (simp [results, Try.results10, go_sem, *]; done)) rfl (AskedRes.no HE.out (by repeat (first | (with_reducible exact HB5.out) | (with_reducible refine bset ?_ (Nat.le_refl _) _) | (with_reducible refine balloc ?_ _))))
        · have HE : Hid (mg.asked b = .error 4) := Lib.hid (by rw [HE2.out, if_neg (fun h => hb2 h.1)])
          have hbp := List.length_pos_iff.2 hb2
          clear hb2
          go_enter Try.func10, Try.ntmps10
          go_wp2_with fail
          have hst := mg.start w
          unfold mg.W0 at hst
          generalize (w.alloc (.cells #[.int .i64 0, .int .i64 0, .string { data := #[] }, .string { data := #[] }, .int .i64 0, .int .i64 0, .int .i64 0, .int .i64 0, .slice none 0 0] 24)).alloc (.cells #[.int .i64 0, .int .i64 0, .string { data := #[] }, .string { data := #[] }, .int .i64 0, .int .i64 0, .int .i64 0, .int .i64 0, .slice none 0 0] 24) = W0 at *
          have HST := Lib.hid hst
          have hz := hst.size
          clear hst
          refine (msg_begun (w.heap.size + 1) _).mono ?_
          rintro e w1 ⟨A1, c1, rfl, ho1, hb1⟩
          have HR1 := Lib.hid (HST.out.rq.next hb1)
          have HS1 := Lib.hid (HST.out.res.next hb1)
          have HB1 := Lib.hid (bnext HST.out.hb hb1)
          have HO1 := Lib.hid ho1
          have hz1 := hb1.size
          clear ho1 hb1
          go_wp2_with fail
          refine (msg_take (w.heap.size + 1) (w.heap.size + 1) mg.zeroR none 0 [.kind, .mark] A1 c1 _ b Ab cb (· < w.heap.size) w1 HR1.out HO1.out (fun k hk => by have := (HO1.out.lt k hk).1; omega) (HL.out.keep fun k hk => ⟨hk, HB1.out.block k hk⟩) (fun k hk => ⟨by omega, by omega⟩) (Nat.le_refl _) hn (by decide)).mono ?_
          rw [HT.out]
          rintro e w2 ⟨Ab2, cb2, A2, c2, rfl, hs2, hr2, hg2⟩
          have HS2 : Hid (mg.At w2 w.heap.size mg.zeroR none 0) := Lib.hid (HS1.out.grown hg2 (by omega))
          have HB2 : Hid (Below w.heap.size w w2) := Lib.hid (HB1.out.grown hg2 HB1.out.size (fun k hk => by cases hk; omega))
          have HR2 := Lib.hid hr2
          have HX2 := Lib.hid hs2
          have hz2 := hg2.size
          clear hg2 hs2 hr2 HR1 HS1 HO1
          go_wp2_with fail
          refine (msg_parts (w.heap.size + 1) r1.kind w2 HR2.out.at_.lt (HR2.out.at_.cell 0)).mono ?_
          rintro e w3 ⟨A3, c3, rfl, ho3, hb3⟩
          have HO3 := Lib.hid ho3
          have HR3 := Lib.hid (HR2.out.next hb3)
          have HS3 := Lib.hid (HS2.out.next hb3)
          have HX3 : Hid (SlRep Rep.u8 w3 (· < w.heap.size) b1 Ab2 cb2) := Lib.hid (HX2.out.keep fun k hk => ⟨hk, hb3.block k (by omega)⟩)
          have HB3 := Lib.hid (bnext HB2.out hb3)
          have hz3 := hb3.size
          have hA3 : ∃ a3, A3 = some a3 := by
            have h1 := ho3.cap
            rcases ho3.2 with ⟨h2, h3⟩ | ⟨g, cap, cur, h2, _⟩
            · simp only [Value.slice.injEq] at h2
              exact absurd (List.eq_nil_of_length_eq_zero h2.2.1) HP.out
            · simp only [Value.slice.injEq] at h2
              exact ⟨_, h2.1⟩
          obtain ⟨a3, rfl⟩ := hA3
          clear ho3 hb3 HR2 HS2 HX2
          have hq := Lib.run_eql_slice_nil (P := Try.prog) w3 42 50 (some a3) (mg.parts r1.kind).length c3 0 0 Try.underlying42
          simp only [Option.isNone] at hq
          go_wp2_with fail
          refine (msg_take (w.heap.size + 1) (w.heap.size + 1) r1 A2 c2 (mg.parts r1.kind) (some a3) c3 _ b1 Ab2 cb2 (· < w.heap.size) w3 HR3.out HO3.out (fun k hk => by have := (HO3.out.lt k hk).1; omega) HX3.out (fun k hk => ⟨by omega, by omega⟩) (Nat.le_refl _) (by have := mg.takeR_len HT.out; omega) (by have := mg.parts_len r1.kind; omega)).mono ?_
          rw [HT2.out]
          rintro e w4 ⟨Ab4, cb4, A4, c4, rfl, hs4, hr4, hg4⟩
          have HS4 : Hid (mg.At w4 w.heap.size mg.zeroR none 0) := Lib.hid (HS3.out.grown hg4 (by omega))
          have HB4 : Hid (Below w.heap.size w w4) := Lib.hid (HB3.out.grown hg4 HB3.out.size (fun k hk => by cases hk; omega))
          have HO4 := Lib.hid (HO3.out.kept hg4 (.inr (fun e => by have := (HO3.out.lt _ e).1; omega)))
          have HR4 := Lib.hid hr4
          have hz4 := hg4.size
          clear hg4 hs4 hr4 HR3 HS3 HO3 HX3
          have z0 : w4.cell? ⟨w.heap.size, 0, none⟩ = some (.int .i64 0) := HS4.out.cell 0
          have z1 : w4.cell? ⟨w.heap.size, 1, none⟩ = some (.int .i64 0) := HS4.out.cell 1
          have z2 : w4.cell? ⟨w.heap.size, 2, none⟩ = some (.string { data := #[] }) := HS4.out.cell 2
          have z3 : w4.cell? ⟨w.heap.size, 3, none⟩ = some (.string { data := #[] }) := HS4.out.cell 3
          have z4 : w4.cell? ⟨w.heap.size, 4, none⟩ = some (.int .i64 0) := HS4.out.cell 4
          have z5 : w4.cell? ⟨w.heap.size, 5, none⟩ = some (.int .i64 0) := HS4.out.cell 5
          have z6 : w4.cell? ⟨w.heap.size, 6, none⟩ = some (.int .i64 0) := HS4.out.cell 6
          have z7 : w4.cell? ⟨w.heap.size, 7, none⟩ = some (.int .i64 0) := HS4.out.cell 7
          have z8 : w4.cell? ⟨w.heap.size, 8, none⟩ = some (.slice none 0 0) := HS4.out.cell 8
          have zf := HS4.out.free
          go_wp2_with fail
          exact bodyPost_ret (v := .tuple #[.agg #[.int .i64 0, .int .i64 0, .string { data := #[] }, .string { data := #[] }, .int .i64 0, .int .i64 0, .int .i64 0, .int .i64 0, .slice none 0 0], .int .i64 4]) (by first | (simp [results, Try.results10, go_sem]; done) | (simp [results, Try.results10, go_sem, *]; done)) rfl (AskedRes.no HE.out (by repeat (first | (with_reducible exact HB4.out) | (with_reducible refine bset ?_ (Nat.le_refl _) _) | (with_reducible refine balloc ?_ _))))
end Go.Proofs.Ytcpbgiikfabaaaa
