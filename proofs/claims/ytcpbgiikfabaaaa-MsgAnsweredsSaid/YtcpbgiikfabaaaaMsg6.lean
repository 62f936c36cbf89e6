/- Package msg: bare: nothing is given beside what the kind has. No condition. -/
import Derived.Test.YtcpbgiikfabaaaaMsg5
import Derived.Deep.DeepCutAuto
namespace Go.Proofs.Ytcpbgiikfabaaaa
open Go.RowKit

/-- two pointers into one block -/
theorem mg.neq_at {P : Program} (w : World) (t : TypeId) (b i j : Nat) (h : P.underlying t = some (.pointer (P.pointee t))) (hs : (P.info? (P.pointee t)).map (·.size) = some 1) :
    (binOp .neq t (.pointer (some ⟨b, i, none⟩)) (.pointer (some ⟨b, j, none⟩))).run P w = .ok (.bool (!decide (i = j))) w := by
  obtain ⟨ti, h1, h2⟩ : ∃ ti, P.info? (P.pointee t) = some ti ∧ ti.size = 1 := by
    cases e : P.info? (P.pointee t) with
    | none => rw [e] at hs; cases hs
    | some ti => rw [e] at hs; exact ⟨ti, rfl, by simpa using hs⟩
  have e : ((⟨b, i, none⟩ : Addr) == ⟨b, j, none⟩) = decide (i = j) := by
    by_cases hij : i = j
    · subst hij; simp
    · rw [decide_eq_false hij, beq_eq_false_iff_ne]; intro e; exact hij (congrArg Addr.off e)
  have key : ∀ d : Nat, (Op.equalIn (d + 1) t (.pointer (some ⟨b, i, none⟩)) (.pointer (some ⟨b, j, none⟩))).run P w = .ok (decide (i = j)) w := fun d => by
    simp [Op.equalIn, run_underlying h, sizeOf, typeInfo, h1, h2, sameAddr, e]
  simp only [binOp]
  simp [Op.equal, Op.maxDepth, key 9999]
@[go_sem] theorem mg.neq_int (w : World) (b i j : Nat) : (binOp .neq 46 (.pointer (some ⟨b, i, none⟩)) (.pointer (some ⟨b, j, none⟩))).run Try.prog w = .ok (.bool (!decide (i = j))) w := mg.neq_at w 46 b i j (by kernel_rfl) (by kernel_rfl)
theorem mg.blank_all (rk : Request) : mg.rest.all (mg.blank rk) = (decide (rk.mark = 0) && (rk.path.data.toList.isEmpty && (rk.to.data.toList.isEmpty && (decide (rk.how = 0) && (decide (rk.handle = 0) && (decide (rk.at_ = 0) && (decide (rk.count = 0) && rk.data.isEmpty))))))) := by
  simp [mg.rest, mg.blank, mg.Sel.srt, mg.num, mg.txt]
  rfl
theorem mg.len_zero (l : List UInt8) : ((l.length : Int) == 0) = l.isEmpty := by cases l <;> simp <;> omega

set_option maxRecDepth 100000 in
set_option maxHeartbeats 8000000 in
theorem msg_bare (r : Request) (A : Option Addr) (c : Nat) (w : World) :
    Calls Try.prog 20 #[.agg (mg.vals r A c).toArray] w fun e w' => e = .returned (.bool (mg.bare r)) ∧ Below w.heap.size w w' := by
  have HN := Lib.hid (mg.At.new w r A c)
  go_enter Try.func20, Try.ntmps20
  go_wp2_with (first
    | (go_at_call 18; refine (msg_begun w.heap.size _).mono ?_; rintro e w1 ⟨A1, c1, rfl, ho1, hb1⟩; have HO1 := Lib.hid ho1; have HB1 := Lib.hid hb1; clear ho1 hb1)
    | (go_at_call 19; refine (msg_parts w.heap.size r.kind _ (HN.out.next HB1.out).lt ((HN.out.next HB1.out).cell 0)).mono ?_; rintro e w2 ⟨A2, c2, rfl, ho2, hb2⟩; have HO2 := Lib.hid ho2; have HB2 := Lib.hid hb2; clear ho2 hb2)
    | (at_builtin; refine wp_app _ rfl _ _ _ rfl elemPart (w.heap.size + 1) A1 2 c1 _ rfl ((by have := HO1.out.next HB2.out; simpa using this)) A2 (mg.parts r.kind).length c2 ((mg.parts r.kind).flatMap (mg.cells w.heap.size)) rfl (mg.row_len _ _) HO2.out.cells (mg.one _ _) (by have := mg.parts_len r.kind; omega) (by have := mg.parts_len r.kind; unfold maxLen; omega) (by have h1 := HB1.out.size; have h2 := HB2.out.size; simp at h1; omega) ?_; intro A3 c3 w3 ho3 hg3; have HO3 := Lib.hid ho3; have HG3 := Lib.hid hg3; clear ho3 hg3)
    | fail)
  have HW3 : Hid (Below (w.heap.size + 1) (w.alloc (.cells (mg.vals r A c).toArray 24)) w3) := Lib.hid (by
    have h1 := HB1.out
    have h2 := HB2.out
    rw [World.size_alloc] at h1
    have h3 := h1.trans (h2.mono (by have := h1.size; simpa using this))
    exact h3.trans (HG3.out.below (by have := h3.size; simpa using this) (fun k hk => (by simpa using (HO1.out.lt k hk).1))))
  have HA : Hid (mg.At w3 w.heap.size r A c) := Lib.hid (HN.out.next (by have := HW3.out; simpa using this))
  have HB : Hid (Below w.heap.size w w3) := Lib.hid ((balloc (bself w) _).trans (HW3.out.mono (by omega)))
  have HR : Hid (Own w3 (w.heap.size + 1) 50 4 A3 (mg.fields r).length c3 ((mg.fields r).flatMap (mg.cells w.heap.size))) := Lib.hid (by
    have := HO3.out
    have e : (mg.fields r).length = 2 + (mg.parts r.kind).length := by simp [mg.fields]; omega
    rw [e]
    have e2 : (mg.fields r).flatMap (mg.cells w.heap.size) = [mg.Sel.kind, mg.Sel.mark].flatMap (mg.cells w.heap.size) ++ (mg.parts r.kind).flatMap (mg.cells w.heap.size) := by simp [mg.fields]
    rw [e2]
    exact this)
  have hn : 2 + (mg.parts r.kind).length = (mg.fields r).length := by simp [mg.fields]; omega
  have hn' : (2 + ((mg.parts r.kind).length : Int)) = (((mg.fields r).length : Nat) : Int) := by rw [← hn]; simp
  rw [hn, hn']
  clear hn hn'
  have hfl := mg.fields_len r
  generalize hn : (mg.fields r).length = n at *
  have HNN := Lib.hid hn
  clear hn HO1 HB1 HO2 HB2 HO3 HG3 HW3 HN
  go_loopw [4, 9] (fun _ s9 wr => ∃ (k : Nat) (rk : Request) (Ak : Option Addr) (ck : Nat), s9 = .int .i64 k ∧ k ≤ n ∧ Hid (rk = ((mg.fields r).take k).foldl mg.clear r) ∧ Hid (mg.At wr w.heap.size rk Ak ck)
    ∧ Hid (Own wr (w.heap.size + 1) 50 4 A3 n c3 ((mg.fields r).flatMap (mg.cells w.heap.size))) ∧ Hid (Below w.heap.size w wr)) (fun _ s9 _ => n - (intOf s9).toNat)
  case atStart => exact ⟨0, r, A, c, rfl, by omega, Lib.hid rfl, HA, HR, HB⟩
  case round =>
    obtain ⟨k, rk, Ak, ck, rfl, hk, HRK, HAK, HOK, HW⟩ := hrel
    rename World => wr
    clear HA HR HB
    by_cases hlt : k < n
    · have hlt2 : k < (mg.fields r).length := by rw [HNN.out]; exact hlt
      obtain ⟨g, rfl, hg1, hg2, hgc⟩ := mg.row_at (by have := HOK.out; rw [← HNN.out] at this; exact this) hlt2
      have HS := Lib.hid (mg.fold_take hlt2 r)
      generalize hsl : (mg.fields r).getD k .kind = s at *
      clear hsl hlt2
      have x0 := hgc 0 (by omega)
      have x1 := hgc 1 (by omega)
      have x2 := hgc 2 (by omega)
      have x3 := hgc 3 (by omega)
      clear hgc
      have HFIN : Hid (∀ w', Below wr.heap.size wr w' → s = .kind → ∃ (k' : Nat) (rk : Request) (Ak : Option Addr) (ck : Nat), (Value.int .i64 ((k : Int) + 1)) = .int .i64 k' ∧ k' ≤ n ∧ Hid (rk = ((mg.fields r).take k').foldl mg.clear r) ∧ Hid (mg.At w' w.heap.size rk Ak ck)
          ∧ Hid (Own w' (w.heap.size + 1) 50 4 (some ⟨g, 0, none⟩) n c3 ((mg.fields r).flatMap (mg.cells w.heap.size))) ∧ Hid (Below w.heap.size w w')) := Lib.hid (fun w' hb hs =>
        ⟨k + 1, rk, Ak, ck, by simp, by omega, Lib.hid (by rw [HS.out, ← HRK.out, hs]; rfl), Lib.hid (HAK.out.next hb), Lib.hid (HOK.out.next hb), Lib.hid (bnext HW.out hb)⟩)
      have HSET : Hid (∀ (ob : Obj), s ≠ .kind → ∃ (k' : Nat) (rk : Request) (Ak : Option Addr) (ck : Nat), (Value.int .i64 ((k : Int) + 1)) = .int .i64 k' ∧ k' ≤ n ∧ Hid (rk = ((mg.fields r).take k').foldl mg.clear r) ∧ Hid (mg.At ((wr.setCell ⟨w.heap.size, s.off, none⟩ (mg.zero s)).alloc ob) w.heap.size rk Ak ck)
          ∧ Hid (Own ((wr.setCell ⟨w.heap.size, s.off, none⟩ (mg.zero s)).alloc ob) (w.heap.size + 1) 50 4 (some ⟨g, 0, none⟩) n c3 ((mg.fields r).flatMap (mg.cells w.heap.size))) ∧ Hid (Below w.heap.size w ((wr.setCell ⟨w.heap.size, s.off, none⟩ (mg.zero s)).alloc ob))) := Lib.hid (fun ob hs => by
        obtain ⟨A', c', h1⟩ := HAK.out.clear s hs
        refine ⟨k + 1, mg.clear rk s, A', c', by simp, by omega, Lib.hid (by rw [HS.out, ← HRK.out]), Lib.hid (h1.next (balloc (bself _) _)), Lib.hid ((HOK.out.setCell (fun e => ?_) _).next (balloc (bself _) _)), Lib.hid (balloc (bset HW.out (Nat.le_refl _) _) _)⟩
        simp only [blkOf, Option.map_some, Option.some.injEq] at e
        omega)
      have hBw : w.heap.size < wr.heap.size := HAK.out.lt
      have y := HAK.out.cell
      have z := HAK.out.free
      clear HRK HAK HOK HW HS HNN
      match s with
      | .kind =>
        simp only [mg.cells, List.getElem?_cons_zero, List.getElem?_cons_succ, Nat.add_zero] at x0 x1 x2 x3
        go_wp2
        go_roundw
        case rel => exact HFIN.out _ (balloc (bself wr) _) rfl
        case measure => simp [intOf]; omega
      | .mark =>
        have yo : wr.cell? ⟨w.heap.size, 1, none⟩ = some (.int .i64 rk.mark) := y 1
        simp only [mg.cells, List.getElem?_cons_zero, List.getElem?_cons_succ, Nat.add_zero] at x0 x1 x2 x3
        go_wp2
        go_roundw
        case rel => exact HSET.out _ (by decide)
        case measure => simp [intOf]; omega
      | .path =>
        have yo : wr.cell? ⟨w.heap.size, 2, none⟩ = some (.string rk.path) := y 2
        simp only [mg.cells, List.getElem?_cons_zero, List.getElem?_cons_succ, Nat.add_zero] at x0 x1 x2 x3
        go_wp2
        go_roundw
        case rel => exact HSET.out _ (by decide)
        case measure => simp [intOf]; omega
      | .to =>
        have yo : wr.cell? ⟨w.heap.size, 3, none⟩ = some (.string rk.to) := y 3
        simp only [mg.cells, List.getElem?_cons_zero, List.getElem?_cons_succ, Nat.add_zero] at x0 x1 x2 x3
        go_wp2
        go_roundw
        case rel => exact HSET.out _ (by decide)
        case measure => simp [intOf]; omega
      | .how =>
        have yo : wr.cell? ⟨w.heap.size, 4, none⟩ = some (.int .i64 rk.how) := y 4
        simp only [mg.cells, List.getElem?_cons_zero, List.getElem?_cons_succ, Nat.add_zero] at x0 x1 x2 x3
        go_wp2
        go_roundw
        case rel => exact HSET.out _ (by decide)
        case measure => simp [intOf]; omega
      | .handle =>
        have yo : wr.cell? ⟨w.heap.size, 5, none⟩ = some (.int .i64 rk.handle) := y 5
        simp only [mg.cells, List.getElem?_cons_zero, List.getElem?_cons_succ, Nat.add_zero] at x0 x1 x2 x3
        go_wp2
        go_roundw
        case rel => exact HSET.out _ (by decide)
        case measure => simp [intOf]; omega
      | .at_ =>
        have yo : wr.cell? ⟨w.heap.size, 6, none⟩ = some (.int .i64 rk.at_) := y 6
        simp only [mg.cells, List.getElem?_cons_zero, List.getElem?_cons_succ, Nat.add_zero] at x0 x1 x2 x3
        go_wp2
        go_roundw
        case rel => exact HSET.out _ (by decide)
        case measure => simp [intOf]; omega
      | .count =>
        have yo : wr.cell? ⟨w.heap.size, 7, none⟩ = some (.int .i64 rk.count) := y 7
        simp only [mg.cells, List.getElem?_cons_zero, List.getElem?_cons_succ, Nat.add_zero] at x0 x1 x2 x3
        go_wp2
        go_roundw
        case rel => exact HSET.out _ (by decide)
        case measure => simp [intOf]; omega
      | .data =>
        have yo : wr.cell? ⟨w.heap.size, 8, none⟩ = some (.slice Ak rk.data.length ck) := y 8
        simp only [mg.cells, List.getElem?_cons_zero, List.getElem?_cons_succ, Nat.add_zero] at x0 x1 x2 x3
        go_wp2
        go_roundw
        case rel => exact HSET.out _ (by decide)
        case measure => simp [intOf]; omega
    · obtain rfl : k = n := by omega
      have HRK2 : Hid (mg.bare r = mg.rest.all (mg.blank rk)) := Lib.hid (by rw [HRK.out, ← HNN.out, List.take_length]; rfl)
      have y0 := HAK.out.cell 0
      have y1 := HAK.out.cell 1
      have y2 := HAK.out.cell 2
      have y3 := HAK.out.cell 3
      have y4 := HAK.out.cell 4
      have y5 := HAK.out.cell 5
      have y6 := HAK.out.cell 6
      have y7 := HAK.out.cell 7
      have y8 := HAK.out.cell 8
      simp only [mg.vals, List.getElem?_cons_zero, List.getElem?_cons_succ] at y0 y1 y2 y3 y4 y5 y6 y7 y8
      clear HRK HNN HOK HAK
      go_wp2
      all_goals (go_ret; refine ⟨?_, HW.out⟩; rw [HRK2.out, mg.blank_all]; congr 2; clear HRK2 y0 y1 y2 y3 y4 y5 y6 y7 y8; simp_all only [ByteArray.toList_eq, mg.len_zero, decide_true, decide_false, Bool.true_and, Bool.false_and, List.isEmpty_nil]; try (simp_all; done))
end Go.Proofs.Ytcpbgiikfabaaaa
