/- Package hole: Sacks: the code. No condition. -/
import Derived.Test.YtdldfllllgogoaaSacksI
namespace Go.Proofs.Ytdldfllllgogoaa
open Go.RowKit Go.Shelf
attribute [local go_sem] Oper.semAt_some

theorem info_rng : (Try.prog.info? 78).map (fun i => (i.zero, i.size, i.bytes)) = some (some (.agg #[.int .i64 0, .int .i64 0]), 2, 16) := by kernel_rfl

def hits (last : Int) (pre : List (Int × Rng)) : List Rng := (pre.map Prod.snd).filter (hitB last)
def miss (last : Int) (pre : List (Int × Rng)) : List Rng := (pre.map Prod.snd).filter (fun r => ! hitB last r)
theorem hits_yes {last : Int} {pre : List (Int × Rng)} {x : Int × Rng} (h : hitB last x.2 = true) : hits last (pre ++ [x]) = hits last pre ++ [x.2] ∧ miss last (pre ++ [x]) = miss last pre := by
  constructor <;> simp [hits, miss, h]
theorem hits_no {last : Int} {pre : List (Int × Rng)} {x : Int × Rng} (h : hitB last x.2 = false) : hits last (pre ++ [x]) = hits last pre ∧ miss last (pre ++ [x]) = miss last pre ++ [x.2] := by
  constructor <;> simp [hits, miss, h]
theorem hits_le (last : Int) (pre : List (Int × Rng)) : (hits last pre).length ≤ pre.length ∧ (miss last pre).length ≤ pre.length := by
  constructor <;> exact Nat.le_trans (List.length_filter_le _ _) (by simp)
theorem back_snd (l : List Rng) : ∀ k, k ≤ l.length → (backTo l k).map Prod.snd = l.reverse.take k := by
  intro k
  induction k with
  | zero => intro _; rfl
  | succ k ih =>
    intro hk
    rw [backTo, List.map_append, ih (by omega), rev_take_succ l (l.length - 1 - k) k (by omega)]
    rfl
theorem filter_once (last : Int) : ∀ l : List Rng, (∀ i j, i < l.length → j < l.length → hitB last (l.getD i Rng.z) = true → hitB last (l.getD j Rng.z) = true → i = j) → (l.filter (hitB last)).length ≤ 1
  | [], _ => by simp
  | a :: t, h => by
    cases ha : hitB last a with
    | false =>
      rw [List.filter_cons_of_neg (by simp [ha])]
      exact filter_once last t fun i j hi hj h1 h2 => by
        have := h (i + 1) (j + 1) (by simpa using hi) (by simpa using hj) (by simpa using h1) (by simpa using h2)
        omega
    | true =>
      rw [List.filter_cons_of_pos ha]
      have : t.filter (hitB last) = [] := by
        rw [List.filter_eq_nil_iff]
        intro b hb hh
        obtain ⟨k, hk, rfl⟩ := mem_at hb
        have := h 0 (k + 1) (by simp) (by simpa using hk) (by simpa using ha) (by simpa using hh)
        omega
      rw [this]
      simp
theorem hit_once {done last : Int} {l : List Rng} (h : HoleMay done l) : l.reverse.filter (hitB last) = l.filter (hitB last) := by
  have h1 := filter_once last l fun i j hi hj => one_hit h hi hj
  rw [List.filter_reverse]
  cases hf : l.filter (hitB last) with
  | nil => rfl
  | cons x r =>
    rw [hf] at h1
    cases r with
    | nil => rfl
    | cons y r => simp at h1

set_option maxRecDepth 100000 in
set_option maxHeartbeats 4000000 in
theorem hole_Sacks_in (done : Int) (l : List Rng) (last n : Int) (A : Option Addr) (c : Nat) (w : World) (hl : SlRep Rng.rep w (· < w.heap.size) l A c) (h : holeMayB done l = true) (hn : 0 ≤ n ∧ n ≤ 16) :
    CallsIn Fence.wide 9 Try.prog 41 #[.int .i64 done, .slice A l.length c, .int .i64 last, .int .i64 n] w (RngsRes (.ok (sacks last n l)) w) := by
  have hm : HoleMay done l := by simpa [holeMayB] using h
  have hn16 := hm.2.2.1
  have HMAY := Lib.hid hm
  have HL := Lib.hid hl
  clear hl hm
  obtain ⟨i0, hi, hz0, hz1, hz2⟩ := info_parts info_rng
  refine callsIn_of_wp_marks Try.func41 rfl trivial ?_ rfl
  simp only [Try.ntmps41, List.size_toArray, List.length_cons, List.length_nil, Nat.reduceAdd, Nat.reduceSub, Array.replicate_succ, Array.replicate_zero, List.push_toArray, List.append_toArray, List.nil_append, List.cons_append]
  gi_wp2_with (first
    | (refine ⟨trivial, ?_⟩; gi_at_call 73; refine (callsIn_wide.2 (hole_May_yes done l A c _ (HL.out.next (balloc (bself w) _)) (by omega) h)).mono ?_; rintro e w1 ⟨rfl, hb1⟩; have hL1 : Boxed w1 w.heap.size 3 (.int .i64 last) := (hb1.block w.heap.size (by simp)).trans (Boxed.new w 3 (.int .i64 last)); have B1 : Below w.heap.size w w1 := (by repeat (first | (with_reducible exact Below.refl _ _) | (with_reducible assumption) | (with_reducible refine bset ?_ ?_ _) | (with_reducible refine balloc ?_ _) | (with_reducible refine Below.drew ?_) | (with_reducible refine bdrewN ?_ _) | (with_reducible refine bnext ?_ (by with_reducible assumption)) | exact Nat.le_refl _ | (simp; done) | omega | (simp; omega))); have ha1 : ∀ b o, b < w.heap.size → w1.cell? ⟨b, o, none⟩ = w.cell? ⟨b, o, none⟩ := fun b o h => B1.cell (p := ⟨b, o, none⟩) h; have hk1 : ∀ k, k < w.heap.size → k < w1.heap.size := fun _ h => Nat.lt_of_lt_of_le h B1.size; have hz1 := hb1.size; (try simp at hz1); have hl1_w0 : w.heap.size < w1.heap.size := Nat.lt_of_lt_of_le (by first | (simp; done) | (simp; omega) | omega) hb1.size; have hc1_w0 := fun o => hb1.cell (p := ⟨w.heap.size, o, none⟩) (by first | (simp; done) | (simp; omega) | omega); have hf1_w0 := fun o => hb1.frozen (p := ⟨w.heap.size, o, none⟩) (by first | (simp; done) | (simp; omega) | omega); (try simp [go_sem, *] at hc1_w0); (try simp [go_sem, *] at hf1_w0); clear hb1)
    | (refine ⟨trivial, ?_⟩; gi_at_call 74; refine (back_in Fence.wide _ trivial rfl _ _ _ _).mono ?_; rintro e w' ⟨rfl, rfl⟩)
    | fail)
  have hw1 : w.heap.size < w1.heap.size := hl1_w0
  obtain ⟨B, hB⟩ : ∃ B, B = w1.heap.size := ⟨_, rfl⟩
  have bA := ((Boxed.new w1 39 (.slice none 0 0)).alloc (.cells #[.slice none 0 0] 39)).alloc (.cells #[.slice A l.length c] 39)
  have bR := (Boxed.new (w1.alloc (.cells #[.slice none 0 0] 39)) 39 (.slice none 0 0)).alloc (.cells #[.slice A l.length c] 39)
  have bS := Boxed.new ((w1.alloc (.cells #[.slice none 0 0] 39)).alloc (.cells #[.slice none 0 0] 39)) 39 (.slice A l.length c)
  have bL := ((hL1.alloc (.cells #[.slice none 0 0] 39)).alloc (.cells #[.slice none 0 0] 39)).alloc (.cells #[.slice A l.length c] 39)
  simp only [World.size_alloc] at bA bR bS bL
  have hBW : Below w.heap.size w (((w1.alloc (.cells #[.slice none 0 0] 39)).alloc (.cells #[.slice none 0 0] 39)).alloc (.cells #[.slice A l.length c] 39)) := balloc (balloc (balloc B1 _) _) _
  have hsz : (((w1.alloc (.cells #[.slice none 0 0] 39)).alloc (.cells #[.slice none 0 0] 39)).alloc (.cells #[.slice A l.length c] 39)).heap.size = B + 3 := by rw [hB]; simp
  obtain ⟨W0, hW0⟩ : ∃ W0, ((w1.alloc (.cells #[.slice none 0 0] 39)).alloc (.cells #[.slice none 0 0] 39)).alloc (.cells #[.slice A l.length c] 39) = W0 := ⟨_, rfl⟩
  rw [hW0] at bA bR bS bL hBW hsz ⊢
  clear hW0 hL1
  rw [← hB] at bA bR bS ⊢
  have hwB : w.heap.size < B := by omega
  clear ha1 hk1 hz1 hl1_w0 hc1_w0 hf1_w0 hB
  refine wpIn_rangeFunc_ownH rfl (by omega) (gf := 97) (lb := #[.pointer (some ⟨B + 1 + 1, 0, none⟩)]) rfl trivial (enters_of Try.func97 (by kernel_rfl) rfl)
    (back_stops Fence.wide _ trivial rfl (by omega) (B + 1 + 1) w.heap.size l A c (by omega) W0 (by omega) (by omega) bS.cell (HL.out.below hBW)) BackKp.trans (fun W lp o o' => back_keeps (by omega) W lp o o') (Below.refl _ _) (fun _ => rfl)
    (fun pre W => ∃ A1 c1 A2 c2, SackC w (B + 3) B (B + 1) (B + 1 + 1) w.heap.size last A l.length c (hits last pre) (miss last pre) A1 c1 A2 c2 W)
    (fun _ _ _ => False)
    (fun pre W W' row hs hg hr => by obtain ⟨A1, c1, A2, c2, hS⟩ := hs; exact ⟨A1, c1, A2, c2, hS.kept hg (fun r e => ⟨by have := (hr r e).1; omega, (hr r e).2⟩)⟩)
    (fun _ _ _ _ _ hs _ _ => hs)
    ⟨none, 0, none, 0, bA, bR, bS, bL, Own.nil _ _ _ _, Own.nil _ _ _ _, Two.none_left _, hBW, ⟨by omega, by omega⟩, ⟨by omega, by omega⟩, ⟨by omega, by omega⟩, by omega, by omega, by omega, by omega, by omega, by omega, by omega⟩
    (fun x a' W => ∃ Bx, B + 3 ≤ Bx ∧ W.heap[Bx]? = some (.cells #[.int .i64 x.2.lo, .int .i64 x.2.hi] 78) ∧ a' = { tmps := #[.int .i64 done, .slice A l.length c, .int .i64 last, .int .i64 n, undef, undef, .pointer (some ⟨w.heap.size, 0, none⟩), undef, .slice none 0 0, .int .i64 0, .pointer (some ⟨B, 0, none⟩), .pointer (some ⟨B + 1, 0, none⟩), undef, .pointer (some ⟨Bx, 0, none⟩), .int .i64 done, .slice A l.length c, .bool true, .bool false, .int .i64 n, .bool (decide (n < 0)), .bool (decide (n < 0)), .int .i64 n, .bool (decide (16 < n)), .bool (decide (n < 0) || decide (16 < n)), .slice A l.length c, .func (.func 97) #[] #[.pointer (some ⟨B + 1 + 1, 0, none⟩)], .int .i64 x.1, .agg #[.int .i64 x.2.lo, .int .i64 x.2.hi], undef, undef, undef, undef, undef, undef, undef, undef, undef, undef, undef, undef, undef, undef, undef, undef, undef, undef, undef, undef, undef, undef, undef, undef, undef, undef, undef], defers := [] })
    (fun x a' _ X Y row hs hg hr => by
      obtain ⟨Bx, h1, h2, h3⟩ := hs
      refine ⟨Bx, h1, (hg.block Bx (Array.getElem?_eq_some_iff.1 h2).1 (fun e => ?_)).trans h2, h3⟩
      obtain ⟨_, o, ho, hc⟩ := hr Bx e.symm
      rw [h2] at ho
      cases ho
      cases hc)
    ?assign ?body ?done ?stop
  case assign =>
    rintro lp pre x W K ⟨A1, c1, A2, c2, hS⟩ hK
    gi_wp2
    exact hK _ _ ((KeepsOthers.alloc _ _).from _) ⟨(Below.refl _ W).alloc hS.low.size _, fun v hv => ((balloc (bself W) _).cell (p := ⟨B + 1 + 1, 0, none⟩) hS.bs.lt).trans hv⟩ ⟨A1, c1, A2, c2, hS.alloc _⟩ ⟨W.heap.size, hS.h0.2, World.alloc_heap_new _ _, rfl⟩
  case body =>
    rintro lp pre ⟨xi, ⟨x, y⟩⟩ a' W _ ⟨r, hr⟩ ⟨A1, c1, A2, c2, hS⟩ ⟨Bx, hBx, hX, rfl⟩ hlt
    dsimp only at hX ⊢
    have x0 : W.cell? ⟨Bx, 0, none⟩ = some (.int .i64 x) := by simp [World.cell?, hX]
    have x1 : W.cell? ⟨Bx, 1, none⟩ = some (.int .i64 y) := by simp [World.cell?, hX]
    have y0 := hS.bl.cell
    have y1 : W.cell? ⟨B, 0, none⟩ = some (.slice A1 (hits last pre).length c1) := hS.ba.cell
    have y2 : W.cell? ⟨B + 1, 0, none⟩ = some (.slice A2 (miss last pre).length c2) := hS.bb.cell
    have z1 : W.frozen? ⟨B, 0, none⟩ = false := hS.ba.frozen
    have z2 : W.frozen? ⟨B + 1, 0, none⟩ = false := hS.bb.frozen
    have hlh := hits_le last pre
    have HS := Lib.hid hS
    have hsW := hS.h0.2
    clear hS hX
    by_cases h1 : x ≤ last
    · by_cases h2 : last < y
      · have hh : hitB last ⟨x, y⟩ = true := by simp [hitB, h1, h2]
        gi_wp2_with (gi_at_builtin; refine wpIn_app _ rfl _ _ _ rfl elemRng (B + 3) A1 _ c1 _ rfl (HS.out.alloc _).o1 (some ⟨W.heap.size, 0, none⟩) 1 1 [.int .i64 x, .int .i64 y] rfl rfl (Cells.newAt _ _ _ rfl) (by simp [Value.oneCell']) (by omega) (by unfold maxLen; omega) (by simp; omega) ?_; intro A3 c3 w3 hO hg; obtain ⟨hS2, hKF, hLow, hb3⟩ := HS.out.step (x := ⟨x, y⟩) hg hO; have hc3 := hb3.cell; have hf3 := hb3.frozen)
        exact ⟨hKF _, ⟨hLow _ (by omega), fun v hv => by rw [HS.out.bs.cell] at hv; cases hv; exact hS2.bs.cell⟩, ⟨A3, c3, A2, c2, by rw [(hits_yes (x := (xi, ⟨x, y⟩)) hh).1, (hits_yes (x := (xi, ⟨x, y⟩)) hh).2]; exact hS2⟩⟩
      · have hh : hitB last ⟨x, y⟩ = false := by simp [hitB, h2]
        gi_wp2_with (gi_at_builtin; refine wpIn_app _ rfl _ _ _ rfl elemRng (B + 3) A2 _ c2 _ rfl (HS.out.alloc _).o2 (some ⟨W.heap.size, 0, none⟩) 1 1 [.int .i64 x, .int .i64 y] rfl rfl (Cells.newAt _ _ _ rfl) (by simp [Value.oneCell']) (by omega) (by unfold maxLen; omega) (by simp; omega) ?_; intro A3 c3 w3 hO hg; obtain ⟨hS2, hKF, hLow, hb3⟩ := HS.out.swap.step (x := ⟨x, y⟩) hg hO; have hc3 := hb3.cell; have hf3 := hb3.frozen)
        exact ⟨hKF _, ⟨hLow _ (by omega), fun v hv => by rw [HS.out.bs.cell] at hv; cases hv; exact hS2.bs.cell⟩, ⟨A1, c1, A3, c3, by rw [(hits_no (x := (xi, ⟨x, y⟩)) hh).1, (hits_no (x := (xi, ⟨x, y⟩)) hh).2]; exact hS2.swap⟩⟩
    · have hh : hitB last ⟨x, y⟩ = false := by simp [hitB, h1]
      gi_wp2_with (gi_at_builtin; refine wpIn_app _ rfl _ _ _ rfl elemRng (B + 3) A2 _ c2 _ rfl (HS.out.alloc _).o2 (some ⟨W.heap.size, 0, none⟩) 1 1 [.int .i64 x, .int .i64 y] rfl rfl (Cells.newAt _ _ _ rfl) (by simp [Value.oneCell']) (by omega) (by unfold maxLen; omega) (by simp; omega) ?_; intro A3 c3 w3 hO hg; obtain ⟨hS2, hKF, hLow, hb3⟩ := HS.out.swap.step (x := ⟨x, y⟩) hg hO; have hc3 := hb3.cell; have hf3 := hb3.frozen)
      exact ⟨hKF _, ⟨hLow _ (by omega), fun v hv => by rw [HS.out.bs.cell] at hv; cases hv; exact hS2.bs.cell⟩, ⟨A1, c1, A3, c3, by rw [(hits_no (x := (xi, ⟨x, y⟩)) hh).1, (hits_no (x := (xi, ⟨x, y⟩)) hh).2]; exact hS2.swap⟩⟩
  case done =>
    rintro D ys W hD rfl ⟨A1, c1, A2, c2, hS⟩ hK
    have e1 : hits last (backTo l l.length) = l.filter (hitB last) := by
      unfold hits
      rw [back_snd l _ (Nat.le_refl _), List.take_of_length_le (by simp), hit_once HMAY.out]
    have e2 : miss last (backTo l l.length) = l.reverse.filter (fun r => ! hitB last r) := by
      unfold miss
      rw [back_snd l _ (Nat.le_refl _), List.take_of_length_le (by simp)]
    have hlh := hits_le last (backTo l l.length)
    rw [backTo_length] at hlh
    have HALL : Hid (hits last (backTo l l.length) ++ miss last (backTo l l.length) = sackAll last l) := Lib.hid (by rw [e1, e2]; rfl)
    have HLEN := Lib.hid (sackAll_length last l)
    clear e1 e2
    generalize hits last (backTo l l.length) = l1 at *
    generalize miss last (backTo l l.length) = l2 at *
    have y1 : W.cell? ⟨B, 0, none⟩ = some (.slice A1 l1.length c1) := hS.ba.cell
    have y2 : W.cell? ⟨B + 1, 0, none⟩ = some (.slice A2 l2.length c2) := hS.bb.cell
    have z1 : W.frozen? ⟨B, 0, none⟩ = false := hS.ba.frozen
    have hsum : l1.length + l2.length = l.length := by rw [← List.length_append, HALL.out, HLEN.out]
    have HS := Lib.hid hS
    have hsW := hS.h0.2
    clear hS
    have HT : Hid ((sacks last n l).length = min n.toNat l.length) := Lib.hid (by unfold sacks; rw [List.length_take, HLEN.out])
    by_cases hgt : (l.length : Int) < n
    · have HCG := Lib.hid (fun (A3 : Option Addr) (c3 : Nat) (hc : l.length ≤ c3) => run_cut_h (P := Try.prog) elemRng A3 l.length c3 l.length hc (l.length : Int) rfl)
      gi_wp2_with (gi_at_builtin; refine wpIn_app _ rfl _ _ _ rfl elemRng (B + 3) A1 _ c1 _ rfl HS.out.o1 A2 l2.length c2 (l2.flatMap Rng.cells) rfl (by rw [flatMap_len Rng.cells 2 (fun _ => rfl)]) HS.out.o2.cells (Rng.one l2) (by omega) (by unfold maxLen; omega) (by omega) ?_; intro A3 c3 w3 hO hg; have hba := HS.out.ba.kept hg.grown (box_row HS.out.ba HS.out.o1); have hc3 := hba.cell; have hf3 := hba.frozen; have HO := Lib.hid hO; have hcut := HCG.out A3 c3 (Nat.le_trans (Nat.le_of_eq hsum.symm) hO.cap.1); clear hO)
      have hD3 : w3.heap[D]? = some (.deferred (some [])) := (hg.grown.block D (Array.getElem?_eq_some_iff.1 hK).1 (fun e => by
        rcases row_ne HS.out.o1 (row := some D) (fun r e' => by cases e'; exact ⟨_, hK, rfl⟩) with h1 | h1
        · rw [h1] at e; cases e
        · exact h1 e.symm)).trans hK
      have hK3 := fun v => (Below.heap_setCell w3 ⟨B, 0, none⟩ v D (by show D ≠ B; omega)).trans hD3
      refine ⟨by simp, .inl ⟨_, _, rfl, run_takeDeferred (hK3 _), ?_⟩⟩
      refine ⟨_, results_tmp2 rfl _ _ _, A3, c3, ?_, ?_, ?_⟩
      · show _ = Ending.returned (.tuple #[.slice A3 (sacks last n l).length c3, .int .i64 0])
        rw [HT.out, Nat.min_eq_right (by omega)]
        try rfl
      · have o1 := HO.out.setCell (p := ⟨B, 0, none⟩) (fun e => by have h1 : B + 3 ≤ B := (HO.out.lt _ e).1; omega) (.slice A3 (l1.length + l2.length) c3)
        have o2 : Own _ (B + 3) 78 2 A3 (l1.length + l2.length) c3 (l1.flatMap Rng.cells ++ l2.flatMap Rng.cells) := ownsRow_putObj o1 (.deferred none) (hK3 _) rfl
        rw [← List.flatMap_append, HALL.out] at o2
        have o3 := (o2.rng.2.take n.toNat).keep (S' := fun k => w.heap.size ≤ k ∧ k < ((w3.setCell ⟨B, 0, none⟩ (.slice A3 (l1.length + l2.length) c3)).putObj D (.deferred none)).heap.size) (w' := (w3.setCell ⟨B, 0, none⟩ (.slice A3 (l1.length + l2.length) c3)).putObj D (.deferred none)) (fun k hk => ⟨⟨by omega, hk.2⟩, rfl⟩)
        rw [hsum] at o3
        exact o3
      · have k1 : Below w.heap.size w (w3.setCell ⟨B, 0, none⟩ (.slice A3 l.length c3)) := (HS.out.low.trans (hg.below HS.out.low.size (fun k e => by have := (HS.out.o1.lt k e).1; omega))).setCell (p := ⟨B, 0, none⟩) (by show w.heap.size ≤ B; omega) _
        exact k1.trans (belowK_b (w := w) (Nat.le_refl _) _ D _ _ (by omega) (hK3 _) rfl rfl)
    · have HCG := Lib.hid (fun (A3 : Option Addr) (c3 : Nat) (hc : l.length ≤ c3) => run_cut_h (P := Try.prog) elemRng A3 l.length c3 n.toNat (by omega) n (by omega))
      gi_wp2_with (gi_at_builtin; refine wpIn_app _ rfl _ _ _ rfl elemRng (B + 3) A1 _ c1 _ rfl HS.out.o1 A2 l2.length c2 (l2.flatMap Rng.cells) rfl (by rw [flatMap_len Rng.cells 2 (fun _ => rfl)]) HS.out.o2.cells (Rng.one l2) (by omega) (by unfold maxLen; omega) (by omega) ?_; intro A3 c3 w3 hO hg; have hba := HS.out.ba.kept hg.grown (box_row HS.out.ba HS.out.o1); have hc3 := hba.cell; have hf3 := hba.frozen; have HO := Lib.hid hO; have hcut := HCG.out A3 c3 (Nat.le_trans (Nat.le_of_eq hsum.symm) hO.cap.1); clear hO)
      have hD3 : w3.heap[D]? = some (.deferred (some [])) := (hg.grown.block D (Array.getElem?_eq_some_iff.1 hK).1 (fun e => by
        rcases row_ne HS.out.o1 (row := some D) (fun r e' => by cases e'; exact ⟨_, hK, rfl⟩) with h1 | h1
        · rw [h1] at e; cases e
        · exact h1 e.symm)).trans hK
      have hK3 := fun v => (Below.heap_setCell w3 ⟨B, 0, none⟩ v D (by show D ≠ B; omega)).trans hD3
      refine ⟨by simp, .inl ⟨_, _, rfl, run_takeDeferred (hK3 _), ?_⟩⟩
      refine ⟨_, results_tmp2 rfl _ _ _, A3, c3, ?_, ?_, ?_⟩
      · show _ = Ending.returned (.tuple #[.slice A3 (sacks last n l).length c3, .int .i64 0])
        rw [HT.out, Nat.min_eq_left (by omega)]
        try rfl
      · have o1 := HO.out.setCell (p := ⟨B, 0, none⟩) (fun e => by have h1 : B + 3 ≤ B := (HO.out.lt _ e).1; omega) (.slice A3 (l1.length + l2.length) c3)
        have o2 : Own _ (B + 3) 78 2 A3 (l1.length + l2.length) c3 (l1.flatMap Rng.cells ++ l2.flatMap Rng.cells) := ownsRow_putObj o1 (.deferred none) (hK3 _) rfl
        rw [← List.flatMap_append, HALL.out] at o2
        have o3 := (o2.rng.2.take n.toNat).keep (S' := fun k => w.heap.size ≤ k ∧ k < ((w3.setCell ⟨B, 0, none⟩ (.slice A3 (l1.length + l2.length) c3)).putObj D (.deferred none)).heap.size) (w' := (w3.setCell ⟨B, 0, none⟩ (.slice A3 (l1.length + l2.length) c3)).putObj D (.deferred none)) (fun k hk => ⟨⟨by omega, hk.2⟩, rfl⟩)
        rw [hsum] at o3
        exact o3
      · have k1 : Below w.heap.size w (w3.setCell ⟨B, 0, none⟩ (.slice A3 l.length c3)) := (HS.out.low.trans (hg.below HS.out.low.size (fun k e => by have := (HS.out.o1.lt k e).1; omega))).setCell (p := ⟨B, 0, none⟩) (by show w.heap.size ≤ B; omega) _
        exact k1.trans (belowK_b (w := w) (Nat.le_refl _) _ D _ _ (by omega) (hK3 _) rfl rfl)
  case stop =>
    rintro D c pre W _ _ h _
    exact h.elim
end Go.Proofs.Ytdldfllllgogoaa
