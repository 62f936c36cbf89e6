/- Package path: walk: the code. No condition. -/
import Derived.Test.YtlcjdlnhniemcaaDoorWalkI
namespace Go.Proofs.YtlcjdlnhniemcaaDoor
open Go.RowKit Go.Shelf
attribute [local go_sem] Oper.semAt_some

theorem pa.results2 {fn : Func} {p q : Tmp} (h : fn.results = #[.cell p 29, .cell q 24]) {tmps : Array Value} {w : World} {a b : Addr} {v x : Value} (hp : tmps.getD p undef = .pointer (some a)) (hq : tmps.getD q undef = .pointer (some b))
    (hv : w.cell? a = some v) (hx : w.cell? b = some x) : (results fn tmps).run Tryd.prog w = .ok (.tuple #[v, x]) w := by
  have hp' : tmps[p]?.getD undef = .pointer (some a) := by simpa using hp
  have hq' : tmps[q]?.getD undef = .pointer (some b) := by simpa using hq
  simp [results, h, hp', hq', asAddr, go_sem, hv, hx]
theorem pa.new2 (w : World) (t u : TypeId) (v x : Value) : Boxed ((w.alloc (.cells #[v] t)).alloc (.cells #[x] u)) (w.heap.size + 1) u x := by
  have h := Boxed.new (w.alloc (.cells #[v] t)) u x
  rwa [World.size_alloc] at h
theorem StrsRes.no {r : Except Int (List (List UInt8))} {c : Int} (h : r = .error c) {w w' : World} (hb : Below w.heap.size w w') : StrsRes r w (.returned (.tuple #[.slice none 0 0, .int .i64 c])) w' := by
  subst h
  exact ⟨none, 0, rfl, Own.nil _ _ _ _, hb⟩

set_option maxRecDepth 100000 in
set_option maxHeartbeats 4000000 in
theorem path_walk_long (names : List ByteArray) (A : Option Addr) (c : Nat) (path : List UInt8) (w : World) (hp : path.length ≤ 140737488351232) (hlong : 200 < path.length) :
    CallsIn Fence.wide 9 Tryd.prog 26 #[.slice A names.length c, .string (strOf path)] w (StrsRes (pa.walk (pa.lists names) path) w) := by
  have d1 : decide ((path.length : Int) > 200) = true := by simp; omega
  have d1' : decide (200 < (path.length : Int)) = true := by simp; omega
  have HX : Hid (pa.walk (pa.lists names) path = .error 1) := Lib.hid (if_pos hlong)
  refine callsIn_of_wp_marks Tryd.func26 rfl trivial ?_ rfl
  simp only [Tryd.ntmps26, List.size_toArray, List.length_cons, List.length_nil, Nat.reduceAdd, Nat.reduceSub, Array.replicate_succ, Array.replicate_zero, List.push_toArray, List.append_toArray, List.nil_append, List.cons_append]
  gi_wp2
  exact ⟨_, pa.results2 rfl rfl rfl (by simp [go_sem]) (by simp [go_sem]), StrsRes.no HX.out (by repeat (first | (with_reducible exact Below.refl _ _) | (with_reducible assumption) | (with_reducible refine bset ?_ ?_ _) | (with_reducible refine balloc ?_ _) | (with_reducible refine Below.drew ?_) | (with_reducible refine bdrewN ?_ _) | (with_reducible refine bnext ?_ (by with_reducible assumption)) | exact Nat.le_refl _ | (simp; done) | omega | (simp; omega)))⟩

set_option maxRecDepth 100000 in
set_option maxHeartbeats 4000000 in
theorem path_walk_short (names : List ByteArray) (A : Option Addr) (c : Nat) (path : List UInt8) (w : World) (hl : SlRep Rep.str w (· < w.heap.size) names A c) (h12 : names.length ≤ 12) (hshort : ¬ 200 < path.length) :
    CallsIn Fence.wide 9 Tryd.prog 26 #[.slice A names.length c, .string (strOf path)] w (StrsRes (pa.walk (pa.lists names) path) w) := by
  have d1 : decide ((path.length : Int) > 200) = false := by simp; omega
  have d1' : decide (200 < (path.length : Int)) = false := by simp; omega
  have HX : Hid (pa.walk (pa.lists names) path = playTo pa.step (pa.lists names) (pa.split [] path)) := Lib.hid (if_neg hshort)
  have HC := Lib.hid (fun w1 (hb : Below w.heap.size w w1) => clone_strs (names.map Value.string) names.length A c w1 (fun w' hb' => pa.str_cells (hl.next (bnext hb hb'))) (by simp) (by rw [← pa.sv_lists]; exact pa.one _) (by omega)
    (fun e => by rcases hl.2.2 with h | ⟨b, o, h, _⟩
                 · rw [h]; rfl
                 · rw [h] at e; cases e))
  have hp2 : path.length ≤ 1000000 := by omega
  clear hl hshort
  obtain ⟨r, hr⟩ : ∃ r, pa.walk (pa.lists names) path = r := ⟨_, rfl⟩
  rw [hr] at HX ⊢
  clear hr
  refine callsIn_of_wp_marks Tryd.func26 rfl trivial ?_ rfl
  simp only [Tryd.ntmps26, List.size_toArray, List.length_cons, List.length_nil, Nat.reduceAdd, Nat.reduceSub, Array.replicate_succ, Array.replicate_zero, List.push_toArray, List.append_toArray, List.nil_append, List.cons_append]
  gi_wp2_with (first
    | (refine ⟨trivial, ?_⟩; gi_at_call 39; refine (callsIn_wide.2 (HC.out _ (by first | exact (by repeat (first | (with_reducible exact Below.refl _ _) | (with_reducible assumption) | (with_reducible refine bset ?_ ?_ _) | (with_reducible refine balloc ?_ _) | (with_reducible refine Below.drew ?_) | (with_reducible refine bdrewN ?_ _) | (with_reducible refine bnext ?_ (by with_reducible assumption)) | exact Nat.le_refl _ | (simp; done) | omega | (simp; omega)))))).mono ?_; rintro e w1 ⟨A1, c1, rfl, ho1, hb1⟩; have HO1 := Lib.hid ho1; clear ho1; have hb4 := (hb1.block w.heap.size (by simp; omega)).trans ((Boxed.new w 29 (.slice none 0 0)).alloc (.cells #[.int .i64 0] 24)); have hb5 := (hb1.block (w.heap.size + 1) (by simp)).trans (pa.new2 w 29 24 (.slice none 0 0) (.int .i64 0)); have B1 : Below w.heap.size w w1 := (by repeat (first | (with_reducible exact Below.refl _ _) | (with_reducible assumption) | (with_reducible refine bset ?_ ?_ _) | (with_reducible refine balloc ?_ _) | (with_reducible refine Below.drew ?_) | (with_reducible refine bdrewN ?_ _) | (with_reducible refine bnext ?_ (by with_reducible assumption)) | exact Nat.le_refl _ | (simp; done) | omega | (simp; omega))); have ha1 : ∀ b o, b < w.heap.size → w1.cell? ⟨b, o, none⟩ = w.cell? ⟨b, o, none⟩ := fun b o h => B1.cell (p := ⟨b, o, none⟩) h; have hk1 : ∀ k, k < w.heap.size → k < w1.heap.size := fun _ h => Nat.lt_of_lt_of_le h B1.size; have hz1 := hb1.size; (try simp at hz1); have hl1_w0 : w.heap.size < w1.heap.size := Nat.lt_of_lt_of_le (by first | (simp; done) | (simp; omega) | omega) hb1.size; have hc1_w0 := fun o => hb1.cell (p := ⟨w.heap.size, o, none⟩) (by first | (simp; done) | (simp; omega) | omega); have hf1_w0 := fun o => hb1.frozen (p := ⟨w.heap.size, o, none⟩) (by first | (simp; done) | (simp; omega) | omega); (try simp [go_sem, *] at hc1_w0); (try simp [go_sem, *] at hf1_w0); have hl1_w1 : w.heap.size + 1 < w1.heap.size := Nat.lt_of_lt_of_le (by first | (simp; done) | (simp; omega) | omega) hb1.size; have hc1_w1 := fun o => hb1.cell (p := ⟨w.heap.size + 1, o, none⟩) (by first | (simp; done) | (simp; omega) | omega); have hf1_w1 := fun o => hb1.frozen (p := ⟨w.heap.size + 1, o, none⟩) (by first | (simp; done) | (simp; omega) | omega); (try simp [go_sem, *] at hc1_w1); (try simp [go_sem, *] at hf1_w1); clear hb1)
    | (refine ⟨trivial, ?_⟩; gi_at_call 40; refine (SplitSeq_in _ (by omega) (strOf path) _).mono ?_; rintro e w' ⟨rfl, rfl⟩)
    | fail)
  have hz1 : w.heap.size + 1 + 1 ≤ w1.heap.size := by have := B1.size; have := hl1_w1; omega
  change Boxed w1 w.heap.size 29 (.slice none 0 0) at hb4
  change Boxed w1 (w.heap.size + 1) 24 (.int .i64 0) at hb5
  have hn6 : names.length = (pa.lists names).length := (pa.lists_len names).symm
  have ho : Own w1 (w.heap.size + 1 + 1) 9 1 A1 (pa.lists names).length c1 ((pa.lists names).map pa.sv) := by
    rw [← hn6, pa.sv_lists]
    have := HO1.out
    simpa using this
  obtain ⟨B, hB⟩ : ∃ B, B = w1.heap.size := ⟨_, rfl⟩
  rw [hn6]
  have hWC : WalkC w B (pa.lists names) A1 c1 ((((w1.alloc (.cells #[.slice A1 (pa.lists names).length c1] 29)).alloc (.cells #[.string (strOf path)] 9)).alloc (.cells #[.string ⟨#[47]⟩] 9)).alloc (.cells #[.int .i64 0] 3)) := by
    refine ⟨(((hb4.alloc _).alloc _).alloc _).alloc _, (((hb5.alloc _).alloc _).alloc _).alloc _, by rw [hB]; exact (((Boxed.new w1 _ _).alloc _).alloc _).alloc _, (((ho.alloc _).alloc _).alloc _).alloc _, fun k e => .inl (by rw [hB]; exact (ho.lt k e).2), balloc (balloc (balloc (balloc B1 _) _) _) _, by omega, by rw [hB]; simp⟩
  have bS := (Boxed.new (w1.alloc (.cells #[.slice A1 (pa.lists names).length c1] 29)) 9 (.string (strOf path))).alloc (.cells #[.string ⟨#[47]⟩] 9) |>.alloc (.cells #[.int .i64 0] 3)
  have bP := (Boxed.new ((w1.alloc (.cells #[.slice A1 (pa.lists names).length c1] 29)).alloc (.cells #[.string (strOf path)] 9)) 9 (.string ⟨#[47]⟩)).alloc (.cells #[.int .i64 0] 3)
  have bZ := Boxed.new (((w1.alloc (.cells #[.slice A1 (pa.lists names).length c1] 29)).alloc (.cells #[.string (strOf path)] 9)).alloc (.cells #[.string ⟨#[47]⟩] 9)) 3 (.int .i64 0)
  simp only [World.size_alloc] at bS bP bZ
  obtain ⟨W0, hW0⟩ : ∃ W0, (((w1.alloc (.cells #[.slice A1 (pa.lists names).length c1] 29)).alloc (.cells #[.string (strOf path)] 9)).alloc (.cells #[.string ⟨#[47]⟩] 9)).alloc (.cells #[.int .i64 0] 3) = W0 := ⟨_, rfl⟩
  rw [hW0] at hWC bS bP bZ ⊢
  rw [← hB] at bS bP bZ ⊢
  have hW0s := hWC.hB.2
  have hw0 := hWC.hB.1
  clear hW0 hb4 hb5 ho hz1 hB HO1 HC
  refine wpIn_rangeFunc_box rfl (by omega) (gf := 58) (lb := #[.pointer (some ⟨B + 1 + 1, 0, none⟩), .pointer (some ⟨B + 1, 0, none⟩), .pointer (some ⟨B + 1 + 1 + 1, 0, none⟩)]) rfl trivial (enters_of Tryd.func58 (by kernel_rfl) rfl)
    (Bs := B + 1) (by omega) (split_seq _ (by omega) (B + 1 + 1) (B + 1) (B + 1 + 1 + 1) path hp2 W0 (by omega) (by omega) bP bS bZ) (fun h k => h.trans k) (fun W l o o' _ ho hc _ => SplitKp.put W l o o' ho hc) (fun _ => rfl)
    (fun pre W => ∃ o Ao co, playTo pa.step (pa.lists names) pre = .ok o ∧ o.length ≤ 12 ∧ WalkC w B o Ao co W)
    (fun pre W => ∃ er, playTo pa.step (pa.lists names) pre = .error er ∧ Boxed W w.heap.size 29 (.slice none 0 0) ∧ Boxed W (w.heap.size + 1) 24 (.int .i64 er) ∧ Below w.heap.size w W ∧ B + 4 ≤ W.heap.size)
    ?own ?ownx (fun pre A v ⟨o, Ao, co, h1, h2, h3⟩ => ⟨o, Ao, co, h1, h2, h3.store v⟩) ⟨pa.lists names, A1, c1, rfl, by omega, hWC⟩
    (fun x => { tmps := #[.slice A (pa.lists names).length c, .string (strOf path), undef, undef, .pointer (some ⟨w.heap.size, 0, none⟩), .pointer (some ⟨w.heap.size + 1, 0, none⟩), .pointer (some ⟨B, 0, none⟩), .string (strOf x), .string (strOf path), .int .i64 path.length, .bool false, .slice A (pa.lists names).length c,
      .slice A1 (pa.lists names).length c1, .string (strOf path), .func (.func 58) #[] #[.pointer (some ⟨B + 1 + 1, 0, none⟩), .pointer (some ⟨B + 1, 0, none⟩), .pointer (some ⟨B + 1 + 1 + 1, 0, none⟩)], .string (strOf x),
      undef, undef, undef, undef, undef, undef, undef, undef, undef, undef, undef, undef, undef, undef, undef, undef, undef, undef, undef, undef, undef, undef, undef, undef, undef, undef, undef, undef, undef, undef], defers := [] })
    ?assign ?body ?done ?stop
  case own =>
    rintro pre W W' row ⟨o, Ao, co, h1, h2, h3⟩ hg hr
    exact ⟨o, Ao, co, h1, h2, h3.kept hg (fun r e => ⟨by have := (hr r e).1; omega, (hr r e).2⟩)⟩
  case ownx =>
    rintro pre W W' row ⟨er, h1, h2, h3, h4, h5⟩ hg hr
    have nb : ∀ {b : Nat} {t : TypeId} {v : Value}, Boxed W b t v → some b ≠ row := fun {b t v} hb e => by
      obtain ⟨_, x, hx, hc⟩ := hr b e.symm
      rw [show W.heap[b]? = _ from hb] at hx
      cases hx
      cases hc
    exact ⟨er, h1, h2.kept hg (nb h2), h3.kept hg (nb h3), h4.grown hg h4.size (fun k e => by have := (hr k e).1; omega), Nat.le_trans h5 hg.size⟩
  case assign =>
    intro l x W K hK
    gi_wp2
    exact hK
  case body =>
    rintro lp pre x W ⟨o, Ao, co, hpl, ho12, hC⟩ hlt
    have y6 : W.cell? ⟨B, 0, none⟩ = some (.slice Ao o.length co) := hC.b6.cell
    have z6 : W.frozen? ⟨B, 0, none⟩ = false := hC.b6.frozen
    have y4 := hC.b4.cell
    have z4 := hC.b4.frozen
    have y5 := hC.b5.cell
    have z5 := hC.b5.frozen
    have HC := Lib.hid hC
    have hBW := hC.hB
    clear hC
    have stay : ∀ (_ : pa.step o x = .ok o), KeepsFrom W0.heap.size W W ∧ SplitKp (B + 1) (B + 1 + 1) (B + 1 + 1 + 1) W W ∧ ∃ o' Ao co, playTo pa.step (pa.lists names) (pre ++ [x]) = .ok o' ∧ o'.length ≤ 12 ∧ WalkC w B o' Ao co W := fun h =>
      ⟨KeepsFrom.refl _ _, fun b _ t v hv => hv, o, Ao, co, pa.on_ok hpl h, ho12, HC.out⟩
    have STAY := Lib.hid stay
    clear stay
    by_cases h0 : x = []
    · have HS := Lib.hid (pa.step_dot (o := o) (.inl h0))
      subst h0
      gi_wp2
      exact STAY.out HS.out
    by_cases h1 : x = [46]
    · have HS := Lib.hid (pa.step_dot (o := o) (.inr h1))
      subst h1
      gi_wp2
      exact STAY.out HS.out
    by_cases h2 : x = [46, 46]
    · subst h2
      have HS := Lib.hid (pa.on_ok hpl (pa.step_up (o := o)))
      cases hol : o.length with
      | zero =>
        have hq : o.dropLast = o := by rw [List.eq_nil_of_length_eq_zero hol]; rfl
        have hcut := run_cut_h (P := Tryd.prog) elemStr Ao 0 co 0 (Nat.zero_le _) 0 rfl
        rw [hol] at y6
        gi_wp2
        exact ⟨(KeepsOthers.setCell _ _ _).from _, fun b hb t v hv => hv.other (by omega) _, o.dropLast, Ao, co, HS.out, by rw [List.length_dropLast]; omega, HC.out.cut (by rw [List.length_dropLast, hol]; rfl)⟩
      | succ n =>
        have hcap := HC.out.own.cap.1
        rw [hol] at y6 hcap
        have hcut := run_cut_h (P := Tryd.prog) elemStr Ao (n + 1) co n (by omega) (n : Int) rfl
        gi_wp2
        exact ⟨(KeepsOthers.setCell _ _ _).from _, fun b hb t v hv => hv.other (by omega) _, o.dropLast, Ao, co, HS.out, by rw [List.length_dropLast]; omega, HC.out.cut (by rw [List.length_dropLast, hol]; rfl)⟩
    have q0 : (x == []) = false := pa.str_no h0
    have q0' : x.isEmpty = false := by cases x with | nil => exact absurd rfl h0 | cons a t => rfl
    have q1 : (x == [46]) = false := pa.str_no h1
    have q2 : (x == [46, 46]) = false := pa.str_no h2
    cases hnm : pa.name x with
    | false =>
      have HS := Lib.hid (pa.on_no hpl (pa.step_form h0 h1 h2 hnm))
      clear h0 h1 h2
      gi_wp2_with (first
        | (refine ⟨trivial, ?_⟩; gi_at_call 41; refine (CallsIn.inRound lp (callsIn_wide.2 (path_Name x _))).mono ?_; rw [hnm]; rintro e w2 ⟨rfl, hb2⟩; have HC2 := Lib.hid (HC.out.next hb2); have t6 := HC2.out.b6.cell; have t6f := HC2.out.b6.frozen; have t4 := HC2.out.b4.cell; have t4f := HC2.out.b4.frozen; have t5 := HC2.out.b5.cell; have t5f := HC2.out.b5.frozen; have HKF := Lib.hid (pa.keeps_below hb2 W0.heap.size); have HKP := Lib.hid (pa.kp_below (a := B + 1) (b := B + 1 + 1) (c := B + 1 + 1 + 1) hb2); clear hb2)
        | fail)
      obtain ⟨k1, k2⟩ := HC2.out.fail 4
      exact ⟨HKF.out.trans (k1 _), 4, HS.out, k2⟩
    | true =>
      by_cases h12 : o.length = 12
      · have HS := Lib.hid (pa.on_no hpl (pa.step_full h0 h1 h2 hnm h12))
        have q12 : ((o.length : Int) == 12) = true := by rw [h12]; rfl
        clear h0 h1 h2
        gi_wp2_with (first
          | (refine ⟨trivial, ?_⟩; gi_at_call 41; refine (CallsIn.inRound lp (callsIn_wide.2 (path_Name x _))).mono ?_; rw [hnm]; rintro e w2 ⟨rfl, hb2⟩; have HC2 := Lib.hid (HC.out.next hb2); have t6 := HC2.out.b6.cell; have t6f := HC2.out.b6.frozen; have t4 := HC2.out.b4.cell; have t4f := HC2.out.b4.frozen; have t5 := HC2.out.b5.cell; have t5f := HC2.out.b5.frozen; have HKF := Lib.hid (pa.keeps_below hb2 W0.heap.size); have HKP := Lib.hid (pa.kp_below (a := B + 1) (b := B + 1 + 1) (c := B + 1 + 1 + 1) hb2); clear hb2)
          | fail)
        obtain ⟨k1, k2⟩ := HC2.out.fail 9
        exact ⟨HKF.out.trans (k1 _), 9, HS.out, k2⟩
      · have HS := Lib.hid (pa.on_ok hpl (pa.step_on h0 h1 h2 hnm h12))
        have q12 : ((o.length : Int) == 12) = false := beq_eq_false_iff_ne.2 (by omega)
        clear h0 h1 h2
        gi_wp2_with (first
          | (refine ⟨trivial, ?_⟩; gi_at_call 41; refine (CallsIn.inRound lp (callsIn_wide.2 (path_Name x _))).mono ?_; rw [hnm]; rintro e w2 ⟨rfl, hb2⟩; have HC2 := Lib.hid (HC.out.next hb2); have t6 := HC2.out.b6.cell; have t6f := HC2.out.b6.frozen; have t4 := HC2.out.b4.cell; have t4f := HC2.out.b4.frozen; have t5 := HC2.out.b5.cell; have t5f := HC2.out.b5.frozen; have HKF := Lib.hid (pa.keeps_below hb2 W0.heap.size); have HKP := Lib.hid (pa.kp_below (a := B + 1) (b := B + 1 + 1) (c := B + 1 + 1 + 1) hb2); clear hb2)
          | (gi_at_builtin; refine pa.wpIn_app _ rfl _ _ _ rfl elemStr (w.heap.size + 1 + 1) Ao o.length co _ rfl (HC2.out.own.alloc _) (some ⟨w2.heap.size, 0, none⟩) 1 1 [pa.sv x] rfl rfl (Cells.newAt _ _ _ rfl) (by simp [Value.oneCell', pa.sv]) (by omega) (by unfold maxLen; omega) (by have := HC2.out.hB; rw [World.size_alloc]; omega) ?_; intro A3 c3 w3 hO hg; obtain ⟨hS2, hKF, hKp, hb3⟩ := HC2.out.put (x := x) rfl hg hO; have hc3 := hb3.cell; have hf3 := hb3.frozen)
          | fail)
        exact ⟨HKF.out.trans (hKF _), HKP.out.trans hKp, o ++ [x], A3, c3, HS.out, by rw [List.length_append, List.length_singleton]; omega, hS2⟩
  case done =>
    rintro D ys W hD rfl ⟨o, Ao, co, hpl, ho12, hC⟩ hK
    have HR : Hid (r = .ok o) := Lib.hid (by rw [HX.out, hpl])
    have y6 : W.cell? ⟨B, 0, none⟩ = some (.slice Ao o.length co) := hC.b6.cell
    have HC := Lib.hid hC
    have hBW := hC.hB
    have hDW := (Array.getElem?_eq_some_iff.1 hK).1
    have HCL := Lib.hid (clone_strs (o.map pa.sv) o.length Ao co W (fun w' hb' => (hC.own.next hb').cells) (by simp) (pa.one o) (by omega) (fun e => by
      rcases hC.own.2 with ⟨_, h⟩ | ⟨g, cap, cur, h, _⟩
      · exact h
      · simp only [Value.slice.injEq] at h
        rw [h.1] at e
        cases e))
    clear hC
    gi_wp2_with (first
      | (refine ⟨trivial, ?_⟩; gi_at_call 39; refine (callsIn_wide.2 HCL.out).mono ?_; rintro e w3 ⟨A3, c3, rfl, ho3, hb3⟩; have HC3 := Lib.hid (HC.out.next hb3); have t4 := HC3.out.b4.cell; have t4f := HC3.out.b4.frozen; have t5 := HC3.out.b5.cell; have t5f := HC3.out.b5.frozen; have HO3 := Lib.hid ho3; have HD3 := Lib.hid ((hb3.block D hDW).trans hK); clear ho3)
      | fail)
    have b4 : Boxed ((w3.setCell ⟨w.heap.size, 0, none⟩ (.slice A3 o.length c3)).setCell ⟨w.heap.size + 1, 0, none⟩ (.int .i64 0)) w.heap.size 29 (.slice A3 o.length c3) := (HC3.out.b4.set _).other (by omega) _
    have b5 : Boxed ((w3.setCell ⟨w.heap.size, 0, none⟩ (.slice A3 o.length c3)).setCell ⟨w.heap.size + 1, 0, none⟩ (.int .i64 0)) (w.heap.size + 1) 24 (.int .i64 0) := (HC3.out.b5.other (by omega) _).set _
    have hD4 : ((w3.setCell ⟨w.heap.size, 0, none⟩ (.slice A3 o.length c3)).setCell ⟨w.heap.size + 1, 0, none⟩ (.int .i64 0)).heap[D]? = some (.deferred (some [])) :=
      (Below.heap_setCell _ ⟨w.heap.size + 1, 0, none⟩ _ D (by show D ≠ w.heap.size + 1; omega)).trans ((Below.heap_setCell _ ⟨w.heap.size, 0, none⟩ _ D (by show D ≠ w.heap.size; omega)).trans HD3.out)
    have ho4 : Own ((w3.setCell ⟨w.heap.size, 0, none⟩ (.slice A3 o.length c3)).setCell ⟨w.heap.size + 1, 0, none⟩ (.int .i64 0)) w.heap.size 9 1 A3 o.length c3 (o.map pa.sv) :=
      ((HO3.out.setCell (p := ⟨w.heap.size, 0, none⟩) (fun e => by have h1 : W.heap.size ≤ w.heap.size := (HO3.out.lt _ e).1; omega) _).setCell (p := ⟨w.heap.size + 1, 0, none⟩) (fun e => by have h1 : W.heap.size ≤ w.heap.size + 1 := (HO3.out.lt _ e).1; omega) _).base_le (by omega)
    have hl4 : Below w.heap.size w ((w3.setCell ⟨w.heap.size, 0, none⟩ (.slice A3 o.length c3)).setCell ⟨w.heap.size + 1, 0, none⟩ (.int .i64 0)) := (HC3.out.low.setCell (p := ⟨w.heap.size, 0, none⟩) (Nat.le_refl _) _).setCell (p := ⟨w.heap.size + 1, 0, none⟩) (Nat.le_succ _) _
    refine ⟨by simp, .inl ⟨_, _, rfl, run_takeDeferred hD4, ?_⟩⟩
    refine ⟨_, pa.results2 rfl rfl rfl (b4.kept (grownBy_putObj' _ D _) (fun e => by have := Option.some.inj e; omega)).cell (b5.kept (grownBy_putObj' _ D _) (fun e => by have := Option.some.inj e; omega)).cell, ?_⟩
    rw [HR.out]
    exact ⟨A3, c3, rfl, ownsRow_putObj ho4 (.deferred none) hD4 rfl, hl4.trans (belowK_b (w := w) (Nat.le_refl _) _ D _ _ (by omega) hD4 rfl rfl)⟩
  case stop =>
    rintro D pre W hD ⟨rest, hSp⟩ ⟨er, hpl, h4, h5, hlow, hsz⟩ hK
    have HR : Hid (r = .error er) := Lib.hid (by rw [HX.out, ← hSp, play_bad hpl])
    gi_wp2
    refine ⟨by simp, .inl ⟨_, _, rfl, run_takeDeferred hK, ?_⟩⟩
    refine ⟨_, pa.results2 rfl rfl rfl (h4.kept (grownBy_putObj' _ D _) (fun e => by have := Option.some.inj e; omega)).cell (h5.kept (grownBy_putObj' _ D _) (fun e => by have := Option.some.inj e; omega)).cell, ?_⟩
    exact StrsRes.no HR.out (hlow.trans (belowK_b (w := w) (Nat.le_refl _) _ D _ _ (by omega) hK rfl rfl))
end Go.Proofs.YtlcjdlnhniemcaaDoor
