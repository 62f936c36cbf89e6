/- strings.SplitSeq at '/': the iterator's contract. No condition. -/
import Derived.Test.YtlcjdlnhniemcaaDoorRangeB
import Derived.Test.YtlcjdlnhniemcaaDoorPath
import Derived.Shelf.Strings.Search3
namespace Go.Proofs.YtlcjdlnhniemcaaDoor
open Go.RowKit Go.Shelf

theorem pa.idx : ∀ s : List UInt8, (Lib.indexByte s 47 = -1 ∧ ∀ b ∈ s, b ≠ 47) ∨ ∃ i : Nat, Lib.indexByte s 47 = i ∧ i < s.length ∧ (∀ b ∈ s.take i, b ≠ 47) ∧ s = s.take i ++ 47 :: s.drop (i + 1)
  | [] => .inl ⟨rfl, fun b hb => by cases hb⟩
  | b :: t => by
    by_cases h : b = 47
    · subst h
      exact .inr ⟨0, by simp [Lib.indexByte], by simp, fun b hb => by simp at hb, by simp⟩
    · have h' : (b == 47) = false := beq_eq_false_iff_ne.2 h
      rcases pa.idx t with ⟨h1, h2⟩ | ⟨i, h1, h2, h3, h4⟩
      · refine .inl ⟨by simp [Lib.indexByte, h', h1], fun c hc => ?_⟩
        rcases List.mem_cons.1 hc with rfl | hc
        · exact h
        · exact h2 c hc
      · refine .inr ⟨i + 1, ?_, by simp; omega, fun c hc => ?_, ?_⟩
        · have e : ((i : Int) == -1) = false := beq_eq_false_iff_ne.2 (by omega)
          simp [Lib.indexByte, h', h1, e]
        · rw [List.take_succ_cons] at hc
          rcases List.mem_cons.1 hc with rfl | hc
          · exact h
          · exact h3 c hc
        · rw [List.take_succ_cons, List.drop_succ_cons, List.cons_append, ← h4]
theorem pa.split_pos (acc s : List UInt8) : 0 < (pa.split acc s).length := by
  induction s generalizing acc with
  | nil => simp [pa.split]
  | cons b t ih =>
    show 0 < (if b = 47 then _ else _ : List (List UInt8)).length
    split
    · simp
    · exact ih _
theorem run_str_to {P : Program} (t : TypeId) (h : P.underlying t = some .string) (l : List UInt8) (k : Nat) (i : Int) (hi : i = (k : Int)) (hk : k ≤ l.length) (w : World) :
    (Instr.slice t (.string (strOf l)) none (some (.int .i64 i)) none).run P w = .ok (.string (strOf (l.take k))) w := by
  subst hi
  have e : (strOf l).extract 0 k = strOf (l.take k) := by
    have h : ((strOf l).extract 0 k).data.toList = l.take k := by simp [strOf]
    rw [strOf_of ((strOf l).extract 0 k), h]
  rw [← e]
  have hj : 0 ≤ (k : Int) ∧ (k : Int) ≤ ((strOf l).size : Int) := ⟨by omega, by rw [strOf_size]; omega⟩
  simp [Instr.slice, Instr.sliceBounds, Instr.sliceBound, asIntOf, run_underlying h, hj, strOf_size]
  omega
def pa.lenAt (w : World) (B : Nat) : Nat := match w.cell? ⟨B, 0, none⟩ with | some (.string s) => s.size | _ => 0
theorem pa.lenAt_box {w : World} {B : Nat} {t : TypeId} {l : List UInt8} (h : Boxed w B t (.string (strOf l))) : pa.lenAt w B = l.length := by
  unfold pa.lenAt
  rw [h.cell]
  exact strOf_size l
/-- what a round keeps: the iterator's boxes -/
def SplitKp (Bs Bp Bz : Nat) (W W' : World) : Prop := ∀ B, (B = Bs ∨ B = Bp ∨ B = Bz) → ∀ t v, Boxed W B t v → Boxed W' B t v
theorem SplitKp.trans {Bs Bp Bz : Nat} {A B C : World} (h : SplitKp Bs Bp Bz A B) (k : SplitKp Bs Bp Bz B C) : SplitKp Bs Bp Bz A C := fun b hb t v hv => k b hb t v (h b hb t v hv)
theorem SplitKp.put {Bs Bp Bz : Nat} (W : World) (l : Nat) (o o' : Obj) (ho : W.heap[l]? = some o) (hc : o.isCells = false) : SplitKp Bs Bp Bz W (W.putObj l o') := fun B _ t v hv =>
  hv.kept (grownBy_putObj' W l o') (fun e => by
    have e2 : B = l := Option.some.inj e
    rw [← e2, show W.heap[B]? = _ from hv] at ho
    cases ho
    cases hc)

theorem str_Index47 (l : List UInt8) (w : World) : Calls Tryd.prog 60 #[.string (strOf l), .string ⟨#[47]⟩] w fun e w' => e = .returned (.int .i64 (Lib.indexByte l 47)) ∧ w' = w := by
  have h := Any.strings_Index_one sh143 (strOf l) 47 w
  have e1 : (strOf l).data.toList = l := by simp [strOf]
  rw [e1] at h
  exact h

set_option maxRecDepth 100000 in
set_option maxHeartbeats 4000000 in
theorem split_seq (n : Nat) (hn : 1 ≤ n) (Bp Bs Bz : Nat) (s : List UInt8) (hs : s.length ≤ 1000000) (w : World) (hps : Bp ≠ Bs) (hzs : Bz ≠ Bs)
    (b1 : Boxed w Bp 9 (.string ⟨#[47]⟩)) (b2 : Boxed w Bs 9 (.string (strOf s))) (b3 : Boxed w Bz 3 (.int .i64 0)) :
    SeqBox Fence.wide n Tryd.prog 58 #[.pointer (some ⟨Bp, 0, none⟩), .pointer (some ⟨Bs, 0, none⟩), .pointer (some ⟨Bz, 0, none⟩)] (fun p : List UInt8 => #[.string (strOf p)]) (SplitKp Bs Bp Bz)
      (fun ys => ys = pa.split [] s) (fun pre => ∃ r, pre ++ r = pa.split [] s) (pa.split [] s).length Bs w := by
  intro l J Jx W hW hst hY h0
  have hlt1 := b1.lt
  have hlt2 := b2.lt
  have hlt3 := b3.lt
  have c1 : Boxed W Bp 9 (.string ⟨#[47]⟩) := (hW.block _ hlt1).trans b1
  have c2 : Boxed W Bs 9 (.string (strOf s)) := (hW.block _ hlt2).trans b2
  have c3 : Boxed W Bz 3 (.int .i64 0) := (hW.block _ hlt3).trans b3
  clear hlt1 hlt2 hlt3 b1 b2 b3 hW
  have g1 := c1.cell
  have HST := Lib.hid hst
  have HY := Lib.hid hY
  clear hst hY
  refine callsIn_of_wp Tryd.func58 rfl trivial ?_ rfl
  simp only [Tryd.ntmps58, List.size_toArray, List.length_cons, List.length_nil, Nat.reduceAdd, Nat.reduceSub, Array.replicate_succ, Array.replicate_zero, List.push_toArray, List.append_toArray, List.nil_append, List.cons_append]
  gi_wp2
  gi_loopw [7, 8] (fun _ _ wr => ∃ (pre : List (List UInt8)) (rest : List UInt8), Hid (pre ++ pa.split [] rest = pa.split [] s ∧ rest.length ≤ s.length) ∧ Hid (J pre wr) ∧ Hid (Boxed wr Bp 9 (.string ⟨#[47]⟩) ∧ Boxed wr Bs 9 (.string (strOf rest)) ∧ Boxed wr Bz 3 (.int .i64 0))) (fun _ _ wr => pa.lenAt wr Bs)
  case atStart => exact ⟨[], s, Lib.hid ⟨rfl, Nat.le_refl _⟩, Lib.hid h0, Lib.hid ⟨c1, c2, c3⟩⟩
  case round =>
    obtain ⟨pre, rest, HP, HJ, HB⟩ := hrel
    rename World => wr
    clear g1 c1 c2 c3
    have d1 := HB.out.1.cell
    have d2 := HB.out.2.1.cell
    have d3 := HB.out.2.2.cell
    have f2 := HB.out.2.1.frozen
    have hrl := HP.out.2
    have hpl : pre.length < (pa.split [] s).length := by
      rw [← HP.out.1, List.length_append]
      have := pa.split_pos [] rest
      omega
    rcases pa.idx rest with ⟨hx, hno⟩ | ⟨i, hx, hi, hno, hcut⟩
    · have HE : Hid (pa.split [] rest = [rest]) := Lib.hid (by rw [pa.split_free [] rest hno]; rfl)
      clear hno
      obtain ⟨fn, tmps, assign, body, hy, hR⟩ := HY.out pre rest wr HJ.out hpl
      gi_wp2_with (first
        | (refine ⟨trivial, ?_⟩; gi_at_call 60; refine (callsIn_wide.2 (str_Index47 rest _)).mono ?_; rw [hx]; rintro e w' ⟨rfl, rfl⟩)
        | fail)
      refine hR.mono ?_
      rintro e W3 (⟨rfl, hJ3, hk3⟩ | ⟨rfl, hJx3⟩)
      · gi_wp2
        go_end0
        exact ⟨⟨_, rfl⟩, .inl ⟨_, by rw [← HP.out.1, HE.out], hJ3⟩⟩
      · gi_wp2
        go_end0
        exact ⟨⟨_, rfl⟩, .inr ⟨_, ⟨[], by rw [List.append_nil, ← HP.out.1, HE.out]⟩, hJx3⟩⟩
    · have HE : Hid (pa.split [] rest = rest.take i :: pa.split [] (rest.drop (i + 1))) := Lib.hid (by
        conv => lhs; rw [hcut]
        rw [pa.split_at [] _ _ hno]
        rfl)
      clear hno hcut
      have hc1 : ∀ w, (Instr.slice 9 (.string (strOf rest)) none (some (.int .i64 i)) none).run Tryd.prog w = .ok (.string (strOf (rest.take i))) w := fun w => run_str_to (P := Tryd.prog) 9 Tryd.underlying9 rest i i rfl (by omega) w
      have hc2 : ∀ w, (Instr.slice 9 (.string (strOf rest)) (some (.int .i64 ((i : Int) + 1))) none none).run Tryd.prog w = .ok (.string (strOf (rest.drop (i + 1)))) w := fun w => run_str_from (P := Tryd.prog) 9 Tryd.underlying9 rest (i + 1) ((i : Int) + 1) (by omega) (by omega) w
      obtain ⟨fn, tmps, assign, body, hy, hR⟩ := HY.out pre (rest.take i) wr HJ.out hpl
      gi_wp2_with (first
        | (refine ⟨trivial, ?_⟩; gi_at_call 60; refine (callsIn_wide.2 (str_Index47 rest _)).mono ?_; rw [hx]; rintro e w' ⟨rfl, rfl⟩)
        | fail)
      refine hR.mono ?_
      rintro e W3 (⟨rfl, hJ3, hk3⟩ | ⟨rfl, hJx3⟩)
      · have e1 := hk3 Bp (.inr (.inl rfl)) _ _ HB.out.1
        have e2 := hk3 Bs (.inl rfl) _ _ HB.out.2.1
        have e3 := hk3 Bz (.inr (.inr rfl)) _ _ HB.out.2.2
        have k1 := e1.cell
        have k2 := e2.cell
        have k2f := e2.frozen
        have E1 := Lib.hid e1
        have E2 := Lib.hid e2
        have E3 := Lib.hid e3
        have J3 := Lib.hid hJ3
        clear e1 e2 e3 hk3 hJ3 d1 d2 d3 f2
        gi_wp2
        go_roundw
        case rel => exact ⟨pre ++ [rest.take i], rest.drop (i + 1), Lib.hid ⟨by rw [← HP.out.1, HE.out]; simp, by rw [List.length_drop]; omega⟩, Lib.hid (HST.out _ _ _ J3.out), Lib.hid ⟨E1.out.other hps _, E2.out.set _, E3.out.other hzs _⟩⟩
        case measure =>
          rw [pa.lenAt_box (E2.out.set _), pa.lenAt_box HB.out.2.1, List.length_drop]
          omega
      · gi_wp2
        refine bodyPost_ret (results_none rfl _ _ _) rfl ?_
        exact ⟨⟨_, rfl⟩, .inr ⟨_, ⟨pa.split [] (rest.drop (i + 1)), by rw [← HP.out.1, HE.out]; simp⟩, hJx3⟩⟩
end Go.Proofs.YtlcjdlnhniemcaaDoor
